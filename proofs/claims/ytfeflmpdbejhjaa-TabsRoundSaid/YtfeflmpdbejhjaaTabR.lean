/- The reference's IsHome, Order, Beside. -/
import Derived.Test.YtfeflmpdbejhjaaTabO
namespace Go.Proofs.Ytfeflmpdbejhjaa
open Go.RowKit
set_option linter.unusedVariables false

def kindS (v : FV) : Bool := decide (v.kind = 0) || decide (v.kind = 1)
set_option maxHeartbeats 1000000 in
theorem isHome_any (v : FV) (w : World) : Calls Try.prog 23 #[.agg #[.int .i64 v.kind, .int .i64 v.num, .int .i64 v.x2, .int .i64 v.x3, .int .i64 v.x4, .int .i64 v.x5, .slice v.A6 v.n6 v.c6, .slice v.A7 v.n7 v.c7, .slice v.A8 v.n8 v.c8, .bool v.b9, .bool v.b10]] w fun e w' => e = .returned (.bool (kindS v)) ∧ Below w.heap.size w w' := by
  have hb : Below w.heap.size w (w.alloc (.cells #[.int .i64 v.kind, .int .i64 v.num, .int .i64 v.x2, .int .i64 v.x3, .int .i64 v.x4, .int .i64 v.x5, .slice v.A6 v.n6 v.c6, .slice v.A7 v.n7 v.c7, .slice v.A8 v.n8 v.c8, .bool v.b9, .bool v.b10] 33)) := (Below.refl _ _).alloc (Nat.le_refl _) _
  have hx := Box.new w 33 #[.int .i64 v.kind, .int .i64 v.num, .int .i64 v.x2, .int .i64 v.x3, .int .i64 v.x4, .int .i64 v.x5, .slice v.A6 v.n6 v.c6, .slice v.A7 v.n7 v.c7, .slice v.A8 v.n8 v.c8, .bool v.b9, .bool v.b10]
  have l0 : (w.alloc (.cells #[.int .i64 v.kind, .int .i64 v.num, .int .i64 v.x2, .int .i64 v.x3, .int .i64 v.x4, .int .i64 v.x5, .slice v.A6 v.n6 v.c6, .slice v.A7 v.n7 v.c7, .slice v.A8 v.n8 v.c8, .bool v.b9, .bool v.b10] 33)).cell? ⟨w.heap.size, 0, none⟩ = some (.int .i64 v.kind) := hx.cell 0
  have HB := hide hb
  clear hb hx
  by_cases k0 : v.kind = 0
  · have d0 : (v.kind == 0) = true := by simp [k0]
    have HE := hide (show kindS v = true by simp [kindS, k0])
    clear k0
    go_enter Try.func23, Try.ntmps23
    go_wp2_with fail
    go_ret
    exact ⟨retB (by rw [HE.out]), HB.out⟩
  · have d0 : (v.kind == 0) = false := by simp [k0]
    by_cases k1 : v.kind = 1
    · have d1 : (v.kind == 1) = true := by simp [k1]
      have HE := hide (show kindS v = true by simp [kindS, k1])
      clear k0 k1
      go_enter Try.func23, Try.ntmps23
      go_wp2_with fail
      go_ret
      exact ⟨retB (by rw [HE.out]), HB.out⟩
    · have d1 : (v.kind == 1) = false := by simp [k1]
      have HE := hide (show kindS v = false by simp [kindS, k0, k1])
      clear k0 k1
      go_enter Try.func23, Try.ntmps23
      go_wp2_with fail
      go_ret
      exact ⟨retB (by rw [HE.out]), HB.out⟩

/-- How far the reference's loop is. -/
structure RefSt (w : World) (us : Nat → FV) (k : Nat) (v1 v2 : Value) (wr : World) : Prop where
  ex : ∃ A1 m1 c1 A2 m2 c2, v1 = .slice A1 m1 c1 ∧ v2 = .slice A2 m2 c2 ∧ RowI wr w.heap.size A1 m1 c1 (refO us k).1 ∧ RowI wr w.heap.size A2 m2 c2 (refO us k).2 ∧ Below w.heap.size w wr ∧ (blk A1 = none ∨ blk A1 ≠ blk A2)
theorem refO_len (us : Nat → FV) : ∀ k, (refO us k).1.length ≤ k ∧ (refO us k).2.length ≤ k
  | 0 => ⟨Nat.le_refl _, Nat.le_refl _⟩
  | k + 1 => by
    have ih := refO_len us k
    unfold refO
    split
    · split
      · simp; omega
      · have hc := cutO_le us (us k).num (refO us k).1 (refO us k).1.length
        simp [insO]; omega
    · omega

set_option maxRecDepth 100000 in
set_option maxHeartbeats 4000000 in
theorem rorder_any (A : Option Addr) (n c : Nat) (us : Nat → FV) (w : World) (h : Flds w A n us) (hn : n ≤ 1000000) :
    Calls Try.prog 15 #[.slice A n c] w fun e w' => ∃ A' m c', e = .returned (.slice A' m c') ∧ RowI w' w.heap.size A' m c' (ordR us n) ∧ Below w.heap.size w w' := by
  have HF := hide h
  clear h
  go_enter Try.func15, Try.ntmps15
  go_wp2_with fail
  go_loopw [3, 4, 5] (fun v1 v2 i wr => ∃ k : Nat, k ≤ n ∧ i = .int .i64 (k : Int) ∧ RefSt w us k v1 v2 wr) (fun _ _ i _ => n - (intOf i).toNat)
  case atStart => exact ⟨0, Nat.zero_le _, rfl, ⟨none, 0, 0, none, 0, 0, rfl, rfl, RowI.nil _ _, RowI.nil _ _, Below.refl _ _, .inl rfl⟩⟩
  case round =>
    obtain ⟨k, hk, rfl, ⟨A1, m1, c1, A2, m2, c2, rfl, rfl, hr1, hr2, hb, hne⟩⟩ := hrel
    have hm1 := RowI.len hr1
    have hm2 := RowI.len hr2
    have hll := refO_len us k
    have HR1 := hide hr1
    have HR2 := hide hr2
    have HB := hide hb
    have HNE := hide hne
    have HF1 := hide (HF.out.below hb)
    clear hr1 hr2 hb hne
    by_cases hlt : k < n
    · obtain ⟨b, o, rfl, c0, c1', c2', c3, c4, c5, c6, c7, c8, c9, c10⟩ := HF1.out.c11 hlt
      have i0 : (0 : Int) ≤ (k : Int) := by omega
      have i1 : (k : Int) < (n : Int) := by omega
      have HREF := hide (show refO us (k + 1) = (if homeS (us k) = true then (if (us k).num = 0 then ((refO us k).1, (refO us k).2 ++ [(k : Int)]) else (insO us (refO us k).1 k, (refO us k).2)) else refO us k) from rfl)
      go_wp2_with fail
      refine (isHome_any (us k) _).mono ?_
      rintro e w1 ⟨rfl, hb1⟩
      have HF2 := hide (HF1.out.below hb1)
      have HR1' := hide (RowG.below HR1.out hb1)
      have HR2' := hide (RowG.below HR2.out hb1)
      have HB1 := hide (HB.out.trans (hb1.mono HB.out.size))
      clear hb1 c0 c1' c2' c3 c4 c5 c6 c7 c8 c9 c10
      obtain ⟨b', o', e', c0, c1', c2', c3, c4, c5, c6, c7, c8, c9, c10⟩ := HF2.out.c11 hlt
      injection e' with e'
      injection e' with e1 e2
      subst e1 e2
      clear c0 c2' c3 c4 c5 c6 c7 c8 c9 c10
      have hhs : homeS (us k) = (kindS (us k) && decide (0 ≤ (us k).num)) := rfl
      rw [hhs] at HREF
      generalize kindS (us k) = ks at HREF ⊢
      clear hhs
      cases ks
      · go_wp2_with fail
        go_roundw
        case rel => exact ⟨k + 1, by omega, by go_num, ⟨A1, m1, c1, A2, m2, c2, rfl, rfl, by rw [HREF.out]; exact HR1'.out, by rw [HREF.out]; exact HR2'.out, HB1.out, HNE.out⟩⟩
        case measure => simp [intOf]; omega
      by_cases hneg : (us k).num < 0
      · have HE := hide (show refO us (k + 1) = refO us k by rw [HREF.out, decide_eq_false (by omega)]; rfl)
        go_wp2_with fail
        go_roundw
        case rel => exact ⟨k + 1, by omega, by go_num, ⟨A1, m1, c1, A2, m2, c2, rfl, rfl, by rw [HE.out]; exact HR1'.out, by rw [HE.out]; exact HR2'.out, HB1.out, HNE.out⟩⟩
        case measure => simp [intOf]; omega
      by_cases hz : (us k).num = 0
      · have HE := hide (show refO us (k + 1) = ((refO us k).1, (refO us k).2 ++ [(k : Int)]) by rw [HREF.out, decide_eq_true (show 0 ≤ (us k).num by omega), Bool.and_self, if_pos rfl, if_pos hz])
        have hz' : ((us k).num == 0) = true := by simp [hz]
        have hs1 : w.heap.size ≤ w1.heap.size := HB1.out.size
        clear hz
        go_wp2_with (refine wpList_appI rfl (.tmp 33) (.tmp 35) rfl w.heap.size rfl (HR2'.out.alloc _) rfl (IntV.box (Box.new _ _ _)) (by omega) (by simp; omega) ?_; intro A3 c3 w2 hr3 hg3 hb3 hor)
        go_roundw
        case rel => exact ⟨k + 1, by omega, by go_num, ⟨A1, m1, c1, A3, m2 + 1, c3, rfl, rfl, by rw [HE.out]; exact RowG.kept (HR1'.out.alloc _) hg3 HNE.out, by rw [HE.out]; exact hr3, (HB1.out.alloc hs1 _).trans hb3, by
          rcases HNE.out with e | e
          · exact .inl e
          · rcases hor with h1 | h1
            · exact .inr (by rw [h1]; exact e)
            · right
              rw [h1]
              intro e3
              have := (RowG.blk_ge HR1'.out _ e3).2
              simp at this
              omega⟩⟩
        case measure => simp [intOf]; omega
      have HE := hide (show refO us (k + 1) = (insO us (refO us k).1 k, (refO us k).2) by rw [HREF.out, decide_eq_true (show 0 ≤ (us k).num by omega), Bool.and_self, if_pos rfl, if_neg hz])
      have hz' : ((us k).num == 0) = false := by simp [hz]
      have hs1 : w.heap.size ≤ w1.heap.size := HB1.out.size
      clear hz
      have HMEM := hide (show ∀ t, t < m1 → ∃ i : Nat, i < n ∧ nth (refO us k).1 t = (i : Int) from fun t ht => by
        obtain ⟨i, h1, _, h3⟩ := ((refO_ok us k).mem (nth (refO us k).1 t)).1 (.inl (nth_mem (by rw [hm1]; exact ht)))
        exact ⟨i, by omega, h3⟩)
      have HV := hide (RowI.read HR1'.out)
      obtain ⟨v, hv⟩ : ∃ v, (us k).num = v := ⟨_, rfl⟩
      have HCUT := hide (show insO us (refO us k).1 k = (refO us k).1.take (cutO us v (refO us k).1 m1) ++ [(k : Int)] ++ (refO us k).1.drop (cutO us v (refO us k).1 m1) by rw [← hv, ← hm1]; rfl)
      have HLE := hide (cutO_le us v (refO us k).1 m1)
      rw [hv] at c1' hz' hneg
      clear hv
      go_upto_block 2 with fail
      go_cut [6] (fun f wx => ∃ q, f = .int .i64 (cutO us v (refO us k).1 m1 : Int) ∧ wx = w1.drewN q)
      case first =>
        go_wp2_with fail
        go_loopw [6] (fun f wx => ∃ t q : Nat, t ≤ m1 ∧ f = .int .i64 (t : Int) ∧ wx = w1.drewN q ∧ Hid (cutO us v (refO us k).1 t = cutO us v (refO us k).1 m1)) (fun f _ => (intOf f).toNat)
        case atStart => exact ⟨m1, 0, Nat.le_refl _, rfl, rfl, rfl⟩
        case round =>
          obtain ⟨t, q, ht, rfl, rfl, hcut⟩ := hrel
          cases t with
          | zero =>
            go_wp2_with fail
            go_quiet (fail)
            go_wp2
            go_meet
            exact ⟨_, by rw [← hcut.out]; rfl, World.drewN_drewN _ _ _⟩
          | succ i =>
            obtain ⟨x, hx, hnx⟩ := HMEM.out i (by omega)
            obtain ⟨bb, bo, rfl, hc⟩ := HV.out.at_ i (by omega)
            rw [hnx] at hc
            obtain ⟨b', o', e', d0, d1, d2, d3, d4, d5, d6, d7, d8, d9, d10⟩ := HF2.out.c11 hx
            injection e' with e'
            injection e' with e1 e2
            subst e1 e2
            clear d0 d2 d3 d4 d5 d6 d7 d8 d9 d10
            have HNX := hide (show numO us (nth (refO us k).1 i) = (us x).num by unfold numO; rw [hnx]; rfl)
            have HCC := hide (show cutO us v (refO us k).1 (i + 1) = if v < (us x).num then cutO us v (refO us k).1 i else i + 1 by rw [← HNX.out]; rfl)
            clear hnx
            generalize (us x).num = u at d1 HCC HNX
            have t0 : ((i + 1 : Nat) : Int) = (i : Int) + 1 := by omega
            rw [t0]
            clear t0
            have t1 : (0 : Int) < (i : Int) + 1 := by omega
            have v1 : IntKind.i64.wrap ((i : Int) + 1 - 1) = (i : Int) := by rw [IntWalk.i64_in _ (by omega)]; omega
            have j0 : (0 : Int) ≤ (i : Int) := by omega
            have j1 : (i : Int) < (m1 : Int) := by omega
            have j2 : (0 : Int) ≤ (x : Int) := by omega
            have j3 : (x : Int) < (n : Int) := by omega
            by_cases huv : v < u
            · go_wp2_with fail
              go_quiet (fail)
              go_wp2_with fail
              go_roundw
              case rel => exact ⟨i, _, by omega, rfl, (by first | rfl | exact World.drewN_drewN _ _ _), by
                have := HCC.out
                rw [if_pos huv] at this
                rw [← this]
                exact hcut.out⟩
              case measure => (simp [intOf] <;> omega)
            · go_wp2_with fail
              go_quiet (fail)
              go_wp2_with fail
              go_meet
              exact ⟨_, by
                have := HCC.out
                rw [if_neg (by omega)] at this
                rw [← hcut.out, this]; rfl, World.drewN_drewN _ _ _⟩
      case rest =>
        obtain ⟨q, rfl, rfl⟩ := hcut
        have hle := HLE.out
        obtain ⟨t, hte⟩ : ∃ t, cutO us v (refO us k).1 m1 = t := ⟨_, rfl⟩
        rw [hte] at HCUT hle ⊢
        clear HLE hte
        have hcap := RowG.cap HR1'.out
        have hsl1 := run_subI_h A1 m1 c1 t (by omega)
        have hsl2 := run_subI_l A1 m1 c1 t hle
        have HT := hide (fun (W : World) (hb : Below w1.heap.size w1 W) => (HV.out.below hb).take hle)
        have HD := hide (fun (W : World) (hb : Below w1.heap.size w1 W) => (HV.out.below hb).sub hle hcap.1)
        have HB2 := hide (fun (W : World) (hb : Below w1.heap.size w1 W) => HB1.out.trans (hb.mono hs1))
        have HZ2 := hide (fun (W : World) (hb : Below w1.heap.size w1 W) => RowG.below HR2'.out hb)
        have HBQ := hide (below_drewN (Below.refl w1.heap.size w1) q)
        clear c1' HMEM HV HR1 HF1 HREF
        generalize hW0 : w1.drewN q = W0 at HBQ ⊢
        clear hW0
        go_wp2_with fail
        go_region_held3 (fun _ => True) (first | trivial | go_keep) (first
          | (refine step_appI0 (by rfl) (.const (.slice none 0 0)) (.tmp 62) (by rfl) (by rfl) (by rfl) (HT.out _ (by first | exact HBQ.out.drew | exact below_drewN (HBQ.out.alloc HBQ.out.size _) 1 | exact below_drewN HBQ.out 1 | exact (HBQ.out.alloc HBQ.out.size _).drew | exact HBQ.out.drew.alloc HBQ.out.size _)) (by omega) ?_; intro A3 c3 w3 hr3 hb3)
          | (refine step_appI (by rfl) (.tmp 63) (.tmp 65) (by rfl) w1.heap.size (by rfl) (RowG.alloc (RowG.mono hr3 (by have := HBQ.out.size; simp; omega)) _) (by rfl) (IntV.box (Box.new _ _ _)) (by omega) (by have := HBQ.out.size; have := hb3.size; simp at this ⊢; omega) ?_; intro A4 c4 w4 hr4 hg4 hb4 hor4)
          | (refine step_appI (by rfl) (.tmp 63) (.tmp 65) (by rfl) w1.heap.size (by rfl) (RowG.mono hr3 (by have := HBQ.out.size; simp; omega)) (by rfl) (IntV.box (Box.below (Box.drewN (Box.new _ _ _) 1) hb3)) (by omega) (by have := HBQ.out.size; have := hb3.size; simp at this ⊢; omega) ?_; intro A4 c4 w4 hr4 hg4 hb4 hor4)
          | (refine step_appI (by rfl) (.tmp 66) (.tmp 69) (by rfl) w1.heap.size (by rfl) hr4 (by rfl) (HD.out _ (by
              first
              | exact (((HBQ.out.drew.trans (hb3.mono HBQ.out.size)).alloc (Nat.le_trans HBQ.out.size hb3.size) _)).trans hb4
              | exact ((below_drewN (HBQ.out.alloc HBQ.out.size _) 1).trans (hb3.mono (by have := HBQ.out.size; simp; omega))).trans hb4
              | exact ((HBQ.out.drew.alloc HBQ.out.size _).trans (hb3.mono (by have := HBQ.out.size; simp; omega))).trans hb4)) (by omega) (by have := HBQ.out.size; have := hb3.size; have := hb4.size; simp at *; omega) ?_; intro A5 c5 w5 hr5 hg5 hb5 hor5))
        all_goals have hbw : Below w1.heap.size w1 w5 := (by first | exact ((((below_drewN HBQ.out 1).trans (hb3.mono HBQ.out.size)).alloc (Nat.le_trans HBQ.out.size hb3.size) _).trans hb4).trans hb5 | exact (((below_drewN (HBQ.out.alloc HBQ.out.size _) 1).trans (hb3.mono (Nat.le_trans HBQ.out.size ((Below.refl W0.heap.size W0).alloc (Nat.le_refl _) _).size))).trans hb4).trans hb5)
        all_goals have hgt : ∀ g', blk A5 = some g' → w1.heap.size ≤ g' := fun g' hg => (RowG.blk_ge hr5 g' hg).1
        all_goals have hra := HZ2.out _ hbw
        all_goals have hrb := HB2.out _ hbw
        all_goals have HQ := hide (And.intro hr5 (And.intro hgt (And.intro hra hrb)))
        all_goals clear hr5 hgt hra hrb hbw hb3 hb4 hb5 hr3 hr4 hg4 hg5 hor4 hor5
        all_goals go_wp2_with fail
        all_goals go_roundw
        case rel | rel => exact ⟨k + 1, by omega, by go_num, ⟨A5, t + 1 + (m1 - t), c5, A2, m2, c2, rfl, rfl, by
          rw [HE.out]
          show RowI w5 w.heap.size A5 _ c5 (insO us (refO us k).1 k)
          rw [HCUT.out]
          exact RowG.mono HQ.out.1 hs1, by rw [HE.out]; exact HQ.out.2.2.1, HQ.out.2.2.2, by
            right
            intro e
            cases hA : blk A5 with
            | none =>
              rcases RowG.form HQ.out.1 with ⟨_, h0, _⟩ | ⟨g, h1, _⟩
              · omega
              · rw [h1] at hA; cases hA
            | some g' =>
              have h1 := HQ.out.2.1 g' hA
              have h2 := (RowG.blk_ge HR2'.out g' (by rw [← e, hA])).2
              omega⟩⟩
        case measure | measure => simp [intOf]; omega
    · obtain rfl : k = n := by omega
      have hs1 : w.heap.size ≤ wr.heap.size := HB.out.size
      go_wp2_with (refine wpList_appI rfl (.tmp 71) (.tmp 72) rfl w.heap.size rfl HR1.out rfl (RowI.read HR2.out) (by omega) hs1 ?_; intro A3 c3 w2 hr3 hg3 hb3 hor)
      go_ret
      exact ⟨A3, m1 + m2, c3, rfl, hr3, HB.out.trans hb3⟩

theorem ordR_ne (us : Nat → FV) (n : Nat) : ∀ i j, i < j → j < (ordR us n).length → nth (ordR us n) i ≠ nth (ordR us n) j := fun i j h hj e => by
  have := List.pairwise_iff_getElem.1 (ordR_sorted us n) i j (by omega) hj h
  rw [← nth_eq (by omega), ← nth_eq hj, e] at this
  exact this.irr (ltF_weak us)
set_option maxRecDepth 100000 in
set_option maxHeartbeats 4000000 in
theorem rbeside_any (A : Option Addr) (n c : Nat) (us : Nat → FV) (a b : Int) (w : World) (h : Flds w A n us) (hn : n ≤ 1000000) (hb : -1 ≤ b ∧ b ≤ 1) :
    Calls Try.prog 14 #[.slice A n c, .int .i64 a, .int .i64 b] w fun e w' => e = .returned (.tuple #[.int .i64 (bsdS (ordR us n) a b).1, .bool (bsdS (ordR us n) a b).2]) ∧ Below w.heap.size w w' := by
  have HC := hide (rorder_any A n c us w h hn)
  have hol := (show (ordR us n).length ≤ n from ordR_len us n)
  have HND := hide (ordR_ne us n)
  clear h
  generalize ordR us n = o at HC hol HND ⊢
  obtain ⟨r, hrr⟩ : ∃ r, bsdS o a b = r := ⟨_, rfl⟩
  rw [hrr]
  have HR := hide hrr
  clear hrr
  go_enter Try.func14, Try.ntmps14
  go_wp2_with fail
  refine HC.out.mono ?_
  rintro e w1 ⟨A', m, c', rfl, hr, hb1⟩
  have HB1 := hide hb1
  have HV := hide (RowI.read hr)
  have HL := hide (RowI.len hr)
  have hlen := RowI.len hr
  clear hr hb1
  go_wp2_with fail
  go_loop [9] (fun i => ∃ k : Nat, k ≤ m ∧ i = .int .i64 (k : Int) ∧ Hid ((∀ j, j < k → nth o j ≠ a) ∨ (r = (0, false) ∧ ∃ j, j < k ∧ nth o j = a))) (fun i => m - (intOf i).toNat)
  case atStart => exact ⟨0, Nat.zero_le _, rfl, .inl (fun j hj => absurd hj (by omega))⟩
  case round =>
    obtain ⟨k, hk, rfl, hj⟩ := hrel
    by_cases hlt : k < m
    · obtain ⟨bb, bo, rfl, hc⟩ := HV.out.at_ k hlt
      have h1 : (k : Int) < (m : Int) := by omega
      have h0 : (0 : Int) ≤ (k : Int) := by omega
      by_cases hs : nth o k = a
      · have hidx := hide (show idxI a o = (k : Int) from by
          rcases hj.out with h2 | ⟨_, j, h3, h4⟩
          · exact idxI_at (by rw [hlen]; exact hlt) hs h2
          · exact absurd (h4.trans hs.symm) (HND.out j k h3 (by rw [hlen]; exact hlt)))
        have HS := hide hs
        have hs' : (nth o k == a) = true := by rw [hs]; simp
        have v1 : IntKind.i64.wrap ((k : Int) + b) = (k : Int) + b := by rw [IntWalk.i64_in _ (by omega)]
        have hrr := HR.out
        unfold bsdS at hrr
        rw [hidx.out, hlen] at hrr
        clear hs
        by_cases k1 : (k : Int) + b < 0
        · rw [if_pos (.inr (.inl k1))] at hrr
          have HE := hide hrr
          clear hrr
          go_wp2_with fail
          go_round
          case rel => exact ⟨k + 1, by omega, by go_num, .inr ⟨HE.out.symm, k, by omega, HS.out⟩⟩
          case measure => simp [intOf]; omega
        by_cases k2 : (m : Int) ≤ (k : Int) + b
        · rw [if_pos (.inr (.inr k2))] at hrr
          have HE := hide hrr
          clear hrr
          go_wp2_with fail
          go_round
          case rel => exact ⟨k + 1, by omega, by go_num, .inr ⟨HE.out.symm, k, by omega, HS.out⟩⟩
          case measure => simp [intOf]; omega
        rw [if_neg (by omega)] at hrr
        obtain ⟨j, hj⟩ : ∃ j : Nat, (k : Int) + b = j := ⟨((k : Int) + b).toNat, by omega⟩
        have v2 : IntKind.i64.wrap ((k : Int) + b) = (j : Int) := v1.trans hj
        clear v1
        rw [hj] at hrr k1 k2
        have HE := hide hrr
        clear hrr
        obtain ⟨bb2, bo2, e', hc2⟩ := HV.out.at_ j (by omega)
        injection e' with e'
        injection e' with e1 e2
        subst e1 e2
        have i0 : (0 : Int) ≤ (j : Int) := by omega
        have i1 : (j : Int) < (m : Int) := by omega
        clear hj
        go_wp2_with fail
        go_ret2
        exact ⟨by rw [← HE.out]; rfl, HB1.out⟩
      · have HS := hide hs
        have hs' : (nth o k == a) = false := by simpa using hs
        clear hs
        go_wp2_with fail
        go_round
        case rel => exact ⟨k + 1, by omega, by go_num, by
          rcases hj.out with h2 | ⟨h3, j, h4, h5⟩
          · exact .inl fun j h' => by
              rcases Nat.lt_succ_iff_lt_or_eq.1 h' with h1 | h1
              · exact h2 j h1
              · rw [h1]; exact HS.out
          · exact .inr ⟨h3, j, by omega, h5⟩⟩
        case measure => simp [intOf]; omega
    · have HE := hide (show r = (0, false) from by
        rcases hj.out with h2 | ⟨h3, _⟩
        · rw [← HR.out]
          unfold bsdS
          rw [idxI_no (fun j h' => h2 j (by omega)), if_pos (.inl (by omega))]
        · exact h3)
      go_wp2_with fail
      go_ret2
      exact ⟨by rw [HE.out]; rfl, HB1.out⟩
end Go.Proofs.Ytfeflmpdbejhjaa
