/- tabs.Order, beside, Next, Prev. -/
import Derived.Test.YtfeflmpdbejhjaaIntO
namespace Go.Proofs.Ytfeflmpdbejhjaa
open Go.RowKit
set_option linter.unusedVariables false

theorem Flds.blk_lt {w : World} {A : Option Addr} {n : Nat} {us : Nat → FV} (h : Flds w A n us) (hn : 0 < n) {b : Nat} (hb : blk A = some b) : b < w.heap.size := by
  obtain ⟨b', o', h1, hc⟩ := h.at_ 0 hn
  rw [h1] at hb
  injection hb with hb
  exact h.lt hn (h1.trans (by rw [← hb]))

theorem ordR_len (us : Nat → FV) (n : Nat) : (ordR us n).length ≤ n := by
  have hnd : (ordR us n).Nodup := (ordR_sorted us n).imp fun {a b} h e => by rw [e] at h; exact h.irr (ltF_weak us)
  refine Nat.le_trans (sub_len (ordR us n) (homeL us n) hnd (fun x hx => (homeL_mem us n x).2 ((ordR_mem us n x).1 hx))) (homeL_len us n)
/-- How far Order's loop is. -/
structure OrdSt (W1 : World) (q : Nat) (us : Nat → FV) (k : Nat) (v : Value) (wr : World) : Prop where
  ex : ∃ A' m c', v = .slice A' m c' ∧ RowI wr (q + 1) A' m c' (homeL us k) ∧ Below (q + 1) W1 wr ∧ (A' = none ∨ 0 < m)

set_option maxRecDepth 100000 in
set_option maxHeartbeats 4000000 in
theorem sortNil_any (q : Nat) (w : World) : Calls Try.prog 17 #[.slice none 0 0, .func (.func 18) #[] #[.pointer (some ⟨q, 0, none⟩)]] w fun e w' => e = .returned (.tuple #[]) ∧ w = w' := by
  have hins : ∀ W, Calls Try.prog 27 #[.slice none 0 0, .int .i64 0, .int .i64 0, .func (.func 18) #[] #[.pointer (some ⟨q, 0, none⟩)]] W fun e w' => e = .returned (.tuple #[]) ∧ W = w' := fun W => by
    go_enter Try.func27, Try.ntmps27
    go_wp2_with fail
    go_loop [8] (fun i => i = .int .i64 1) (fun _ => 0)
    case atStart => rfl
    case round =>
      subst hrel
      go_wp2_with fail
      go_end0
      exact ⟨rfl, rfl⟩
  have hst : ∀ W, Calls Try.prog 24 #[.slice none 0 0, .int .i64 0, .func (.func 18) #[] #[.pointer (some ⟨q, 0, none⟩)]] W fun e w' => e = .returned (.tuple #[]) ∧ W = w' := fun W => by
    go_enter Try.func24, Try.ntmps24
    go_wp2_with fail
    go_loop [7, 8] (fun i j => i = .int .i64 0 ∧ j = .int .i64 20) (fun _ _ => 0)
    case atStart => exact ⟨rfl, rfl⟩
    case round =>
      obtain ⟨rfl, rfl⟩ := hrel
      go_wp2_with fail
      refine (hins _).mono ?_
      rintro e w1 ⟨rfl, rfl⟩
      go_wp2_with fail
      go_loop [6] (fun i => i = .int .i64 20) (fun _ => 0)
      case atStart => rfl
      case round =>
        subst hrel
        go_wp2_with fail
        go_end0
        exact ⟨rfl, rfl⟩
  go_enter Try.func17, Try.ntmps17
  go_wp2_with fail
  refine (hst _).mono ?_
  rintro e w1 ⟨rfl, rfl⟩
  go_wp2_with fail
  go_end0
  exact ⟨rfl, rfl⟩

/-- What Order's sort needs. -/
theorem Flds.env {q g : Nat} {A : Option Addr} {n c : Nat} {us : Nat → FV} {W : World} (hx : Box W q 22 #[.slice A n c]) (hf : Flds W A n us) (hq : q < g) (hA : ∀ b, blk A = some b → b < q) : Env18 q g A n c us W :=
  ⟨hx, hf, by omega, fun b hb => by have := hA b hb; omega⟩
theorem homeL_srt {us : Nat → FV} {n i j : Nat} (h : i < j) (hj : j < (homeL us n).length) : nth (homeL us n) i < nth (homeL us n) j := by
  have := List.pairwise_iff_getElem.1 (homeL_up us n) i j (by omega) hj h
  rwa [nth_eq (by omega), nth_eq hj]

set_option maxRecDepth 100000 in
set_option maxHeartbeats 4000000 in
theorem order_any (A : Option Addr) (n c : Nat) (us : Nat → FV) (w : World) (h : Flds w A n us) (hn : n ≤ 1000000) :
    Calls Try.prog 10 #[.slice A n c] w fun e w' => ∃ A' m c', e = .returned (.slice A' m c') ∧ RowI w' w.heap.size A' m c' (ordR us n) ∧ Below w.heap.size w w' := by
  obtain ⟨q, hq⟩ : ∃ q, w.heap.size = q := ⟨_, rfl⟩
  have HQ := hide hq
  have HB0 := hide ((Below.refl w.heap.size w).alloc (Nat.le_refl _) (.cells #[.slice A n c] 22))
  have HX0 := hide (Box.newAt hq 22 #[.slice A n c])
  have HF := hide h
  have hsz : (w.alloc (.cells #[.slice A n c] 22)).heap.size = q + 1 := by simp [hq]
  have HSZ := hide hsz
  have l0 := HX0.out.cell 0
  clear hsz h
  go_enter Try.func10, Try.ntmps10
  go_wp2_with fail
  go_loopw [3, 8] (fun v i wr => ∃ k : Nat, k ≤ n ∧ i = .int .i64 (k : Int) ∧ OrdSt (w.alloc (.cells #[.slice A n c] 22)) q us k v wr) (fun _ i _ => n - (intOf i).toNat)
  case atStart => exact ⟨0, Nat.zero_le _, rfl, ⟨none, 0, 0, rfl, RowI.nil _ _, Below.refl _ _, .inl rfl⟩⟩
  case round =>
    obtain ⟨k, hk, rfl, ⟨A', m, c', rfl, hr, hb, hAm⟩⟩ := hrel
    have HAM := hide hAm
    clear hAm
    have hlen := RowI.len hr
    have hll := homeL_len us k
    have HR := hide hr
    have HB := hide hb
    have HX := hide (HX0.out.low hb (by omega))
    have HF1 := hide ((HF.out.below ((Below.refl _ _).alloc (Nat.le_refl _) _)).below (hb.mono (Nat.le_of_eq HSZ.out)))
    have l1 := HX.out.cell 0
    clear hr hb
    by_cases hlt : k < n
    · obtain ⟨b, o, rfl, c0, c1, c2, c3, c4, c5, c6, c7, c8, c9, c10⟩ := HF1.out.c11 hlt
      have i0 : (0 : Int) ≤ (k : Int) := by omega
      have i1 : (k : Int) < (n : Int) := by omega
      obtain ⟨q2, hq2⟩ : ∃ q2, wr.heap.size = q2 := ⟨_, rfl⟩
      have hx2 := Box.newAt hq2 33 #[.int .i64 (us k).kind, .int .i64 (us k).num, .int .i64 (us k).x2, .int .i64 (us k).x3, .int .i64 (us k).x4, .int .i64 (us k).x5, .slice (us k).A6 (us k).n6 (us k).c6, .slice (us k).A7 (us k).n7 (us k).c7, .slice (us k).A8 (us k).n8 (us k).c8, .bool (us k).b9, .bool (us k).b10]
      go_wp2_with fail
      refine (home_any (us k) _).mono ?_
      rintro e w1 ⟨rfl, hb1⟩
      have hsw : q + 1 ≤ wr.heap.size := by have := HB.out.size; have := HSZ.out; omega
      have HR1 := hide ((HR.out.alloc _).below hb1)
      have HB1 := hide ((HB.out.alloc hsw _).trans (hb1.mono (by rw [World.size_alloc]; omega)))
      have hs1 : q + 1 ≤ w1.heap.size := by have := HB1.out.size; have := HSZ.out; omega
      clear hb1 hx2 c0 c1 c2 c3 c4 c5 c6 c7 c8 c9 c10 l1 l0
      generalize hh : homeS (us k) = hs
      have HH := hide hh
      clear hh
      cases hs
      · go_wp2_with fail
        go_roundw
        case rel => exact ⟨k + 1, by omega, by go_num, ⟨A', m, c', rfl, by
          have : homeL us (k + 1) = homeL us k := by rw [homeL, HH.out]; rfl
          rw [this]
          exact HR1.out, HB1.out, HAM.out⟩⟩
        case measure => simp [intOf]; omega
      · go_wp2_with (refine wpList_appI rfl (.tmp 15) (.tmp 17) rfl (q + 1) rfl (HR1.out.alloc _) rfl (IntV.box (Box.new _ _ _)) (by omega) (by simp; omega) ?_; intro A2 c2 w2 hr2 hg2 hb2 hor)
        go_roundw
        case rel => exact ⟨k + 1, by omega, by go_num, ⟨A2, m + 1, c2, rfl, by
          have : homeL us (k + 1) = homeL us k ++ [(k : Int)] := by rw [homeL, HH.out]; rfl
          rw [this]
          exact hr2, (HB1.out.alloc hs1 _).trans hb2, .inr (by omega)⟩⟩
        case measure => simp [intOf]; omega
    · obtain rfl : k = n := by omega
      have hlm : m ≤ 1000000 := by omega
      rcases RowG.form HR.out with ⟨rfl, rfl, rfl⟩ | ⟨g, rfl, hg1, hg2⟩
      · go_wp2_with fail
        refine (sortNil_any q wr).mono ?_
        rintro e w1 ⟨rfl, rfl⟩
        go_wp2_with fail
        go_ret
        refine ⟨none, 0, 0, rfl, ?_, HB0.out.trans (HB.out.mono (by have := HQ.out; omega))⟩
        have e0 : homeL us k = [] := List.eq_nil_of_length_eq_zero hlen
        have e1 : ordR us k = [] := by
          have := sorted_ord (us := us) (n := k) (l := []) (by rw [e0]; exact Sub.refl _ _ _) (by rw [e0]; intro i j _ h2 h3; exact absurd h3 (by simp))
          exact this.symm
        rw [e1]
        exact RowI.nil _ _
      · have hA : 0 < m → ∀ b, blk A = some b → b < q := fun h0 b hb => by rw [← HQ.out]; exact HF.out.blk_lt (by omega) hb
        rcases Nat.eq_zero_or_pos k with h0 | h0
        · rcases HAM.out with e | e
          · cases e
          · omega
        · have HS := hide (sortStable_any g (ltF us) (ltF_weak us) q (Env18 q g A k c us) (fun x => 0 ≤ x ∧ x < k) (cmp18 q g A k c us hn) (q + 1) m c' (homeL us k) wr HR.out
            (Flds.env HX.out HF1.out (by omega) (fun b hb => by rw [← HQ.out]; exact HF.out.blk_lt h0 hb)) (fun x hx => by
              obtain ⟨i, h1, _, rfl⟩ := (homeL_mem us k x).1 hx
              omega) hlm (fun i j h1 h2 => homeL_srt h1 (by omega)))
          go_wp2_with fail
          refine HS.out.mono ?_
          rintro e w1 ⟨rfl, hg3, l', hr3, hs3, ht3⟩
          go_wp2_with fail
          go_ret
          have hsw : q + 1 ≤ wr.heap.size := by have := HB.out.size; have := HSZ.out; omega
          refine ⟨_, m, c', rfl, ?_, HB0.out.trans ((HB.out.grown hg3 hsw (fun b e => by injection e with e; omega)).mono (by have := HQ.out; omega))⟩
          rw [← sorted_ord (l := l') (by rw [hlen]; exact hs3) (by rw [hlen]; exact ht3)]
          exact RowG.mono hr3 (by have := HQ.out; omega)

/-- What stands so far from one in an order. -/
def bsdS (o : List Int) (a b : Int) : Int × Bool := if idxI a o < 0 ∨ idxI a o + b < 0 ∨ (o.length : Int) ≤ idxI a o + b then (0, false) else (nth o (idxI a o + b).toNat, true)
theorem idxI_bd (x : Int) (l : List Int) : -1 ≤ idxI x l ∧ idxI x l < l.length := by
  unfold idxI
  split
  · rename_i i h
    rw [List.findIdx?_eq_some_iff_getElem] at h
    obtain ⟨h1, _⟩ := h
    omega
  · omega
set_option maxRecDepth 100000 in
set_option maxHeartbeats 4000000 in
theorem beside_any (A : Option Addr) (n c : Nat) (us : Nat → FV) (a b : Int) (w : World) (h : Flds w A n us) (hn : n ≤ 1000000) (hb : -1 ≤ b ∧ b ≤ 1) :
    Calls Try.prog 22 #[.slice A n c, .int .i64 a, .int .i64 b] w fun e w' => e = .returned (.tuple #[.int .i64 (bsdS (ordR us n) a b).1, .bool (bsdS (ordR us n) a b).2]) ∧ Below w.heap.size w w' := by
  have HC := hide (order_any A n c us w h hn)
  have hol := (show (ordR us n).length ≤ n from ordR_len us n)
  clear h
  generalize ordR us n = o at HC hol ⊢
  obtain ⟨r, hrr⟩ : ∃ r, bsdS o a b = r := ⟨_, rfl⟩
  rw [hrr]
  have HR := hide hrr
  clear hrr
  go_enter Try.func22, Try.ntmps22
  go_wp2_with fail
  refine HC.out.mono ?_
  rintro e w1 ⟨A', m, c', rfl, hr, hb1⟩
  have HB1 := hide hb1
  have HV := hide (RowI.read hr)
  have HL := hide (RowI.len hr)
  have hlen := RowI.len hr
  have hbd := idxI_bd a o
  clear hr hb1
  go_wp2_with fail
  refine (indexI_any A' m c' a o w1 HV.out (by omega)).mono ?_
  rintro e w2 ⟨rfl, rfl⟩
  have hrr := HR.out
  clear HR
  unfold bsdS at hrr
  rw [hlen] at hbd hrr
  generalize idxI a o = i at hbd hrr ⊢
  by_cases k0 : i < 0
  · rw [if_pos (.inl k0)] at hrr
    have HE := hide hrr
    clear hrr
    go_wp2_with fail
    go_ret2
    exact ⟨by rw [← HE.out]; rfl, HB1.out⟩
  by_cases k1 : i + b < 0
  · rw [if_pos (.inr (.inl k1))] at hrr
    have HE := hide hrr
    clear hrr
    have v1 : IntKind.i64.wrap (i + b) = i + b := by rw [IntWalk.i64_in _ (by omega)]
    go_wp2_with fail
    go_ret2
    exact ⟨by rw [← HE.out]; rfl, HB1.out⟩
  by_cases k2 : (m : Int) ≤ i + b
  · rw [if_pos (.inr (.inr k2))] at hrr
    have HE := hide hrr
    clear hrr
    have v1 : IntKind.i64.wrap (i + b) = i + b := by rw [IntWalk.i64_in _ (by omega)]
    go_wp2_with fail
    go_ret2
    exact ⟨by rw [← HE.out]; rfl, HB1.out⟩
  rw [if_neg (by omega)] at hrr
  obtain ⟨j, hj⟩ : ∃ j : Nat, i + b = j := ⟨(i + b).toNat, by omega⟩
  rw [hj] at hrr k1 k2
  have HE := hide hrr
  clear hrr
  obtain ⟨bb, bo, rfl, hc⟩ := HV.out.at_ j (by omega)
  have v1 : IntKind.i64.wrap (i + b) = (j : Int) := by rw [IntWalk.i64_in _ (by omega)]; exact hj
  have i0 : (0 : Int) ≤ (j : Int) := by omega
  have i1 : (j : Int) < (m : Int) := by omega
  clear hj
  go_wp2_with fail
  go_ret2
  exact ⟨by rw [← HE.out]; rfl, HB1.out⟩
theorem next_any (A : Option Addr) (n c : Nat) (us : Nat → FV) (a : Int) (w : World) (h : Flds w A n us) (hn : n ≤ 1000000) :
    Calls Try.prog 11 #[.slice A n c, .int .i64 a] w fun e w' => e = .returned (.tuple #[.int .i64 (bsdS (ordR us n) a 1).1, .bool (bsdS (ordR us n) a 1).2]) ∧ Below w.heap.size w w' := by
  have HC := hide (beside_any A n c us a 1 w h hn (by omega))
  clear h
  go_enter Try.func11, Try.ntmps11
  go_wp2_with fail
  refine HC.out.mono ?_
  rintro e w1 ⟨rfl, hb⟩
  have HB := hide hb
  clear hb
  go_wp2_with fail
  go_ret2
  exact ⟨rfl, HB.out⟩
theorem prev_any (A : Option Addr) (n c : Nat) (us : Nat → FV) (a : Int) (w : World) (h : Flds w A n us) (hn : n ≤ 1000000) :
    Calls Try.prog 12 #[.slice A n c, .int .i64 a] w fun e w' => e = .returned (.tuple #[.int .i64 (bsdS (ordR us n) a (-1)).1, .bool (bsdS (ordR us n) a (-1)).2]) ∧ Below w.heap.size w w' := by
  have HC := hide (beside_any A n c us a (-1) w h hn (by omega))
  clear h
  go_enter Try.func12, Try.ntmps12
  go_wp2_with fail
  refine HC.out.mono ?_
  rintro e w1 ⟨rfl, hb⟩
  have HB := hide hb
  clear hb
  go_wp2_with fail
  go_ret2
  exact ⟨rfl, HB.out⟩
end Go.Proofs.Ytfeflmpdbejhjaa
