/- The law TabsRound: its function answers true. -/
import Derived.Test.YtfeflmpdbejhjaaTabF
import Derived.Laws.MakeOwn
namespace Go.Proofs.Ytfeflmpdbejhjaa
open Go.RowKit
set_option linter.unusedVariables false

theorem boolInfo : (Try.prog.info? 4).map (fun i => (i.zero, i.size, i.bytes)) = some (some (.bool false), 1, 1) := by kernel_rfl
theorem run_makeB (n : Nat) (hn : n ≤ 1000000) (W : World) :
    (Instr.makeSlice 34 (.int .i64 (n : Int)) (.int .i64 (n : Int))).run Try.prog W = .ok (.slice (some ⟨W.heap.size, 0, none⟩) n n) (W.alloc (.cells (madeCells #[.bool false] n) 4)) := by
  obtain ⟨i0, hi, hz0, hz1, hz2⟩ := info_parts boolInfo
  have h := run_make (P := Try.prog) W 34 4 i0 (.bool false) Try.underlying34 hi hz0 .i64 .i64 n n (by omega) (by omega) (by rw [hz2]; omega) (by omega)
  rw [hz1, Int.toNat_natCast, Nat.mul_one] at h
  rw [h]
  rfl
theorem made_at {n i : Nat} (h : i < n) : (madeCells #[.bool false] n)[i]? = some (.bool false) := by
  rw [Array.getElem?_eq_getElem (by rw [size_madeCells]; exact h)]
  simp [madeCells, Nat.mod_one]
/-- Which fields were seen. -/
structure Seen (w : World) (g m : Nat) (o : List Int) (k : Nat) : Prop where
  box : ∃ cs : Array Value, Box w g 4 cs ∧ cs.size = m ∧ ∀ i : Nat, i < m → cs[i]? = some (.bool (decide ((i : Int) ∈ o.take k)))
theorem Seen.start (w : World) (m : Nat) (o : List Int) : Seen (w.alloc (.cells (madeCells #[.bool false] m) 4)) w.heap.size m o 0 :=
  ⟨_, Box.new w _ _, size_madeCells _ _, fun i hi => by rw [made_at hi]; simp⟩
theorem Seen.at_ {w : World} {g m k : Nat} {o : List Int} (h : Seen w g m o k) {i : Nat} (hi : i < m) : w.cell? ⟨g, i, none⟩ = some (.bool (decide ((i : Int) ∈ o.take k))) ∧ w.frozen? ⟨g, i, none⟩ = false := by
  obtain ⟨cs, h1, _, h3⟩ := h.box
  exact ⟨(h1.cell i).trans (h3 i hi), h1.frozen i⟩
theorem Seen.next {w : World} {g m k : Nat} {o : List Int} (h : Seen w g m o k) {i : Nat} (hi : i < m) (hk : k < o.length) (hn : nth o k = (i : Int)) : Seen (w.setCell ⟨g, i, none⟩ (.bool true)) g m o (k + 1) := by
  obtain ⟨cs, h1, h2, h3⟩ := h.box
  refine ⟨_, h1.set i (.bool true), by simp [h2], fun j hj => ?_⟩
  rw [take_snoc hk, hn]
  by_cases e : i = j
  · subst e
    simp [h2, hi]
  · have e2 : (j : Int) ≠ (i : Int) := by omega
    rw [Array.getElem?_setIfInBounds_ne e, h3 j hj]
    simp [e2]
theorem Seen.keep {w w' : World} {g m k : Nat} {o : List Int} (h : Seen w g m o k) (hb : Below w.heap.size w w') : Seen w' g m o k := by
  obtain ⟨cs, h1, h2⟩ := h.box
  exact ⟨cs, h1.below hb, h2⟩

theorem homeL_ordR (us : Nat → FV) (n : Nat) : (homeL us n).length = (ordR us n).length := by
  have h1 : (ordR us n).Nodup := (ordR_sorted us n).imp fun {a b} h e => by rw [e] at h; exact h.irr (ltF_weak us)
  have h2 : (homeL us n).Nodup := (homeL_up us n).imp fun {a b} h e => by omega
  have e1 := sub_len _ _ h1 (fun x hx => (homeL_mem us n x).2 ((ordR_mem us n x).1 hx))
  have e2 := sub_len _ _ h2 (fun x hx => (ordR_mem us n x).2 ((homeL_mem us n x).1 hx))
  omega
theorem idx_nth {us : Nat → FV} {n k : Nat} (hk : k < (ordR us n).length) : idxI (nth (ordR us n) k) (ordR us n) = (k : Int) := idxI_at hk rfl fun j hj => ordR_ne us n j k hj hk
theorem bsd_next {us : Nat → FV} {n k : Nat} (hk : k < (ordR us n).length) : bsdS (ordR us n) (nth (ordR us n) k) 1 = if k + 1 < (ordR us n).length then (nth (ordR us n) (k + 1), true) else (0, false) := by
  unfold bsdS
  rw [idx_nth hk]
  by_cases h : k + 1 < (ordR us n).length
  · rw [if_neg (by omega), if_pos h, show ((k : Int) + 1).toNat = k + 1 by omega]
  · rw [if_pos (by omega), if_neg h]
theorem bsd_prev {us : Nat → FV} {n k : Nat} (hk : k + 1 < (ordR us n).length) : bsdS (ordR us n) (nth (ordR us n) (k + 1)) (-1) = (nth (ordR us n) k, true) := by
  unfold bsdS
  rw [idx_nth hk, if_neg (by omega), show (((k + 1 : Nat) : Int) + -1).toNat = k by omega]
theorem five_homes (v : FV) : (homeS v = true ∧ (v.kind == 0) = true ∧ 0 ≤ v.num) ∨ (homeS v = true ∧ (v.kind == 0) = false ∧ (v.kind == 1) = true ∧ 0 ≤ v.num) ∨ (homeS v = false ∧ (v.kind == 0) = false ∧ (v.kind == 1) = false) ∨ (homeS v = false ∧ (v.kind == 0) = true ∧ ¬ 0 ≤ v.num) ∨ (homeS v = false ∧ (v.kind == 0) = false ∧ (v.kind == 1) = true ∧ ¬ 0 ≤ v.num) := by
  unfold homeS
  by_cases h0 : v.kind = 0 <;> by_cases h1 : v.kind = 1 <;> by_cases h2 : 0 ≤ v.num <;> simp [h0, h1, h2] <;> omega
theorem four_ways {us : Nat → FV} {n k : Nat} (hk : k + 1 < (ordR us n).length) {i j : Nat} (hi : nth (ordR us n) k = (i : Int)) (hj : nth (ordR us n) (k + 1) = (j : Int)) :
    (((us i).num == 0) = true ∧ ((us j).num != 0) = false) ∨ (((us i).num == 0) = false ∧ ((us j).num != 0) = false) ∨
    (((us i).num == 0) = false ∧ ((us j).num != 0) = true ∧ ¬ (us j).num < (us i).num ∧ ((us i).num == (us j).num) = false) ∨
    (((us i).num == 0) = false ∧ ((us j).num != 0) = true ∧ ¬ (us j).num < (us i).num ∧ ((us i).num == (us j).num) = true ∧ ¬ (j : Int) < (i : Int)) := by
  have h := List.pairwise_iff_getElem.1 (ordR_sorted us n) k (k + 1) (by omega) hk (by omega)
  rw [← nth_eq (by omega), ← nth_eq hk, hi, hj] at h
  have e1 : numO us (i : Int) = (us i).num := rfl
  have e2 : numO us (j : Int) = (us j).num := rfl
  have h' : (((us i).num ≠ 0 ∧ (us j).num = 0) ∨ (((us i).num = 0 ↔ (us j).num = 0) ∧ (us i).num < (us j).num)) ∨ (¬ (((us j).num ≠ 0 ∧ (us i).num = 0) ∨ (((us j).num = 0 ↔ (us i).num = 0) ∧ (us j).num < (us i).num)) ∧ (i : Int) < (j : Int)) := by
    rcases h with h | ⟨h1, h2⟩
    · exact .inl ((ltF_iff us _ _).1 h)
    · exact .inr ⟨(ltF_no us _ _).1 h1, h2⟩
  clear h e1 e2 hi hj
  generalize (us i).num = a at h' ⊢
  generalize (us j).num = b at h' ⊢
  by_cases ha : a = 0 <;> by_cases hb : b = 0 <;> by_cases hab : a = b <;> simp [ha, hb, hab] <;> omega

set_option maxRecDepth 100000 in
set_option maxHeartbeats 8000000 in
theorem tabsRound_any (A : Option Addr) (n c : Nat) (us0 : Nat → FV) (w : World) (h : Flds w A n us0) (hnc : n ≤ c) (hc : c ≤ 9223372036854775807) :
    Calls Try.prog 4 #[.slice A n c] w fun e w' => e = .returned (.bool true) ∧ Below w.heap.size w w' := by
  have HF := hide h
  clear h
  go_enter Try.func4, Try.ntmps4
  go_wp2_with fail
  refine (few_any A n c us0 w HF.out (by omega)).mono ?_
  rintro e w1 ⟨A1, m, c1, rfl, hm1, hr1, hb1⟩
  have B1 := hide hb1
  have HF1 := hide (RowF.read hr1 fun j hj => fewV_wf (us0 j))
  have hm : m ≤ 40 := by omega
  clear hr1 hb1 hm1 HF
  generalize fewU us0 = us at HF1
  go_wp2_with fail
  refine (order_any A1 m c1 us w1 HF1.out (by omega)).mono ?_
  rintro e w2 ⟨A2, m2, c2, rfl, hr2, hb2⟩
  have B2 := hide hb2
  have HV2 := hide (RowI.read hr2)
  have hm2 := RowI.len hr2
  have HF2 := hide (HF1.out.below hb2)
  have hol := ordR_len us m
  have HC := hide (homeL_ordR us m)
  clear hr2 hb2 HF1
  go_wp2_with fail
  go_loopw [4, 22] (fun v i wr => ∃ k : Nat, k ≤ m ∧ i = .int .i64 (k : Int) ∧ v = .int .i64 ((homeL us k).length : Int) ∧ Below w2.heap.size w2 wr) (fun _ i _ => m - (intOf i).toNat)
  case atStart => exact ⟨0, Nat.zero_le _, rfl, rfl, Below.refl _ _⟩
  case round =>
    obtain ⟨k, hk, rfl, rfl, hb⟩ := hrel
    have HB := hide hb
    have HF3 := hide (HF2.out.below hb)
    clear hb
    by_cases hlt : k < m
    · obtain ⟨b, o, rfl, c0, c1, c2, c3, c4, c5, c6, c7, c8, c9, c10⟩ := HF3.out.c11 hlt
      have i0 : (0 : Int) ≤ (k : Int) := by omega
      have i1 : (k : Int) < (m : Int) := by omega
      obtain ⟨q2, hq2⟩ : ∃ q2, wr.heap.size = q2 := ⟨_, rfl⟩
      have hx2 := Box.newAt hq2 33 #[.int .i64 (us k).kind, .int .i64 (us k).num, .int .i64 (us k).x2, .int .i64 (us k).x3, .int .i64 (us k).x4, .int .i64 (us k).x5, .slice (us k).A6 (us k).n6 (us k).c6, .slice (us k).A7 (us k).n7 (us k).c7, .slice (us k).A8 (us k).n8 (us k).c8, .bool (us k).b9, .bool (us k).b10]
      have l0 : (wr.alloc (.cells #[.int .i64 (us k).kind, .int .i64 (us k).num, .int .i64 (us k).x2, .int .i64 (us k).x3, .int .i64 (us k).x4, .int .i64 (us k).x5, .slice (us k).A6 (us k).n6 (us k).c6, .slice (us k).A7 (us k).n7 (us k).c7, .slice (us k).A8 (us k).n8 (us k).c8, .bool (us k).b9, .bool (us k).b10] 33)).cell? ⟨q2, 0, none⟩ = some (.int .i64 (us k).kind) := hx2.cell 0
      have l1 : (wr.alloc (.cells #[.int .i64 (us k).kind, .int .i64 (us k).num, .int .i64 (us k).x2, .int .i64 (us k).x3, .int .i64 (us k).x4, .int .i64 (us k).x5, .slice (us k).A6 (us k).n6 (us k).c6, .slice (us k).A7 (us k).n7 (us k).c7, .slice (us k).A8 (us k).n8 (us k).c8, .bool (us k).b9, .bool (us k).b10] 33)).cell? ⟨q2, 1, none⟩ = some (.int .i64 (us k).num) := hx2.cell 1
      have HBN := hide (HB.out.alloc HB.out.size (.cells #[.int .i64 (us k).kind, .int .i64 (us k).num, .int .i64 (us k).x2, .int .i64 (us k).x3, .int .i64 (us k).x4, .int .i64 (us k).x5, .slice (us k).A6 (us k).n6 (us k).c6, .slice (us k).A7 (us k).n7 (us k).c7, .slice (us k).A8 (us k).n8 (us k).c8, .bool (us k).b9, .bool (us k).b10] 33))
      have hhl := homeL_len us k
      have v1 : IntKind.i64.wrap (((homeL us k).length : Int) + 1) = ((homeL us k).length : Int) + 1 := by rw [IntWalk.i64_in _ (by omega)]
      have HY := hide (show homeS (us k) = true → ((homeL us (k + 1)).length : Int) = ((homeL us k).length : Int) + 1 from fun e => by rw [homeL, if_pos e, List.length_append]; simp)
      have HN := hide (show homeS (us k) = false → homeL us (k + 1) = homeL us k from fun e => by rw [homeL, e]; rfl)
      clear hx2 HC hhl
      rcases five_homes (us k) with ⟨hh, d0, d2⟩ | ⟨hh, d0, d1, d2⟩ | ⟨hh, d0, d1⟩ | ⟨hh, d0, d2⟩ | ⟨hh, d0, d1, d2⟩
      · have HE := hide (HY.out hh)
        clear hh
        go_wp2_with fail
        go_roundw
        case rel => exact ⟨k + 1, by omega, by go_num, by rw [HE.out], HBN.out⟩
        case measure => simp [intOf]; omega
      · have HE := hide (HY.out hh)
        clear hh
        go_wp2_with fail
        go_roundw
        case rel => exact ⟨k + 1, by omega, by go_num, by rw [HE.out], HBN.out⟩
        case measure => simp [intOf]; omega
      · have HE := hide (HN.out hh)
        clear hh
        go_wp2_with fail
        go_roundw
        case rel => exact ⟨k + 1, by omega, by go_num, by rw [HE.out], HBN.out⟩
        case measure => simp [intOf]; omega
      · have HE := hide (HN.out hh)
        clear hh
        go_wp2_with fail
        go_roundw
        case rel => exact ⟨k + 1, by omega, by go_num, by rw [HE.out], HBN.out⟩
        case measure => simp [intOf]; omega
      · have HE := hide (HN.out hh)
        clear hh
        go_wp2_with fail
        go_roundw
        case rel => exact ⟨k + 1, by omega, by go_num, by rw [HE.out], HBN.out⟩
        case measure => simp [intOf]; omega
    · obtain rfl : k = m := by omega
      rw [HC.out, hm2]
      have d0 : ((m2 : Int) != (m2 : Int)) = false := by simp
      have hmk := run_makeB k (by omega) wr
      have HS0 := hide (Seen.start wr k (ordR us k))
      have B3 := hide (B1.out.trans ((B2.out.trans (HB.out.mono B2.out.size)).mono B1.out.size))
      have HV3 := hide (HV2.out.below HB.out)
      have hmem : ∀ t, t < m2 → ∃ i : Nat, i < k ∧ homeS (us i) = true ∧ nth (ordR us k) t = (i : Int) := fun t ht => by
        obtain ⟨i, h1, h2, h3⟩ := (ordR_mem us k _).1 (nth_mem (by rw [hm2]; exact ht))
        exact ⟨i, h1, h2, h3⟩
      have HMEM := hide hmem
      have HNX := hide (fun (t : Nat) (ht : t < m2) => bsd_next (us := us) (n := k) (k := t) (by rw [hm2]; exact ht))
      have HPV := hide (fun (t : Nat) (ht : t + 1 < m2) => bsd_prev (us := us) (n := k) (k := t) (by rw [hm2]; exact ht))
      have H4 := hide (fun (t i j : Nat) (ht : t + 1 < m2) => four_ways (us := us) (n := k) (k := t) (by rw [hm2]; exact ht) (i := i) (j := j))
      have HND := hide (fun (t : Nat) (ht : t < m2) => show ¬ nth (ordR us k) t ∈ (ordR us k).take t from fun hx => by
        obtain ⟨u, hu, e⟩ := mem_nth hx
        rw [List.length_take] at hu
        rw [nth_take (by omega)] at e
        exact ordR_ne us k u t (by omega) (by rw [hm2]; exact ht) e)
      have HCN := hide (fun (i : Int) (W : World) (hb : Below wr.heap.size wr W) => next_any A1 k c1 us i W (HF3.out.below hb) (by omega))
      have HCP := hide (fun (i : Int) (W : World) (hb : Below wr.heap.size wr W) => prev_any A1 k c1 us i W (HF3.out.below hb) (by omega))
      have HOL := hide hm2
      clear hmem HC HB HV2 HF2 hm2 hlt hk
      obtain ⟨w3, rfl⟩ : ∃ w3 : World, w3 = wr := ⟨_, rfl⟩
      generalize ordR us k = o at HS0 HV3 HMEM HNX HPV H4 HND HCN HCP hol HOL
      go_wp2_with fail
      go_loopw [51] (fun i wx => ∃ t : Nat, t ≤ m2 ∧ i = .int .i64 (t : Int) ∧ Seen wx w3.heap.size k o t ∧ Below w3.heap.size w3 wx) (fun i _ => m2 - (intOf i).toNat)
      case atStart => exact ⟨0, Nat.zero_le _, rfl, HS0.out, (Below.refl _ _).alloc (Nat.le_refl _) _⟩
      case round =>
        obtain ⟨t, ht, rfl, hs, hb⟩ := hrel
        have HS := hide hs
        have HB := hide hb
        have HV := hide (HV3.out.below hb)
        have HF := hide (HF3.out.below hb)
        clear hs hb HS0 hmk
        have hm2k : m2 ≤ 40 := by have := HOL.out; omega
        by_cases hlt : t < m2
        · obtain ⟨i, hi, hh, hni⟩ := HMEM.out t hlt
          obtain ⟨bb, bo, rfl, ho⟩ := HV.out.at_ t hlt
          have hnum := home_num hh
          obtain ⟨s0, s1⟩ := HS.out.at_ hi
          have hnd := HND.out t hlt
          have hn1 := HNX.out t hlt
          rw [hni] at ho hnd hn1
          rw [HOL.out] at hn1
          rw [decide_eq_false hnd] at s0
          obtain ⟨fb, fo, rfl, _, n1, _⟩ := HF.out.c11 hi
          have HSN := hide (HS.out.next hi (by rw [HOL.out]; exact hlt) hni)
          have HBN := hide (HB.out.setCell (p := ⟨w3.heap.size, i, none⟩) (Nat.le_refl _) (.bool true))
          have hcall := HCN.out (i : Int) _ HBN.out
          have t0 : (0 : Int) ≤ (t : Int) := by omega
          have t1 : (t : Int) < (m2 : Int) := by omega
          have i0 : (0 : Int) ≤ (i : Int) := by omega
          have i1 : (i : Int) < (k : Int) := by omega
          obtain ⟨u, hu⟩ : ∃ u, u = t + 1 := ⟨_, rfl⟩
          have v1 : IntKind.i64.wrap ((t : Int) + 1) = (u : Int) := by rw [IntWalk.i64_in _ (by omega)]; omega
          rw [← hu] at hn1 HSN
          by_cases hu2 : u < m2
          · rw [if_pos hu2] at hn1
            obtain ⟨j, hj, hh2, hnj⟩ := HMEM.out u hu2
            rw [hn1, hnj] at hcall
            have HCALL := hide hcall
            have u0 : (0 : Int) ≤ (u : Int) := by omega
            have u1 : (u : Int) < (m2 : Int) := by omega
            have j0 : (0 : Int) ≤ (j : Int) := by omega
            have j1 : (j : Int) < (k : Int) := by omega
            have hpv := HPV.out t (by omega)
            rw [← hu, hnj, hni] at hpv
            have HPV' := hide hpv
            have h4 := H4.out t i j (by omega) hni (by rw [← hu]; exact hnj)
            have H4' := hide h4
            have HNJ := hide hnj
            have HU := hide hu
            clear hpv h4 hcall hnd hn1 hni hnj hu hh hh2 s1 hol
            have s1 := (HS.out.at_ hi).2
            go_wp2_with fail
            refine HCALL.out.mono ?_
            rintro e w5 ⟨rfl, hb5⟩
            have HS5 := hide (HSN.out.keep hb5)
            have HB5 := hide (HBN.out.trans (hb5.mono HBN.out.size))
            clear hb5 s0 s1 ho n1
            have hcall := HCP.out (j : Int) _ HB5.out
            rw [HPV'.out] at hcall
            have HCALL2 := hide hcall
            clear hcall
            go_wp2_with fail
            refine HCALL2.out.mono ?_
            rintro e w6 ⟨rfl, hb6⟩
            have HS6 := hide (HS5.out.keep hb6)
            have HB6 := hide (HB5.out.trans (hb6.mono HB5.out.size))
            clear hb6
            obtain ⟨_, _, e', _, n1, _⟩ := (HF3.out.below HB6.out).c11 hi
            injection e' with e'
            injection e' with e1 e2
            subst e1 e2
            obtain ⟨_, _, e', _, n2, _⟩ := (HF3.out.below HB6.out).c11 hj
            injection e' with e'
            injection e' with e1 e2
            subst e1 e2
            obtain ⟨_, _, e', ho⟩ := (HV3.out.below HB6.out).at_ u hu2
            injection e' with e'
            injection e' with e1 e2
            subst e1 e2
            rw [HNJ.out] at ho
            have d1 : ((j : Int) != (j : Int)) = false := by simp
            have d2 : ((i : Int) != (i : Int)) = false := by simp
            rcases H4'.out with ⟨x1, x2⟩ | ⟨x1, x2⟩ | ⟨x1, x2, x3, x4⟩ | ⟨x1, x2, x3, x4, x5⟩
            · go_wp2_with fail
              go_quiet (fail)
              go_wp2_with fail
              go_roundw
              case rel => exact ⟨u, by omega, rfl, (by obtain ⟨cs, h1, h2⟩ := HS6.out.box; exact ⟨cs, h1.drewN _, h2⟩), below_drewN HB6.out _⟩
              case measure => (have := HU.out; simp [intOf]; omega)
            · go_wp2_with fail
              go_quiet (fail)
              go_wp2_with fail
              go_roundw
              case rel => exact ⟨u, by omega, rfl, (by obtain ⟨cs, h1, h2⟩ := HS6.out.box; exact ⟨cs, h1.drewN _, h2⟩), below_drewN HB6.out _⟩
              case measure => (have := HU.out; simp [intOf]; omega)
            · go_wp2_with fail
              go_quiet (fail)
              go_wp2_with fail
              go_roundw
              case rel => exact ⟨u, by omega, rfl, (by obtain ⟨cs, h1, h2⟩ := HS6.out.box; exact ⟨cs, h1.drewN _, h2⟩), below_drewN HB6.out _⟩
              case measure => (have := HU.out; simp [intOf]; omega)
            · go_wp2_with fail
              go_quiet (fail)
              go_wp2_with fail
              go_roundw
              case rel => exact ⟨u, by omega, rfl, (by obtain ⟨cs, h1, h2⟩ := HS6.out.box; exact ⟨cs, h1.drewN _, h2⟩), below_drewN HB6.out _⟩
              case measure => (have := HU.out; simp [intOf]; omega)
          · rw [if_neg hu2] at hn1
            rw [hn1] at hcall
            have HCALL := hide hcall
            have HU := hide hu
            clear hcall hnd hn1 hni hu hh hol
            go_wp2_with fail
            refine HCALL.out.mono ?_
            rintro e w5 ⟨rfl, hb5⟩
            have HS5 := hide (HSN.out.keep hb5)
            have HB5 := hide (HBN.out.trans (hb5.mono HBN.out.size))
            clear hb5 s0 s1 ho n1
            go_wp2_with fail
            go_roundw
            case rel => exact ⟨u, by have := HU.out; omega, rfl, HS5.out, HB5.out⟩
            case measure => (have := HU.out; simp [intOf]; omega)
        · go_wp2_with fail
          refine (known18_any _).mono ?_
          rintro e w5 ⟨rfl, hb5⟩
          have HB5 := hide (HB.out.trans (hb5.mono HB.out.size))
          clear hb5
          go_wp2_with fail
          go_ret
          exact ⟨rfl, B3.out.trans (HB5.out.mono B3.out.size)⟩
end Go.Proofs.Ytfeflmpdbejhjaa
