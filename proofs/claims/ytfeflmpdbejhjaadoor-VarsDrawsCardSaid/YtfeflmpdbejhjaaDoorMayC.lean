/- vars.May: it tells what mayE tells. -/
import Derived.Test.YtfeflmpdbejhjaaDoorMayB
namespace Go.Proofs.YtfeflmpdbejhjaaDoor
open Go.RowKit
set_option linter.unusedVariables false

def shK (v : EnvV) : Nat → Bool
  | 0 => shortS (v.t 0)
  | 1 => shortS (v.t 1)
  | 2 => shortS (v.t 2)
  | 3 => shortS (v.t 3)
  | 4 => shortS (v.t 4)
  | 5 => shortS (v.t 5)
  | _ => true
theorem mayE_sh {v : EnvV} {i : Nat} (h : shK v i = false) : mayE v = false := by
  apply mayE_no
  match i, h with
  | 0, h => simp [show shortS (v.t 0) = false from h]
  | 1, h => simp [show shortS (v.t 1) = false from h]
  | 2, h => simp [show shortS (v.t 2) = false from h]
  | 3, h => simp [show shortS (v.t 3) = false from h]
  | 4, h => simp [show shortS (v.t 4) = false from h]
  | 5, h => simp [show shortS (v.t 5) = false from h]
  | _ + 6, h => cases h
theorem any_all (l : List Int) : (l.any fun r => !inB r 0 16777215) = !(l.all fun r => inB r 0 16777215) := by
  induction l with
  | nil => rfl
  | cons x l ih => simp only [List.any_cons, List.all_cons, ih, Bool.not_and]

set_option maxRecDepth 100000 in
set_option maxHeartbeats 8000000 in
theorem vmay_any (e : EnvH) (v : EnvV) (w : World) (h : EnvR w e v) :
    Calls Tryd.prog 19 #[e.v] w fun r w' => r = .returned (.bool (mayE v)) ∧ Below w.heap.size w w' := by
  obtain ⟨g, hg⟩ : ∃ g, w.heap.size = g := ⟨_, rfl⟩
  have hba := (Below.refl w.heap.size w).alloc (Nat.le_refl _) (.cells e.cells 26)
  have HB := hide hba
  have HX := hide (Box.newAt hg 26 e.cells)
  have HE := hide (h.below hba)
  have hd := h.dn
  have HTN := hide h.tn
  have HLT := hide (fun i => (h.tx i).len)
  have HL := hide h.dr.len
  have HIX := hide h.ix
  have HCK := hide h.ck
  clear h hba
  unfold EnvH.v EnvH.cells
  unfold EnvH.cells at HB HX HE
  go_enter Tryd.func19, Tryd.ntmps19
  go_upto_region 1 with fail
  generalize w.alloc (.cells #[.slice (e.t 0).A (e.t 0).n (e.t 0).c, .slice (e.t 1).A (e.t 1).n (e.t 1).c, .slice (e.t 2).A (e.t 2).n (e.t 2).c, .slice (e.t 3).A (e.t 3).n (e.t 3).c, .slice (e.t 4).A (e.t 4).n (e.t 4).c, .slice (e.t 5).A (e.t 5).n (e.t 5).c, .int .i64 e.ix, .int .i64 (e.ck 0), .int .i64 (e.ck 1), .int .i64 (e.ck 2), .int .i64 (e.ck 3), .int .i64 (e.ck 4), .int .i64 (e.ck 5), .int .i64 (e.ck 6), .slice e.d.A e.d.n e.d.c] 26) = w1 at HB HX HE ⊢
  rw [hg] at HB
  have hgs : g < w1.heap.size := HX.out.lt
  obtain ⟨x0, x1, x2, x3, x4, x5, x6, x7, x8, x9, x10, x11, x12, x13, x14⟩ := EnvH.at_ HX.out
  obtain ⟨g2, hg2⟩ : ∃ g2, w1.heap.size = g2 := ⟨_, rfl⟩
  have HE2 := hide (HE.out.below ((Below.refl w1.heap.size w1).alloc (Nat.le_refl _) (.cells #[.slice (e.t 0).A (e.t 0).n (e.t 0).c, .slice (e.t 1).A (e.t 1).n (e.t 1).c, .slice (e.t 2).A (e.t 2).n (e.t 2).c, .slice (e.t 3).A (e.t 3).n (e.t 3).c, .slice (e.t 4).A (e.t 4).n (e.t 4).c, .slice (e.t 5).A (e.t 5).n (e.t 5).c] 22)))
  have HX2 := hide (HX.out.alloc (.cells #[.slice (e.t 0).A (e.t 0).n (e.t 0).c, .slice (e.t 1).A (e.t 1).n (e.t 1).c, .slice (e.t 2).A (e.t 2).n (e.t 2).c, .slice (e.t 3).A (e.t 3).n (e.t 3).c, .slice (e.t 4).A (e.t 4).n (e.t 4).c, .slice (e.t 5).A (e.t 5).n (e.t 5).c] 22))
  have HC := hide (Box.newAt hg2 22 #[.slice (e.t 0).A (e.t 0).n (e.t 0).c, .slice (e.t 1).A (e.t 1).n (e.t 1).c, .slice (e.t 2).A (e.t 2).n (e.t 2).c, .slice (e.t 3).A (e.t 3).n (e.t 3).c, .slice (e.t 4).A (e.t 4).n (e.t 4).c, .slice (e.t 5).A (e.t 5).n (e.t 5).c])
  have HB2 := hide (HB.out.alloc (by omega) (.cells #[.slice (e.t 0).A (e.t 0).n (e.t 0).c, .slice (e.t 1).A (e.t 1).n (e.t 1).c, .slice (e.t 2).A (e.t 2).n (e.t 2).c, .slice (e.t 3).A (e.t 3).n (e.t 3).c, .slice (e.t 4).A (e.t 4).n (e.t 4).c, .slice (e.t 5).A (e.t 5).n (e.t 5).c] 22))
  clear HE HX HB
  go_upto_region 2 with fail
  generalize w1.alloc (.cells #[.slice (e.t 0).A (e.t 0).n (e.t 0).c, .slice (e.t 1).A (e.t 1).n (e.t 1).c, .slice (e.t 2).A (e.t 2).n (e.t 2).c, .slice (e.t 3).A (e.t 3).n (e.t 3).c, .slice (e.t 4).A (e.t 4).n (e.t 4).c, .slice (e.t 5).A (e.t 5).n (e.t 5).c] 22) = w2 at HE2 HX2 HC HB2 ⊢
  clear x0 x1 x2 x3 x4 x5 x6 x7 x8 x9 x10 x11 x12 x13 x14 hgs
  have c0 := HC.out.cell 0
  have c1 := HC.out.cell 1
  have c2 := HC.out.cell 2
  have c3 := HC.out.cell 3
  have c4 := HC.out.cell 4
  have c5 := HC.out.cell 5
  dsimp at c0 c1 c2 c3 c4 c5
  go_loop [4, 20] (fun _ s => ∃ i : Nat, i ≤ 6 ∧ s = .int .i64 (i : Int) ∧ Hid (∀ j, j < i → shK v j = true)) (fun _ s => 6 - (intOf s).toNat)
  case atStart => exact ⟨0, by omega, rfl, fun j hj => absurd hj (by omega)⟩
  case round =>
    obtain ⟨i, hi, rfl, HK⟩ := hrel
    have hi6 : i = 0 ∨ i = 1 ∨ i = 2 ∨ i = 3 ∨ i = 4 ∨ i = 5 ∨ i = 6 := by omega
    rcases hi6 with rfl | rfl | rfl | rfl | rfl | rfl | rfl
    · cases hm : mayS (v.t 0)
      · have HR := hide (show mayE v = false from mayE_sh (i := 0) (by show shortS (v.t 0) = false; unfold shortS; rw [hm, Bool.and_false]))
        go_wp2_with (go_at_call 22; (with_reducible refine (may_any _ _ _ _ _ (HE2.out.tx 0) (by have := (HTN.out 0).1; omega)).mono ?_); rintro e w' ⟨rfl, rfl⟩)
        go_ret
        exact ⟨retB HR.out.symm, by first | exact HB2.out | (rw [hg]; exact HB2.out)⟩
      · by_cases hn : (100 : Int) < ((e.t 0).n : Int)
        · have HR := hide (show mayE v = false from mayE_sh (i := 0) (by show shortS (v.t 0) = false; unfold shortS; rw [decide_eq_false (by rw [HLT.out 0]; omega), Bool.false_and]))
          go_wp2_with (go_at_call 22; (with_reducible refine (may_any _ _ _ _ _ (HE2.out.tx 0) (by have := (HTN.out 0).1; omega)).mono ?_); rintro e w' ⟨rfl, rfl⟩)
          go_ret
          exact ⟨retB HR.out.symm, by first | exact HB2.out | (rw [hg]; exact HB2.out)⟩
        · have HN := hide (show ∀ j, j < 1 → shK v j = true from fun j hj => by
            rcases Nat.lt_succ_iff_lt_or_eq.1 hj with h | h
            · exact HK.out j h
            · subst h
              show shortS (v.t 0) = true
              unfold shortS
              rw [hm, decide_eq_true (by rw [HLT.out 0]; omega)]
              rfl)
          go_wp2_with (go_at_call 22; (with_reducible refine (may_any _ _ _ _ _ (HE2.out.tx 0) (by have := (HTN.out 0).1; omega)).mono ?_); rintro e w' ⟨rfl, rfl⟩)
          go_round
          case rel => exact ⟨1, by omega, rfl, HN.out⟩
          case measure => simp [intOf]
    · cases hm : mayS (v.t 1)
      · have HR := hide (show mayE v = false from mayE_sh (i := 1) (by show shortS (v.t 1) = false; unfold shortS; rw [hm, Bool.and_false]))
        go_wp2_with (go_at_call 22; (with_reducible refine (may_any _ _ _ _ _ (HE2.out.tx 1) (by have := (HTN.out 1).1; omega)).mono ?_); rintro e w' ⟨rfl, rfl⟩)
        go_ret
        exact ⟨retB HR.out.symm, by first | exact HB2.out | (rw [hg]; exact HB2.out)⟩
      · by_cases hn : (100 : Int) < ((e.t 1).n : Int)
        · have HR := hide (show mayE v = false from mayE_sh (i := 1) (by show shortS (v.t 1) = false; unfold shortS; rw [decide_eq_false (by rw [HLT.out 1]; omega), Bool.false_and]))
          go_wp2_with (go_at_call 22; (with_reducible refine (may_any _ _ _ _ _ (HE2.out.tx 1) (by have := (HTN.out 1).1; omega)).mono ?_); rintro e w' ⟨rfl, rfl⟩)
          go_ret
          exact ⟨retB HR.out.symm, by first | exact HB2.out | (rw [hg]; exact HB2.out)⟩
        · have HN := hide (show ∀ j, j < 2 → shK v j = true from fun j hj => by
            rcases Nat.lt_succ_iff_lt_or_eq.1 hj with h | h
            · exact HK.out j h
            · subst h
              show shortS (v.t 1) = true
              unfold shortS
              rw [hm, decide_eq_true (by rw [HLT.out 1]; omega)]
              rfl)
          go_wp2_with (go_at_call 22; (with_reducible refine (may_any _ _ _ _ _ (HE2.out.tx 1) (by have := (HTN.out 1).1; omega)).mono ?_); rintro e w' ⟨rfl, rfl⟩)
          go_round
          case rel => exact ⟨2, by omega, rfl, HN.out⟩
          case measure => simp [intOf]
    · cases hm : mayS (v.t 2)
      · have HR := hide (show mayE v = false from mayE_sh (i := 2) (by show shortS (v.t 2) = false; unfold shortS; rw [hm, Bool.and_false]))
        go_wp2_with (go_at_call 22; (with_reducible refine (may_any _ _ _ _ _ (HE2.out.tx 2) (by have := (HTN.out 2).1; omega)).mono ?_); rintro e w' ⟨rfl, rfl⟩)
        go_ret
        exact ⟨retB HR.out.symm, by first | exact HB2.out | (rw [hg]; exact HB2.out)⟩
      · by_cases hn : (100 : Int) < ((e.t 2).n : Int)
        · have HR := hide (show mayE v = false from mayE_sh (i := 2) (by show shortS (v.t 2) = false; unfold shortS; rw [decide_eq_false (by rw [HLT.out 2]; omega), Bool.false_and]))
          go_wp2_with (go_at_call 22; (with_reducible refine (may_any _ _ _ _ _ (HE2.out.tx 2) (by have := (HTN.out 2).1; omega)).mono ?_); rintro e w' ⟨rfl, rfl⟩)
          go_ret
          exact ⟨retB HR.out.symm, by first | exact HB2.out | (rw [hg]; exact HB2.out)⟩
        · have HN := hide (show ∀ j, j < 3 → shK v j = true from fun j hj => by
            rcases Nat.lt_succ_iff_lt_or_eq.1 hj with h | h
            · exact HK.out j h
            · subst h
              show shortS (v.t 2) = true
              unfold shortS
              rw [hm, decide_eq_true (by rw [HLT.out 2]; omega)]
              rfl)
          go_wp2_with (go_at_call 22; (with_reducible refine (may_any _ _ _ _ _ (HE2.out.tx 2) (by have := (HTN.out 2).1; omega)).mono ?_); rintro e w' ⟨rfl, rfl⟩)
          go_round
          case rel => exact ⟨3, by omega, rfl, HN.out⟩
          case measure => simp [intOf]
    · cases hm : mayS (v.t 3)
      · have HR := hide (show mayE v = false from mayE_sh (i := 3) (by show shortS (v.t 3) = false; unfold shortS; rw [hm, Bool.and_false]))
        go_wp2_with (go_at_call 22; (with_reducible refine (may_any _ _ _ _ _ (HE2.out.tx 3) (by have := (HTN.out 3).1; omega)).mono ?_); rintro e w' ⟨rfl, rfl⟩)
        go_ret
        exact ⟨retB HR.out.symm, by first | exact HB2.out | (rw [hg]; exact HB2.out)⟩
      · by_cases hn : (100 : Int) < ((e.t 3).n : Int)
        · have HR := hide (show mayE v = false from mayE_sh (i := 3) (by show shortS (v.t 3) = false; unfold shortS; rw [decide_eq_false (by rw [HLT.out 3]; omega), Bool.false_and]))
          go_wp2_with (go_at_call 22; (with_reducible refine (may_any _ _ _ _ _ (HE2.out.tx 3) (by have := (HTN.out 3).1; omega)).mono ?_); rintro e w' ⟨rfl, rfl⟩)
          go_ret
          exact ⟨retB HR.out.symm, by first | exact HB2.out | (rw [hg]; exact HB2.out)⟩
        · have HN := hide (show ∀ j, j < 4 → shK v j = true from fun j hj => by
            rcases Nat.lt_succ_iff_lt_or_eq.1 hj with h | h
            · exact HK.out j h
            · subst h
              show shortS (v.t 3) = true
              unfold shortS
              rw [hm, decide_eq_true (by rw [HLT.out 3]; omega)]
              rfl)
          go_wp2_with (go_at_call 22; (with_reducible refine (may_any _ _ _ _ _ (HE2.out.tx 3) (by have := (HTN.out 3).1; omega)).mono ?_); rintro e w' ⟨rfl, rfl⟩)
          go_round
          case rel => exact ⟨4, by omega, rfl, HN.out⟩
          case measure => simp [intOf]
    · cases hm : mayS (v.t 4)
      · have HR := hide (show mayE v = false from mayE_sh (i := 4) (by show shortS (v.t 4) = false; unfold shortS; rw [hm, Bool.and_false]))
        go_wp2_with (go_at_call 22; (with_reducible refine (may_any _ _ _ _ _ (HE2.out.tx 4) (by have := (HTN.out 4).1; omega)).mono ?_); rintro e w' ⟨rfl, rfl⟩)
        go_ret
        exact ⟨retB HR.out.symm, by first | exact HB2.out | (rw [hg]; exact HB2.out)⟩
      · by_cases hn : (100 : Int) < ((e.t 4).n : Int)
        · have HR := hide (show mayE v = false from mayE_sh (i := 4) (by show shortS (v.t 4) = false; unfold shortS; rw [decide_eq_false (by rw [HLT.out 4]; omega), Bool.false_and]))
          go_wp2_with (go_at_call 22; (with_reducible refine (may_any _ _ _ _ _ (HE2.out.tx 4) (by have := (HTN.out 4).1; omega)).mono ?_); rintro e w' ⟨rfl, rfl⟩)
          go_ret
          exact ⟨retB HR.out.symm, by first | exact HB2.out | (rw [hg]; exact HB2.out)⟩
        · have HN := hide (show ∀ j, j < 5 → shK v j = true from fun j hj => by
            rcases Nat.lt_succ_iff_lt_or_eq.1 hj with h | h
            · exact HK.out j h
            · subst h
              show shortS (v.t 4) = true
              unfold shortS
              rw [hm, decide_eq_true (by rw [HLT.out 4]; omega)]
              rfl)
          go_wp2_with (go_at_call 22; (with_reducible refine (may_any _ _ _ _ _ (HE2.out.tx 4) (by have := (HTN.out 4).1; omega)).mono ?_); rintro e w' ⟨rfl, rfl⟩)
          go_round
          case rel => exact ⟨5, by omega, rfl, HN.out⟩
          case measure => simp [intOf]
    · cases hm : mayS (v.t 5)
      · have HR := hide (show mayE v = false from mayE_sh (i := 5) (by show shortS (v.t 5) = false; unfold shortS; rw [hm, Bool.and_false]))
        go_wp2_with (go_at_call 22; (with_reducible refine (may_any _ _ _ _ _ (HE2.out.tx 5) (by have := (HTN.out 5).1; omega)).mono ?_); rintro e w' ⟨rfl, rfl⟩)
        go_ret
        exact ⟨retB HR.out.symm, by first | exact HB2.out | (rw [hg]; exact HB2.out)⟩
      · by_cases hn : (100 : Int) < ((e.t 5).n : Int)
        · have HR := hide (show mayE v = false from mayE_sh (i := 5) (by show shortS (v.t 5) = false; unfold shortS; rw [decide_eq_false (by rw [HLT.out 5]; omega), Bool.false_and]))
          go_wp2_with (go_at_call 22; (with_reducible refine (may_any _ _ _ _ _ (HE2.out.tx 5) (by have := (HTN.out 5).1; omega)).mono ?_); rintro e w' ⟨rfl, rfl⟩)
          go_ret
          exact ⟨retB HR.out.symm, by first | exact HB2.out | (rw [hg]; exact HB2.out)⟩
        · have HN := hide (show ∀ j, j < 6 → shK v j = true from fun j hj => by
            rcases Nat.lt_succ_iff_lt_or_eq.1 hj with h | h
            · exact HK.out j h
            · subst h
              show shortS (v.t 5) = true
              unfold shortS
              rw [hm, decide_eq_true (by rw [HLT.out 5]; omega)]
              rfl)
          go_wp2_with (go_at_call 22; (with_reducible refine (may_any _ _ _ _ _ (HE2.out.tx 5) (by have := (HTN.out 5).1; omega)).mono ?_); rintro e w' ⟨rfl, rfl⟩)
          go_round
          case rel => exact ⟨6, by omega, rfl, HN.out⟩
          case measure => simp [intOf]
    · clear c0 c1 c2 c3 c4 c5
      obtain ⟨x0, x1, x2, x3, x4, x5, x6, x7, x8, x9, x10, x11, x12, x13, x14⟩ := EnvH.at_ HX2.out
      clear x0 x1 x2 x3 x4 x5
      have HS := hide (show ∀ (h6 : inB v.ix 0 9999 = true) (h7 : v.d.length ≤ 40) (h8 : (v.d.all fun x => inB x 0 16777215) = true) (h9 : clockOk v.ck = true), mayE v = true from fun h6 h7 h8 h9 => mayE_yes (HK.out 0 (by omega)) (HK.out 1 (by omega)) (HK.out 2 (by omega)) (HK.out 3 (by omega)) (HK.out 4 (by omega)) (HK.out 5 (by omega)) h6 h7 h8 h9)
      clear HK
      have HCF := hide (containsInt_any 34 Tryd.call34 (fun r => !inB r 0 16777215) bad_any e.d.A e.d.n e.d.c v.d w2 HE2.out.dr (by omega))
      cases hall : v.d.all fun x => inB x 0 16777215
      · have hany : (v.d.any fun r => !inB r 0 16777215) = true := by rw [any_all, hall]; rfl
        have HR := hide (show mayE v = false from mayE_no (by simp only [hall]; simp))
        go_wp2_with (go_at_call 33; (with_reducible refine HCF.out.mono ?_); rintro e w' ⟨rfl, rfl⟩)
        go_ret
        exact ⟨retB HR.out.symm, by first | exact HB2.out | (rw [hg]; exact HB2.out)⟩
      have hany : (v.d.any fun r => !inB r 0 16777215) = false := by rw [any_all, hall]; rfl
      by_cases hdn : (e.d.n : Int) ≤ 40
      case neg =>
        have HR := hide (show mayE v = false from mayE_no (by have := HL.out; simp; omega))
        go_wp2_with (go_at_call 33; (with_reducible refine HCF.out.mono ?_); rintro e w' ⟨rfl, rfl⟩)
        go_ret
        exact ⟨retB HR.out.symm, by first | exact HB2.out | (rw [hg]; exact HB2.out)⟩
      by_cases hx0 : (0 : Int) ≤ e.ix
      case neg =>
        have HR := hide (show mayE v = false from mayE_no (by rw [HIX.out]; unfold inB; simp; omega))
        go_wp2_with (go_at_call 33; (with_reducible refine HCF.out.mono ?_); rintro e w' ⟨rfl, rfl⟩)
        go_ret
        exact ⟨retB HR.out.symm, by first | exact HB2.out | (rw [hg]; exact HB2.out)⟩
      by_cases hx1 : e.ix ≤ 9999
      case neg =>
        have HR := hide (show mayE v = false from mayE_no (by rw [HIX.out]; unfold inB; simp; omega))
        go_wp2_with (go_at_call 33; (with_reducible refine HCF.out.mono ?_); rintro e w' ⟨rfl, rfl⟩)
        go_ret
        exact ⟨retB HR.out.symm, by first | exact HB2.out | (rw [hg]; exact HB2.out)⟩
      have HR := hide (show mayE v = clockOk e.ck from by
        cases hck : clockOk e.ck
        · exact ck_no HCK.out hck
        · exact HS.out (by rw [HIX.out]; unfold inB; simp; omega) (by have := HL.out; omega) hall (by rw [HCK.out]; exact hck))
      go_wp2_with (first
        | (go_at_call 33; (with_reducible refine HCF.out.mono ?_); rintro e w' ⟨rfl, rfl⟩)
        | (go_at_call 35; (with_reducible refine (clock_any e.ck _).mono ?_); rintro e w3 ⟨rfl, hb3⟩))
      go_ret
      exact ⟨retB HR.out.symm, by first | exact HB2.out.trans (hb3.mono (by have := HB2.out.size; omega)) | (rw [hg]; exact HB2.out.trans (hb3.mono (by have := HB2.out.size; omega)))⟩
end Go.Proofs.YtfeflmpdbejhjaaDoor
