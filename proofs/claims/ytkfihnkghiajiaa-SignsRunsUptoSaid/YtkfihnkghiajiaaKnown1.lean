/- The walks of standishlaw1: known, numbers, SignsCases, SignsNumbers. -/
import Derived.Test.YtkfihnkghiajiaaSgnC
import Derived.Test.YtkfihnkghiajiaaSgnO
namespace Go.Proofs.Ytkfihnkghiajiaa
open Go.RowKit
set_option linter.unusedVariables false

theorem w32_lit {l : List Int} (h : l.all (fun x => decide (-2147483648 ≤ x) && decide (x ≤ 2147483647)) = true) : W32 l := fun x hx => by
  rw [List.all_eq_true] at h
  have := h x hx
  simpa using this

theorem belowN {B : Nat} {a w : World} (h : Below B a w) (n : Nat) : Below B a (w.drewN n) := ⟨h.os, h.tape, h.output, h.size, h.block⟩
/-- A literal's elements, in a new block whose number is known. -/
theorem newsAt (W : World) (z : Nat) (hz : W.heap.size = z) (cs : Array Value) (l : List Int) (h : cs = (cells32 l).toArray) (hw : W32 l) : Runes (W.alloc (.cells cs 21)) (some ⟨z, 0, none⟩) l.length l := by
  subst hz
  exact Runes.news W cs 21 l h hw

set_option maxHeartbeats 4000000 in
theorem known1_any (w : World) : Calls Try.prog 14 #[] w fun e w' => e = .returned (.bool true) ∧ Below w.heap.size w w' := by
  have HN := hide newsAt
  go_enter Try.func14, Try.ntmps14
  go_wp2_with fail
  refine (case_any _ 5 5 4 [97, 45, 98, 95, 99] _ (HN.out _ _ (by simp) _ [97, 45, 98, 95, 99] rfl (w32_lit (by decide))) (by omega)).mono ?_
  rw [show caseS [97, 45, 98, 95, 99] 4 = [65, 66, 67] by decide]
  rintro e w1 ⟨A1, n1, c1, rfl, ho1, hb1⟩
  obtain rfl : n1 = 3 := ho1.len.symm
  have HA := hide ho1.runes
  have HB1 := hide (((Below.refl w.heap.size w).alloc (Nat.le_refl _) _).trans (hb1.mono (by simp)))
  clear ho1 hb1
  go_wp2_with fail
  refine (case_any _ 4 4 5 [88, 121, 32, 233] _ (HN.out _ _ (by simp) _ [88, 121, 32, 233] rfl (w32_lit (by decide))) (by omega)).mono ?_
  rw [show caseS [88, 121, 32, 233] 5 = [120, 121, 201] by decide]
  rintro e w2 ⟨A2, n2, c2, rfl, ho2, hb2⟩
  obtain rfl : n2 = 3 := ho2.len.symm
  have HC := hide ho2.runes
  have HAL := hide (((Below.refl w1.heap.size w1).alloc (Nat.le_refl _) (.cells #[.int .i32 88, .int .i32 121, .int .i32 32, .int .i32 233] 21)).trans (hb2.mono (by simp)))
  have HA2 := hide (HA.out.below HAL.out)
  have HB2 := hide (HB1.out.trans (HAL.out.mono HB1.out.size))
  clear ho2 hb2 HAL HA
  go_wp2_with fail
  refine (may_any _ 2 2 [97, 1114111] _ (HN.out _ _ (by simp) _ [97, 1114111] rfl (w32_lit (by decide))) (by omega)).mono ?_
  rw [show mayS [97, 1114111] = true by decide]
  rintro e w3 ⟨rfl, rfl⟩
  go_wp2_with fail
  refine (may_any _ 1 1 [55296] _ (HN.out _ _ (by simp) _ [55296] rfl (w32_lit (by decide))) (by omega)).mono ?_
  rw [show mayS [55296] = false by decide]
  rintro e w3 ⟨rfl, rfl⟩
  go_wp2_with fail
  refine (class_any 95 _).mono ?_
  rw [show clsS 95 = 3 by decide]
  rintro e w3 ⟨rfl, rfl⟩
  go_wp2_with fail
  refine (class_any (-1) _).mono ?_
  rw [show clsS (-1) = 0 by decide]
  rintro e w3 ⟨rfl, rfl⟩
  go_wp2_with fail
  refine (upper_any 97 _ (by omega)).mono ?_
  rw [show upS 97 = 65 by decide]
  rintro e w3 ⟨rfl, rfl⟩
  go_wp2_with fail
  refine (lower_any 65 _ (by omega)).mono ?_
  rw [show loS 65 = 97 by decide]
  rintro e w3 ⟨rfl, rfl⟩
  go_wp2_with fail
  refine (refSame_any A1 _ 3 c1 3 3 [65, 66, 67] [65, 66, 67] _ (((HA2.out.alloc _).alloc _).alloc _) (HN.out _ _ (by simp) _ [65, 66, 67] rfl (w32_lit (by decide))) (by omega) (by omega)).mono ?_
  rw [show sameS [65, 66, 67] [65, 66, 67] = true by decide]
  rintro e w3 ⟨rfl, q3, rfl⟩
  go_wp2_with fail
  refine (refSame_any A2 _ 3 c2 3 3 [120, 121, 201] [120, 121, 201] _ (((((HC.out.alloc _).alloc _).alloc _).drewN q3).alloc _) (HN.out _ _ (by simp) _ [120, 121, 201] rfl (w32_lit (by decide))) (by omega) (by omega)).mono ?_
  rw [show sameS [120, 121, 201] [120, 121, 201] = true by decide]
  rintro e w3 ⟨rfl, q4, rfl⟩
  go_wp2_with fail
  refine (less_any none A1 0 0 3 c1 [] [65, 66, 67] _ (Runes.nil _ _) ((((((HA2.out.alloc _).alloc _).alloc _).drewN q3).alloc _).drewN q4) (by omega) (by omega)).mono ?_
  rw [show lessS [] [65, 66, 67] = true from rfl]
  rintro e w3 ⟨rfl, rfl⟩
  go_wp2_with fail
  go_ret
  have hs := HB2.out.size
  exact ⟨rfl, belowN ((belowN (((HB2.out.alloc hs _).alloc (by simp; omega) _).alloc (by simp; omega) _) q3).alloc (by simp; omega) _) q4⟩

set_option maxHeartbeats 1000000 in
theorem numbers_any (r : Int) (w : World) (hr : -2147483648 ≤ r ∧ r ≤ 2147483647) :
    Calls Try.prog 13 #[.int .i32 r] w fun e w' => e = .returned (.bool true) ∧ Below w.heap.size w w' := by
  have HN := hide (Runes.news w #[.int .i32 r] 21 [r] rfl (W32.one hr))
  have HM := hide (show mayS [r] = isS r by simp [mayS])
  have H1 := hide class_any
  have H2 := hide rclass_any
  have H3 := hide upper_any
  have H4 := hide rupper_any
  have H5 := hide lower_any
  have H6 := hide rlower_any
  have HR := hide hr
  clear hr
  go_enter Try.func13, Try.ntmps13
  go_wp2_with (first
    | (go_at_call 17; refine (H1.out r _).mono ?_; rintro e w' ⟨rfl, rfl⟩)
    | (go_at_call 35; refine (H2.out r _).mono ?_; rintro e w' ⟨rfl, rfl⟩)
    | (go_at_call 15; refine (H3.out r _ HR.out).mono ?_; rintro e w' ⟨rfl, rfl⟩)
    | (go_at_call 36; refine (H4.out r _ HR.out).mono ?_; rintro e w' ⟨rfl, rfl⟩)
    | (go_at_call 16; refine (H5.out r _ HR.out).mono ?_; rintro e w' ⟨rfl, rfl⟩)
    | (go_at_call 37; refine (H6.out r _ HR.out).mono ?_; rintro e w' ⟨rfl, rfl⟩)
    | (go_at_call 19; refine (may_any _ 1 1 [r] _ HN.out (by omega)).mono ?_; rw [HM.out]; rintro e w' ⟨rfl, rfl⟩)
    | (go_at_call 38; refine (sign_any r _).mono ?_; rintro e w' ⟨rfl, rfl⟩))
  go_ret
  exact ⟨rfl, (Below.refl _ _).alloc (Nat.le_refl _) _⟩
set_option maxHeartbeats 1000000 in
theorem cases1_any (r : Int) (w : World) (hr : -2147483648 ≤ r ∧ r ≤ 2147483647) :
    Calls Try.prog 4 #[.int .i32 r] w fun e w' => e = .returned (.bool true) ∧ Below w.heap.size w w' := by
  have H1 := hide (fun x W => class_any x W)
  have HU := hide (upper_any r · hr)
  have HL := hide (lower_any r · hr)
  have HUL := hide (fun W => (show Calls Try.prog 15 #[.int .i32 (loS r)] W fun e w' => e = .returned (.int .i32 (upS r)) ∧ W = w' by have h := upper_any (loS r) W (lo_bd hr); rwa [up_lo] at h))
  have HLU := hide (fun W => (show Calls Try.prog 16 #[.int .i32 (upS r)] W fun e w' => e = .returned (.int .i32 (loS r)) ∧ W = w' by have h := lower_any (upS r) W (up_bd hr); rwa [lo_up] at h))
  have HUU := hide (fun W => (show Calls Try.prog 15 #[.int .i32 (upS r)] W fun e w' => e = .returned (.int .i32 (upS r)) ∧ W = w' by have h := upper_any (upS r) W (up_bd hr); rwa [up_up] at h))
  have HLL := hide (fun W => (show Calls Try.prog 16 #[.int .i32 (loS r)] W fun e w' => e = .returned (.int .i32 (loS r)) ∧ W = w' by have h := lower_any (loS r) W (lo_bd hr); rwa [lo_lo] at h))
  have HCU := hide (fun W => (show Calls Try.prog 17 #[.int .i32 (upS r)] W fun e w' => e = .returned (.int .i64 (clsS r)) ∧ W = w' by have h := class_any (upS r) W; rwa [cls_up] at h))
  have HCL := hide (fun W => (show Calls Try.prog 17 #[.int .i32 (loS r)] W fun e w' => e = .returned (.int .i64 (clsS r)) ∧ W = w' by have h := class_any (loS r) W; rwa [cls_lo] at h))
  clear hr
  go_enter Try.func4, Try.ntmps4
  go_wp2_with (first
    | (go_at_call 15; (first | (with_reducible refine (HU.out _).mono ?_) | (with_reducible refine (HUL.out _).mono ?_) | (with_reducible refine (HUU.out _).mono ?_)); rintro e w' ⟨rfl, rfl⟩)
    | (go_at_call 16; (first | (with_reducible refine (HL.out _).mono ?_) | (with_reducible refine (HLU.out _).mono ?_) | (with_reducible refine (HLL.out _).mono ?_)); rintro e w' ⟨rfl, rfl⟩)
    | (go_at_call 17; (first | (with_reducible refine (HCU.out _).mono ?_) | (with_reducible refine (HCL.out _).mono ?_) | (with_reducible refine (H1.out r _).mono ?_)); rintro e w' ⟨rfl, rfl⟩)
    | (go_at_call 14; refine (known1_any _).mono ?_; rintro e w1 ⟨rfl, hb1⟩))
  go_ret
  exact ⟨rfl, hb1⟩

set_option maxHeartbeats 4000000 in
theorem numbers1_any (w : World) :
    Calls Try.prog 3 #[] w fun e w' => e = .returned (.bool true) ∧ Below w.heap.size w w' := by
  go_enter Try.func3, Try.ntmps3
  go_wp2_with fail
  go_loopw [1] (fun i wr => ∃ r : Int, -3 ≤ r ∧ r ≤ 768 ∧ i = .int .i32 r ∧ Below w.heap.size w wr) (fun i _ => (768 - intOf i).toNat)
  case atStart => exact ⟨-3, by omega, by omega, rfl, Below.refl _ _⟩
  case round =>
    obtain ⟨r, h1, h2, rfl, hbel⟩ := hrel
    have HB := hide hbel
    clear hbel
    by_cases hlt : r < 768
    · go_wp2_with fail
      refine (numbers_any r _ (by omega)).mono ?_
      rintro e w1 ⟨rfl, hb1⟩
      have HB1 := hide (HB.out.trans (hb1.mono HB.out.size))
      clear hb1
      go_wp2_with fail
      go_roundw
      case rel => exact ⟨r + 1, by omega, by omega, by go_num, HB1.out⟩
      case measure => simp [intOf]; omega
    · have HL := hide (newsAt wr _ rfl #[.int .i32 55294, .int .i32 55295, .int .i32 55296, .int .i32 57343, .int .i32 57344, .int .i32 1114110, .int .i32 1114111, .int .i32 1114112, .int .i32 2147483647, .int .i32 (-2147483648), .int .i32 8490, .int .i32 383] [55294, 55295, 55296, 57343, 57344, 1114110, 1114111, 1114112, 2147483647, -2147483648, 8490, 383] rfl (w32_lit (by decide)))
      have hsz := HB.out.size
      have HA := hide ((Below.refl wr.heap.size wr).alloc (Nat.le_refl _) (.cells #[.int .i32 55294, .int .i32 55295, .int .i32 55296, .int .i32 57343, .int .i32 57344, .int .i32 1114110, .int .i32 1114111, .int .i32 1114112, .int .i32 2147483647, .int .i32 (-2147483648), .int .i32 8490, .int .i32 383] 21))
      obtain ⟨ls, hls⟩ : ∃ ls : List Int, [55294, 55295, 55296, 57343, 57344, 1114110, 1114111, 1114112, 2147483647, -2147483648, 8490, 383] = ls := ⟨_, rfl⟩
      rw [hls] at HL
      have h12 : ls.length = 12 := by rw [← hls]; rfl
      rw [h12] at HL
      clear hls h12
      go_wp2_with fail
      have hH := HL.out
      have hAA := HA.out
      generalize hW : wr.alloc _ = w2 at hH hAA ⊢
      have HL2 := hide hH
      have HA2 := hide hAA
      clear hH hAA hW HL HA
      go_loopw [13] (fun i wx => ∃ k : Nat, k ≤ 12 ∧ i = .int .i64 k ∧ Below w2.heap.size w2 wx) (fun i _ => 12 - (intOf i).toNat)
      case atStart => exact ⟨0, by omega, rfl, Below.refl _ _⟩
      case round =>
        obtain ⟨k, hk, rfl, hbel⟩ := hrel
        have HC := hide hbel
        clear hbel
        by_cases hk2 : k < 12
        · obtain ⟨b, o, hbo, hc⟩ := (HL2.out.below HC.out).at_ k hk2
          have HBD := hide (HL2.out.wf.bd k)
          cases hbo
          rw [Nat.zero_add] at hc
          have h0 : (0 : Int) ≤ (k : Int) := by omega
          have h1' : (k : Int) < 12 := by omega
          generalize nth ls k = x at hc HBD
          go_wp2_with fail
          refine (numbers_any x _ HBD.out).mono ?_
          rintro e w3 ⟨rfl, hb3⟩
          have HC3 := hide (HC.out.trans (hb3.mono HC.out.size))
          clear hb3
          go_wp2_with fail
          go_roundw
          case rel => exact ⟨k + 1, by omega, by go_num, HC3.out⟩
          case measure => simp [intOf]; omega
        · go_wp2_with fail
          refine (known1_any _).mono ?_
          rintro e w3 ⟨rfl, hb3⟩
          have HC3 := hide (HC.out.trans (hb3.mono HC.out.size))
          clear hb3
          go_wp2_with fail
          go_ret
          exact ⟨rfl, HB.out.trans ((HA2.out.trans (HC3.out.mono HA2.out.size)).mono hsz)⟩
end Go.Proofs.Ytkfihnkghiajiaa
