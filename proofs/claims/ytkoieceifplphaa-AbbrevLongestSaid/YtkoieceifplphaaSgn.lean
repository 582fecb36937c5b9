/- Contracts of the functions of layer 1 on one element: Class, Upper, Lower, and the document's own. -/
import Derived.Test.YtkoieceifplphaaBase
import Derived.Test.YtkoieceifplphaaSgnP
namespace Go.Proofs.Ytkoieceifplphaa
open Go.RowKit
set_option linter.unusedVariables false

theorem within_any (r a b : Int) (w : World) :
    Calls Try.prog 73 #[.int .i32 r, .int .i32 a, .int .i32 b] w fun e w' => e = .returned (.bool (decide (a ≤ r ∧ r ≤ b))) ∧ w = w' := by
  go_enter Try.func73, Try.ntmps73
  go_wp2
  all_goals go_ret
  all_goals refine ⟨retB ?_, rfl⟩
  all_goals rw [Bool.eq_iff_iff]; simp; try omega
theorem within_yes (r a b : Int) (w : World) (h : a ≤ r ∧ r ≤ b) :
    Calls Try.prog 73 #[.int .i32 r, .int .i32 a, .int .i32 b] w fun e w' => e = .returned (.bool true) ∧ w = w' := by
  have := within_any r a b w
  rwa [decide_eq_true h] at this
theorem within_no (r a b : Int) (w : World) (h : ¬ (a ≤ r ∧ r ≤ b)) :
    Calls Try.prog 73 #[.int .i32 r, .int .i32 a, .int .i32 b] w fun e w' => e = .returned (.bool false) ∧ w = w' := by
  have := within_any r a b w
  rwa [decide_eq_false h] at this
theorem isS_yes {r : Int} (h : 0 ≤ r ∧ r ≤ 1114111 ∧ (r < 55296 ∨ 57343 < r)) : isS r = true := by simp [isS]; omega
theorem isS_no {r : Int} (h : ¬ (0 ≤ r ∧ r ≤ 1114111 ∧ (r < 55296 ∨ 57343 < r))) : isS r = false := by
  rw [Bool.eq_false_iff]; intro h2; simp [isS] at h2; omega
theorem is_yes (r : Int) (w : World) (h : 0 ≤ r ∧ r ≤ 1114111 ∧ (r < 55296 ∨ 57343 < r)) :
    Calls Try.prog 72 #[.int .i32 r] w fun e w' => e = .returned (.bool true) ∧ w = w' := by
  have := is_any r w
  rwa [isS_yes h] at this
theorem is_no (r : Int) (w : World) (h : ¬ (0 ≤ r ∧ r ≤ 1114111 ∧ (r < 55296 ∨ 57343 < r))) :
    Calls Try.prog 72 #[.int .i32 r] w fun e w' => e = .returned (.bool false) ∧ w = w' := by
  have := is_any r w
  rwa [isS_no h] at this
theorem sign_yes (r : Int) (w : World) (h : 0 ≤ r ∧ r ≤ 1114111 ∧ (r < 55296 ∨ 57343 < r)) :
    Calls Try.prog 19 #[.int .i32 r] w fun e w' => e = .returned (.bool true) ∧ w = w' := by
  have := sign_any r w
  rwa [isS_yes h] at this
theorem sign_no (r : Int) (w : World) (h : ¬ (0 ≤ r ∧ r ≤ 1114111 ∧ (r < 55296 ∨ 57343 < r))) :
    Calls Try.prog 19 #[.int .i32 r] w fun e w' => e = .returned (.bool false) ∧ w = w' := by
  have := sign_any r w
  rwa [isS_no h] at this

/-- The ways through a class. -/
theorem cls_ways (r : Int) : ¬ (0 ≤ r ∧ r ≤ 1114111 ∧ (r < 55296 ∨ 57343 < r)) ∨ r = 9 ∨ r = 32 ∨ r = 10 ∨ r = 215 ∨ r = 247 ∨ r = 95 ∨
    ((0 ≤ r ∧ r ≤ 1114111 ∧ (r < 55296 ∨ 57343 < r)) ∧ (r ≠ 9 ∧ r ≠ 32 ∧ r ≠ 10 ∧ r ≠ 215 ∧ r ≠ 247 ∧ r ≠ 95) ∧
      ((97 ≤ r ∧ r ≤ 122) ∨ (65 ≤ r ∧ r ≤ 90) ∨ (48 ≤ r ∧ r ≤ 57) ∨ (192 ≤ r ∧ r ≤ 255) ∨ (¬ (97 ≤ r ∧ r ≤ 122) ∧ ¬ (65 ≤ r ∧ r ≤ 90) ∧ ¬ (48 ≤ r ∧ r ≤ 57) ∧ ¬ (192 ≤ r ∧ r ≤ 255)))) := by omega

set_option maxHeartbeats 1000000 in
theorem class_any (r : Int) (w : World) :
    Calls Try.prog 61 #[.int .i32 r] w fun e w' => e = .returned (.int .i64 (clsS r)) ∧ w = w' := by
  rcases cls_ways r with h | rfl | rfl | rfl | rfl | rfl | rfl | ⟨hs, ⟨n1, n2, n3, n4, n5, n6⟩, h⟩
  case' inl =>
    have hc : clsS r = 0 := by unfold clsS; repeat' split
                               all_goals omega
  case' inr.inl => have hc : clsS 9 = 1 := by decide
  case' inr.inr.inl => have hc : clsS 32 = 1 := by decide
  case' inr.inr.inr.inl => have hc : clsS 10 = 2 := by decide
  case' inr.inr.inr.inr.inl => have hc : clsS 215 = 4 := by decide
  case' inr.inr.inr.inr.inr.inl => have hc : clsS 247 = 4 := by decide
  case' inr.inr.inr.inr.inr.inr.inl => have hc : clsS 95 = 3 := by decide
  case' inr.inr.inr.inr.inr.inr.inr =>
    have e1 : (r == 9) = false := by simpa using n1
    have e2 : (r == 32) = false := by simpa using n2
    have e3 : (r == 10) = false := by simpa using n3
    have e4 : (r == 215) = false := by simpa using n4
    have e5 : (r == 247) = false := by simpa using n5
    have e6 : (r == 95) = false := by simpa using n6
    rcases h with h | h | h | h | ⟨m1, m2, m3, m4⟩
  case' inr.inr.inr.inr.inr.inr.inr.inr.inr.inr.inr =>
    have hc : clsS r = 4 := by unfold clsS; repeat' split
                               all_goals omega
  case' inr.inr.inr.inr.inr.inr.inr.inl =>
    have hc : clsS r = 3 := by unfold clsS; repeat' split
                               all_goals omega
  case' inr.inr.inr.inr.inr.inr.inr.inr.inl =>
    have hc : clsS r = 3 := by unfold clsS; repeat' split
                               all_goals omega
  case' inr.inr.inr.inr.inr.inr.inr.inr.inr.inl =>
    have hc : clsS r = 3 := by unfold clsS; repeat' split
                               all_goals omega
  case' inr.inr.inr.inr.inr.inr.inr.inr.inr.inr.inl =>
    have hc : clsS r = 3 := by unfold clsS; repeat' split
                               all_goals omega
  all_goals have HC := hide hc
  all_goals clear hc
  all_goals go_enter Try.func61, Try.ntmps61
  all_goals go_wp2_with (first
    | (go_at_call 72; (first | refine (is_yes _ _ (by omega)).mono ?_ | refine (is_no _ _ (by omega)).mono ?_); rintro e w' ⟨rfl, rfl⟩)
    | (go_at_call 73; (first | refine (within_yes _ _ _ _ (by omega)).mono ?_ | refine (within_no _ _ _ _ (by omega)).mono ?_); rintro e w' ⟨rfl, rfl⟩))
  all_goals go_ret
  all_goals exact ⟨retI HC.out.symm, rfl⟩

theorem letter_any (r : Int) (w : World) :
    Calls Try.prog 52 #[.int .i32 r] w fun e w' => e = .returned (.bool (decide ((97 ≤ r ∧ r ≤ 122) ∨ (65 ≤ r ∧ r ≤ 90)))) ∧ w = w' := by
  go_enter Try.func52, Try.ntmps52
  go_wp2
  all_goals go_ret
  all_goals refine ⟨retB ?_, rfl⟩
  all_goals first | (rw [Bool.eq_iff_iff]; simp; done) | (rw [Bool.eq_iff_iff]; simp; omega) | (rw [Bool.eq_iff_iff]; done)
theorem digit_any (r : Int) (w : World) :
    Calls Try.prog 53 #[.int .i32 r] w fun e w' => e = .returned (.bool (decide (48 ≤ r ∧ r ≤ 57))) ∧ w = w' := by
  go_enter Try.func53, Try.ntmps53
  go_wp2
  all_goals go_ret
  all_goals refine ⟨retB ?_, rfl⟩
  all_goals rw [Bool.eq_iff_iff]; simp; try omega
theorem letter_yes (r : Int) (w : World) (h : (97 ≤ r ∧ r ≤ 122) ∨ (65 ≤ r ∧ r ≤ 90)) :
    Calls Try.prog 52 #[.int .i32 r] w fun e w' => e = .returned (.bool true) ∧ w = w' := by
  have := letter_any r w
  rwa [decide_eq_true h] at this
theorem letter_no (r : Int) (w : World) (h : ¬ ((97 ≤ r ∧ r ≤ 122) ∨ (65 ≤ r ∧ r ≤ 90))) :
    Calls Try.prog 52 #[.int .i32 r] w fun e w' => e = .returned (.bool false) ∧ w = w' := by
  have := letter_any r w
  rwa [decide_eq_false h] at this
theorem digit_yes (r : Int) (w : World) (h : 48 ≤ r ∧ r ≤ 57) :
    Calls Try.prog 53 #[.int .i32 r] w fun e w' => e = .returned (.bool true) ∧ w = w' := by
  have := digit_any r w
  rwa [decide_eq_true h] at this
theorem digit_no (r : Int) (w : World) (h : ¬ (48 ≤ r ∧ r ≤ 57)) :
    Calls Try.prog 53 #[.int .i32 r] w fun e w' => e = .returned (.bool false) ∧ w = w' := by
  have := digit_any r w
  rwa [decide_eq_false h] at this

set_option maxHeartbeats 1000000 in
theorem rclass_any (r : Int) (w : World) :
    Calls Try.prog 23 #[.int .i32 r] w fun e w' => e = .returned (.int .i64 (clsS r)) ∧ w = w' := by
  rcases cls_ways r with h | rfl | rfl | rfl | rfl | rfl | rfl | ⟨hs, ⟨n1, n2, n3, n4, n5, n6⟩, h⟩
  case' inl =>
    have hc : clsS r = 0 := by unfold clsS; repeat' split
                               all_goals omega
  case' inr.inl => have hc : clsS 9 = 1 := by decide
  case' inr.inr.inl => have hc : clsS 32 = 1 := by decide
  case' inr.inr.inr.inl => have hc : clsS 10 = 2 := by decide
  case' inr.inr.inr.inr.inl => have hc : clsS 215 = 4 := by decide
  case' inr.inr.inr.inr.inr.inl => have hc : clsS 247 = 4 := by decide
  case' inr.inr.inr.inr.inr.inr.inl => have hc : clsS 95 = 3 := by decide
  case' inr.inr.inr.inr.inr.inr.inr =>
    have e1 : (r == 9) = false := by simpa using n1
    have e2 : (r == 32) = false := by simpa using n2
    have e3 : (r == 10) = false := by simpa using n3
    have e4 : (r != 215) = true := by simpa using n4
    have e5 : (r != 247) = true := by simpa using n5
    have e6 : (r == 95) = false := by simpa using n6
    rcases h with h | h | h | h | ⟨m1, m2, m3, m4⟩
  case' inr.inr.inr.inr.inr.inr.inr.inr.inr.inr.inr =>
    have hc : clsS r = 4 := by unfold clsS; repeat' split
                               all_goals omega
    have hm4 : r < 192 ∨ 255 < r := by omega
    rcases hm4 with hm4 | hm4
  case' inr.inr.inr.inr.inr.inr.inr.inl =>
    have hc : clsS r = 3 := by unfold clsS; repeat' split
                               all_goals omega
  case' inr.inr.inr.inr.inr.inr.inr.inr.inl =>
    have hc : clsS r = 3 := by unfold clsS; repeat' split
                               all_goals omega
  case' inr.inr.inr.inr.inr.inr.inr.inr.inr.inl =>
    have hc : clsS r = 3 := by unfold clsS; repeat' split
                               all_goals omega
  case' inr.inr.inr.inr.inr.inr.inr.inr.inr.inr.inl =>
    have hc : clsS r = 3 := by unfold clsS; repeat' split
                               all_goals omega
  all_goals have HC := hide hc
  all_goals clear hc
  all_goals go_enter Try.func23, Try.ntmps23
  all_goals go_wp2_with (first
    | (go_at_call 19; (first | refine (sign_yes _ _ (by omega)).mono ?_ | refine (sign_no _ _ (by omega)).mono ?_); rintro e w' ⟨rfl, rfl⟩)
    | (go_at_call 52; (first | refine (letter_yes _ _ (by omega)).mono ?_ | refine (letter_no _ _ (by omega)).mono ?_); rintro e w' ⟨rfl, rfl⟩)
    | (go_at_call 53; (first | refine (digit_yes _ _ (by omega)).mono ?_ | refine (digit_no _ _ (by omega)).mono ?_); rintro e w' ⟨rfl, rfl⟩))
  all_goals go_ret
  all_goals exact ⟨retI HC.out.symm, rfl⟩

end Go.Proofs.Ytkoieceifplphaa
