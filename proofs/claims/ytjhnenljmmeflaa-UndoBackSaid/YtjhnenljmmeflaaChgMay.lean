/- Contracts of standishref1.Within, MayChange, and of change.May and MayChange by one function of lists. -/
import Derived.Test.YtjhnenljmmeflaaChg
namespace Go.Proofs.Ytjhnenljmmeflaa
open Go.RowKit
set_option linter.unusedVariables false

def withinB (size at_ n : Int) : Bool := decide (0 ≤ at_ ∧ at_ ≤ size ∧ 0 ≤ n ∧ n ≤ size - at_)

set_option maxHeartbeats 400000 in
theorem within_any (size at_ n : Int) (w : World) (h1 : 0 ≤ size) (h2 : size ≤ 9223372036854775807) :
    Calls Try.prog 64 #[.int .i64 size, .int .i64 at_, .int .i64 n] w fun e w' => e = .returned (.bool (withinB size at_ n)) ∧ w = w' := by
  go_enter Try.func64, Try.ntmps64
  go_wp2
  all_goals go_ret
  all_goals refine ⟨retB ?_, rfl⟩
  all_goals rw [Bool.eq_iff_iff]; simp [withinB]; try omega

theorem flip_same {P : Program} {f : FuncId} {args : Array Value} {w : World} {v : Value} (h : Calls P f args w fun e w' => e = .returned v ∧ w = w') : Calls P f args w fun e w' => e = .returned v ∧ w' = w :=
  h.mono fun _ _ h => ⟨h.1, h.2.symm⟩

set_option maxHeartbeats 1000000 in
theorem rmay_out (S : Option Addr) (k d : Nat) (at_ : Int) (C P : Option Addr) (n c m e' : Nat) (w : World) (hk : k ≤ 35184372088832) (h : withinB k at_ n = false) :
    Calls Try.prog 49 #[.slice S k d, .agg #[.int .i64 at_, .slice C n c, .slice P m e']] w fun e w' => e = .returned (.bool false) ∧ Below w.heap.size w w' := by
  have hw := fun W => flip_same (within_any k at_ n W (by omega) (by omega))
  rw [h] at hw
  have HW := hide hw
  clear hw h
  go_enter Try.func49, Try.ntmps49
  go_wp2_with fail
  go_quiet ((go_at_call 64; exact Calls.quiet_of_same (HW.out _)))
  go_wp2
  go_ret
  exact ⟨rfl, ((Below.refl _ _).alloc (Nat.le_refl _) _).trans ⟨rfl, rfl, rfl, Nat.le_refl _, fun _ _ => rfl⟩⟩

set_option maxHeartbeats 4000000 in
theorem rmay_in (S : Option Addr) (k d a : Nat) (C P : Option Addr) (n c m e' : Nat) (x cut put : List Int) (w : World) (hX : Runes w (sub S d a) n x) (hC : Runes w C n cut) (hP : Runes w P m put)
    (h1 : a + n ≤ k) (h2 : k ≤ 35184372088832) (h3 : m ≤ 35184372088832) (hd : k ≤ d) (hd2 : d ≤ 9223372036854775807) :
    Calls Try.prog 49 #[.slice S k d, .agg #[.int .i64 a, .slice C n c, .slice P m e']] w fun e w' =>
      e = .returned (.bool (sameS x cut && mayS cut && mayS put && decide ((k : Int) ≤ 1000) && decide ((m : Int) ≤ 1000 - ((k : Int) - n)))) ∧ Below w.heap.size w w' := by
  have hsl := run_sub_lh S k d a n (by omega)
  have hs1 : IntKind.i64.wrap ((a : Int) + n) = (a : Int) + n := IntWalk.i64_in _ (by omega)
  have hs2 : (0 : Int) ≤ (a : Int) + n := by omega
  have hw := fun W => flip_same (within_any k a n W (by omega) (by omega))
  rw [show withinB k a n = true from decide_eq_true (by omega)] at hw
  have HW := hide hw
  have h5 := fun (O : Obj) (q : Nat) => refSame_any (sub S d a) C n (d - a) n c x cut _ ((hX.alloc O).drewN q) ((hC.alloc O).drewN q) (by omega) (by omega)
  have h6 := fun (O : Obj) (q : Nat) => flip_same (refMay_any C n c cut _ ((hC.alloc O).drewN q) (by omega))
  have h7 := fun (O : Obj) (q : Nat) => flip_same (refMay_any P m e' put _ ((hP.alloc O).drewN q) (by omega))
  clear hw hX hC hP
  generalize sameS x cut = b1 at h5 ⊢
  generalize mayS cut = b2 at h6 ⊢
  generalize mayS put = b3 at h7 ⊢
  have H5 := hide h5
  have H6 := hide h6
  have H7 := hide h7
  clear h5 h6 h7
  go_enter Try.func49, Try.ntmps49
  go_wp2_with fail
  refine wp_region_quiet_lit (by kernel_rfl) (by kernel_rfl) ?_
  repeat (go_big_quiet_step ((first
      | (go_at_call 64; exact Calls.quiet_of_same (HW.out _))
      | (go_at_call 22; exact Calls.quiet_of (H5.out _ _)))))
  cases b1
  case' true =>
    repeat (go_big_quiet_step ((go_at_call 41; exact Calls.quiet_of_same (H6.out _ _))))
    cases b2
    case' true =>
      repeat (go_big_quiet_step ((go_at_call 41; exact Calls.quiet_of_same (H7.out _ _))))
      cases b3
      case' true =>
        repeat (go_big_quiet_step (fail))
        cases q4 : decide ((k : Int) ≤ 1000)
  all_goals
    repeat (go_big_quiet_step (fail))
    refine wpQuiet_nil ?_
    intro _ hw'
    obtain ⟨nq, hw''⟩ := hw'
    subst hw''
    go_wp2
    go_ret
    first
      | exact ⟨rfl, ((Below.refl _ _).alloc (Nat.le_refl _) _).trans ⟨rfl, rfl, rfl, Nat.le_refl _, fun _ _ => rfl⟩⟩
      | exact ⟨retB (by rw [q4]; rfl), ((Below.refl _ _).alloc (Nat.le_refl _) _).trans ⟨rfl, rfl, rfl, Nat.le_refl _, fun _ _ => rfl⟩⟩

end Go.Proofs.Ytjhnenljmmeflaa
