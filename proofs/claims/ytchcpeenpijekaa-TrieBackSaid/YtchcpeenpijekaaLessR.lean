/- The contract of standishref1.Less. -/
import Derived.Test.YtchcpeenpijekaaBaseA
import Derived.Test.YtchcpeenpijekaaSgnP
namespace Go.Proofs.Ytchcpeenpijekaa
open Go.RowKit
set_option linter.unusedVariables false

set_option maxHeartbeats 2000000 in
theorem rless_any (A B : Option Addr) (n c m d : Nat) (a b : List Int) (w : World) (ha : Runes w A n a) (hb : Runes w B m b) (hn : n ≤ 9223372036854775807) (hm : m ≤ 9223372036854775807) :
    Calls Try.prog 29 #[.slice A n c, .slice B m d] w fun e w' => e = .returned (.bool (lessS a b)) ∧ ∃ q, w' = w.drewN q := by
  have HA := hide ha.len
  have HB := hide hb.len
  go_enter Try.func29, Try.ntmps29
  go_wp2_with fail
  go_loopw [5] (fun i wr => ∃ k q : Nat, k ≤ n ∧ k ≤ m ∧ i = .int .i64 k ∧ wr = w.drewN q ∧ Hid (lessS (a.drop k) (b.drop k) = lessS a b)) (fun i _ => n - (intOf i).toNat)
  case atStart => exact ⟨0, 0, Nat.zero_le _, Nat.zero_le _, rfl, rfl, rfl⟩
  case round =>
    obtain ⟨k, q, hk, hk2, rfl, rfl, hj⟩ := hrel
    have hgo : (k < n ∧ k < m) ∨ k = n ∨ (k < n ∧ k = m) := by omega
    rcases hgo with ⟨hlt, hlt2⟩ | hgo
    · obtain ⟨ab, ao, rfl, hc⟩ := ha.at_ k hlt
      obtain ⟨bb, bo, rfl, hd⟩ := hb.at_ k hlt2
      have HT := hide (less_drop (a := a) (b := b) (k := k) (by rw [HA.out]; exact hlt) (by rw [HB.out]; exact hlt2))
      have i0 : (0 : Int) ≤ (k : Int) := by omega
      have i1 : (k : Int) < (n : Int) := by omega
      have i2 : (k : Int) < (m : Int) := by omega
      generalize nth a k = x at hc HT
      generalize nth b k = y at hd HT
      by_cases hs : x = y
      · have HS := hide hs
        have hs' : (x != y) = false := by rw [hs]; simp
        clear hs
        go_wp2_with fail
        go_quiet (fail)
        go_wp2
        go_roundw
        case rel => exact ⟨k + 1, _, by omega, by omega, by go_num, rfl, by
          have h1 := HT.out
          rw [if_pos HS.out] at h1
          exact h1.symm.trans hj.out⟩
        case measure => simp [intOf]; omega
      · have HS := hide hs
        have hs' : (x != y) = true := by simpa using hs
        clear hs
        go_wp2_with fail
        go_quiet (fail)
        go_wp2
        go_quiet (fail)
        go_wp2
        go_ret
        refine ⟨retB ?_, _, (congrArg (World.drewN · _) (World.drewN_drewN _ _ _)).trans (World.drewN_drewN _ _ _)⟩
        rw [← hj.out, HT.out, if_neg HS.out]
    · have HE := hide (less_end (a := a) (b := b) (k := k) (by rw [HA.out]; exact hk) (by rw [HB.out]; exact hk2) (by rcases hgo with h | h; exact .inl (by rw [HA.out]; exact h); exact .inr (by rw [HB.out]; exact h.2)))
      have HF := hide (show decide (n < m) = lessS a b by rw [← hj.out, HE.out, HA.out, HB.out])
      rcases hgo with hgo | hgo
      all_goals go_wp2
      all_goals go_ret
      all_goals first | exact ⟨retB (by rw [← HF.out, decide_eq_decide]; omega), _, rfl⟩ | exact ⟨retB (by rw [← HF.out, decide_eq_decide]), _, rfl⟩ | exact ⟨retB (by rw [← HF.out]), _, rfl⟩
end Go.Proofs.Ytchcpeenpijekaa
