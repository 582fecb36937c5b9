/- Contracts of the order of texts: cmp.Compare, slices.Compare, signs.Less, standishref1.Less. -/
import Derived.Test.YtkfihnkghiajiaaBase
import Derived.Test.YtkfihnkghiajiaaSgnP
namespace Go.Proofs.Ytkfihnkghiajiaa
open Go.RowKit
set_option linter.unusedVariables false

theorem isNaN_any (x : Int) (w : World) : Calls Try.prog 70 #[.int .i32 x] w fun e w' => e = .returned (.bool false) ∧ w = w' := by
  go_enter Try.func70, Try.ntmps70
  go_wp2
  go_ret
  exact ⟨retB (by simp), rfl⟩

def cmpS (a b : Int) : Int := if a < b then -1 else if b < a then 1 else 0
set_option maxHeartbeats 1000000 in
theorem compare1_any (a b : Int) (w : World) : Calls Try.prog 59 #[.int .i32 a, .int .i32 b] w fun e w' => e = .returned (.int .i64 (cmpS a b)) ∧ w = w' := by
  have h : a < b ∨ b < a ∨ a = b := by omega
  rcases h with h | h | rfl
  all_goals go_enter Try.func59, Try.ntmps59
  all_goals go_wp2_with (go_at_call 70; refine (isNaN_any _ _).mono ?_; rintro e w' ⟨rfl, rfl⟩)
  all_goals go_ret
  · exact ⟨retI (by unfold cmpS; rw [if_pos h]), rfl⟩
  · exact ⟨retI (by unfold cmpS; rw [if_neg (by omega), if_pos h]), rfl⟩
  · exact ⟨retI (by unfold cmpS; rw [if_neg (by omega), if_neg (by omega)]), rfl⟩

set_option maxHeartbeats 2000000 in
theorem compare_any (A B : Option Addr) (n c m d : Nat) (a b : List Int) (w : World) (ha : Runes w A n a) (hb : Runes w B m b) (hn : n ≤ 9223372036854775807) (hm : m ≤ 9223372036854775807) :
    Calls Try.prog 44 #[.slice A n c, .slice B m d] w fun e w' => (∃ z, e = .returned (.int .i64 z) ∧ decide (z < 0) = lessS a b) ∧ w = w' := by
  have HA := hide ha.len
  have HB := hide hb.len
  go_enter Try.func44, Try.ntmps44
  go_wp2_with fail
  go_loop [11] (fun i => ∃ k : Nat, k ≤ n ∧ k ≤ m ∧ i = .int .i64 k ∧ Hid (lessS (a.drop k) (b.drop k) = lessS a b)) (fun i => n - (intOf i).toNat)
  case atStart => exact ⟨0, Nat.zero_le _, Nat.zero_le _, rfl, rfl⟩
  case round =>
    obtain ⟨k, hk, hk2, rfl, hj⟩ := hrel
    by_cases hlt : k < n
    · obtain ⟨ab, ao, rfl, hc⟩ := ha.at_ k hlt
      by_cases hlt2 : k < m
      · obtain ⟨bb, bo, rfl, hd⟩ := hb.at_ k hlt2
        have HT := hide (less_drop (a := a) (b := b) (k := k) (by rw [HA.out]; exact hlt) (by rw [HB.out]; exact hlt2))
        generalize nth a k = x at hc HT
        generalize nth b k = y at hd HT
        have hw : (x < y ∧ cmpS x y = -1) ∨ (y < x ∧ cmpS x y = 1) ∨ (x = y ∧ cmpS x y = 0) := by unfold cmpS; repeat' split
                                                                                                  all_goals omega
        have HC := hide (compare1_any x y)
        rcases hw with ⟨h1, h2⟩ | ⟨h1, h2⟩ | ⟨h1, h2⟩
        · rw [h2] at HC
          have H1 := hide h1
          clear h2 h1
          go_wp2_with fail
          refine (HC.out _).mono ?_
          rintro e w' ⟨rfl, rfl⟩
          go_wp2_with fail
          go_ret
          refine ⟨⟨-1, rfl, ?_⟩, rfl⟩
          rw [← hj.out, HT.out, if_neg (by have := H1.out; omega)]
          simpa using H1.out
        · rw [h2] at HC
          have H1 := hide h1
          clear h2 h1
          go_wp2_with fail
          refine (HC.out _).mono ?_
          rintro e w' ⟨rfl, rfl⟩
          go_wp2_with fail
          go_ret
          refine ⟨⟨1, rfl, ?_⟩, rfl⟩
          rw [← hj.out, HT.out, if_neg (by have := H1.out; omega)]
          have := H1.out
          simp
          omega
        · rw [h2] at HC
          have H1 := hide h1
          clear h2 h1
          go_wp2_with fail
          refine (HC.out _).mono ?_
          rintro e w' ⟨rfl, rfl⟩
          go_wp2_with fail
          go_round
          case rel => exact ⟨k + 1, by omega, by omega, by go_num, by
            have h1 := HT.out
            rw [if_pos H1.out] at h1
            exact h1.symm.trans hj.out⟩
          case measure => simp [intOf]; omega
      · obtain rfl : k = m := by omega
        have HE := hide (less_end (a := a) (b := b) (k := k) (by rw [HA.out]; omega) (by rw [HB.out]; exact Nat.le_refl _) (.inr HB.out.symm))
        go_wp2_with fail
        go_ret
        refine ⟨⟨1, rfl, ?_⟩, rfl⟩
        rw [← hj.out, HE.out, HA.out, HB.out]
        simp
        omega
    · obtain rfl : k = n := by omega
      have HE := hide (less_end (a := a) (b := b) (k := k) (by rw [HA.out]; exact Nat.le_refl _) (by rw [HB.out]; exact hk2) (.inl HA.out.symm))
      by_cases hlt2 : k < m
      · go_wp2_with fail
        go_ret
        refine ⟨⟨-1, rfl, ?_⟩, rfl⟩
        rw [← hj.out, HE.out, HA.out, HB.out]
        simpa using hlt2
      · go_wp2_with fail
        go_ret
        refine ⟨⟨0, rfl, ?_⟩, rfl⟩
        rw [← hj.out, HE.out, HA.out, HB.out]
        simpa using hlt2

set_option maxHeartbeats 400000 in
theorem less_any (A B : Option Addr) (n c m d : Nat) (a b : List Int) (w : World) (ha : Runes w A n a) (hb : Runes w B m b) (hn : n ≤ 9223372036854775807) (hm : m ≤ 9223372036854775807) :
    Calls Try.prog 23 #[.slice A n c, .slice B m d] w fun e w' => e = .returned (.bool (lessS a b)) ∧ w = w' := by
  have HC := hide (compare_any A B n c m d a b w ha hb hn hm)
  clear ha hb
  go_enter Try.func23, Try.ntmps23
  go_wp2_with fail
  refine HC.out.mono ?_
  rintro e w' ⟨⟨z, rfl, hz⟩, rfl⟩
  have HZ := hide hz
  clear hz
  go_wp2_with fail
  go_ret
  exact ⟨retB HZ.out, rfl⟩

set_option maxHeartbeats 2000000 in
theorem rless_any (A B : Option Addr) (n c m d : Nat) (a b : List Int) (w : World) (ha : Runes w A n a) (hb : Runes w B m b) (hn : n ≤ 9223372036854775807) (hm : m ≤ 9223372036854775807) :
    Calls Try.prog 24 #[.slice A n c, .slice B m d] w fun e w' => e = .returned (.bool (lessS a b)) ∧ ∃ q, w' = w.drewN q := by
  have HA := hide ha.len
  have HB := hide hb.len
  go_enter Try.func24, Try.ntmps24
  go_wp2_with fail
  go_loopw [5] (fun i wr => ∃ k q : Nat, k ≤ n ∧ k ≤ m ∧ i = .int .i64 k ∧ wr = w.drewN q ∧ Hid (lessS (a.drop k) (b.drop k) = lessS a b)) (fun i _ => n - (intOf i).toNat)
  case atStart => exact ⟨0, 0, Nat.zero_le _, Nat.zero_le _, rfl, rfl, rfl⟩
  case round =>
    obtain ⟨k, q, hk, hk2, rfl, rfl, hj⟩ := hrel
    have hgo : (k < n ∧ k < m) ∨ k = n ∨ (k < n ∧ k = m) := by omega
    rcases hgo with ⟨hlt, hlt2⟩ | hgo
    · obtain ⟨ab, ao, rfl, hc⟩ := ha.at_ k hlt
      obtain ⟨bb, bo, rfl, hd⟩ := hb.at_ k hlt2
      have HT := hide (less_drop (a := a) (b := b) (k := k) (by rw [HA.out]; exact hlt) (by rw [HB.out]; exact hlt2))
      have i0 : (0 : Int) ≤ (k : Int) := by omega
      have i1 : (k : Int) < (n : Int) := by omega
      have i2 : (k : Int) < (m : Int) := by omega
      generalize nth a k = x at hc HT
      generalize nth b k = y at hd HT
      by_cases hs : x = y
      · have HS := hide hs
        have hs' : (x != y) = false := by rw [hs]; simp
        clear hs
        go_wp2_with fail
        go_quiet (fail)
        go_wp2
        go_roundw
        case rel => exact ⟨k + 1, _, by omega, by omega, by go_num, rfl, by
          have h1 := HT.out
          rw [if_pos HS.out] at h1
          exact h1.symm.trans hj.out⟩
        case measure => simp [intOf]; omega
      · have HS := hide hs
        have hs' : (x != y) = true := by simpa using hs
        clear hs
        go_wp2_with fail
        go_quiet (fail)
        go_wp2
        go_quiet (fail)
        go_wp2
        go_ret
        refine ⟨retB ?_, _, (congrArg (World.drewN · _) (World.drewN_drewN _ _ _)).trans (World.drewN_drewN _ _ _)⟩
        rw [← hj.out, HT.out, if_neg HS.out]
    · have HE := hide (less_end (a := a) (b := b) (k := k) (by rw [HA.out]; exact hk) (by rw [HB.out]; exact hk2) (by rcases hgo with h | h; exact .inl (by rw [HA.out]; exact h); exact .inr (by rw [HB.out]; exact h.2)))
      have HF := hide (show decide (n < m) = lessS a b by rw [← hj.out, HE.out, HA.out, HB.out])
      rcases hgo with hgo | hgo
      all_goals go_wp2
      all_goals go_ret
      all_goals first | exact ⟨retB (by rw [← HF.out, decide_eq_decide]; omega), _, rfl⟩ | exact ⟨retB (by rw [← HF.out, decide_eq_decide]), _, rfl⟩ | exact ⟨retB (by rw [← HF.out]), _, rfl⟩
end Go.Proofs.Ytkfihnkghiajiaa
