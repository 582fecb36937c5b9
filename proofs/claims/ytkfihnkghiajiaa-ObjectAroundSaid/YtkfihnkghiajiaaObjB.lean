/- Contracts of layer 25's functions on brackets: closing, opening. -/
import Derived.Test.YtkfihnkghiajiaaObj
namespace Go.Proofs.Ytkfihnkghiajiaa
open Go.RowKit
set_option linter.unusedVariables false

/-- A place, or -1. -/
def placeN : Option Nat → Int
  | none => -1
  | some t => t
theorem shut_step {o c deep : Int} {a : Nat} {s : List Int} (h : a < s.length) : shutS o c deep a (s.drop a) =
    if (if nth s a = o then deep + 1 else if nth s a = c then deep - 1 else deep) = 0 then some a else shutS o c (if nth s a = o then deep + 1 else if nth s a = c then deep - 1 else deep) (a + 1) (s.drop (a + 1)) := by
  rw [List.drop_eq_getElem_cons h, nth_eq h]
  rfl

set_option maxHeartbeats 4000000 in
theorem closing_any (S : Option Addr) (k d at_ : Nat) (o c z : Int) (s : List Int) (w : World) (hS : Runes w S k s) (hk : k ≤ 35184372088832) (ha : at_ ≤ k) (hoc : o ≠ c) (hz : z = placeN (shutS o c 0 at_ (s.drop at_))) :
    Calls Try.prog 66 #[.slice S k d, .int .i64 at_, .int .i32 o, .int .i32 c] w fun e w' => e = .returned (.int .i64 z) ∧ w = w' := by
  have HS := hide hS
  have HL := hide hS.len
  have HZ := hide hz
  have HOC := hide hoc
  clear hS hz hoc
  go_enter Try.func66, Try.ntmps66
  go_wp2_with fail
  go_loop [1, 9] (fun i n => ∃ (a : Nat) (dp : Int), a ≤ k ∧ i = .int .i64 a ∧ n = .int .i64 dp ∧ (-(a : Int) ≤ dp ∧ dp ≤ a) ∧ Hid (shutS o c dp a (s.drop a) = shutS o c 0 at_ (s.drop at_))) (fun i _ => k - (intOf i).toNat)
  case atStart => exact ⟨at_, 0, ha, rfl, rfl, by omega, rfl⟩
  case round =>
    obtain ⟨a, dp, hak, rfl, rfl, hdp, hst⟩ := hrel
    by_cases hlt : a < k
    · obtain ⟨ab, ao, rfl, hc⟩ := HS.out.at_ a hlt
      have HT := hide (shut_step (o := o) (c := c) (deep := dp) (a := a) (s := s) (by rw [HL.out]; exact hlt))
      generalize nth s a = x at hc HT
      have hw : (x = o ∧ x ≠ c) ∨ (x ≠ o ∧ x = c) ∨ (x ≠ o ∧ x ≠ c) := by have := HOC.out; omega
      obtain ⟨dn, hdn⟩ : ∃ dn, (if x = o then dp + 1 else if x = c then dp - 1 else dp) = dn := ⟨_, rfl⟩
      rw [hdn] at HT
      rcases hw with ⟨h1, h2⟩ | ⟨h1, h2⟩ | ⟨h1, h2⟩
      · have e1 : (x == o) = true := by simpa using h1
        have hd : dn = dp + 1 := by rw [← hdn, if_pos h1]
        rw [hd] at HT
        clear hdn hd h1 h2
        by_cases h0 : dp + 1 = 0
        · have HE := hide (show z = (a : Int) by rw [HZ.out, ← hst.out, HT.out, if_pos h0]; rfl)
          have e3 : (dp + 1 == 0) = true := by simpa using h0
          go_wp2_with fail
          go_ret
          exact ⟨retI HE.out.symm, rfl⟩
        · have HE := hide (HT.out.symm.trans hst.out)
          have HN := hide h0
          have e3 : (dp + 1 == 0) = false := by simpa using h0
          clear h0
          go_wp2_with fail
          go_round
          case rel => exact ⟨a + 1, dp + 1, by omega, by go_num, by first | rfl | go_num, by omega, by
            have h1 := HE.out
            rw [if_neg HN.out] at h1
            exact h1⟩
          case measure => simp [intOf]; omega
      · have e1 : (x == o) = false := by simpa using h1
        have e2 : (x == c) = true := by simpa using h2
        have hd : dn = dp - 1 := by rw [← hdn, if_neg h1, if_pos h2]
        rw [hd] at HT
        clear hdn hd h1 h2
        by_cases h0 : dp - 1 = 0
        · have HE := hide (show z = (a : Int) by rw [HZ.out, ← hst.out, HT.out, if_pos h0]; rfl)
          have e3 : (dp - 1 == 0) = true := by simpa using h0
          go_wp2_with fail
          go_ret
          exact ⟨retI HE.out.symm, rfl⟩
        · have HE := hide (HT.out.symm.trans hst.out)
          have HN := hide h0
          have e3 : (dp - 1 == 0) = false := by simpa using h0
          clear h0
          go_wp2_with fail
          go_round
          case rel => exact ⟨a + 1, dp - 1, by omega, by go_num, by first | rfl | go_num, by omega, by
            have h1 := HE.out
            rw [if_neg HN.out] at h1
            exact h1⟩
          case measure => simp [intOf]; omega
      · have e1 : (x == o) = false := by simpa using h1
        have e2 : (x == c) = false := by simpa using h2
        have hd : dn = dp := by rw [← hdn, if_neg h1, if_neg h2]
        rw [hd] at HT
        clear hdn hd h1 h2
        by_cases h0 : dp = 0
        · have HE := hide (show z = (a : Int) by rw [HZ.out, ← hst.out, HT.out, if_pos h0]; rfl)
          have e3 : (dp == 0) = true := by simpa using h0
          go_wp2_with fail
          go_ret
          exact ⟨retI HE.out.symm, rfl⟩
        · have HE := hide (HT.out.symm.trans hst.out)
          have HN := hide h0
          have e3 : (dp == 0) = false := by simpa using h0
          clear h0
          go_wp2_with fail
          go_round
          case rel => exact ⟨a + 1, dp, by omega, by go_num, by first | rfl | go_num, by omega, by
            have h1 := HE.out
            rw [if_neg HN.out] at h1
            exact h1⟩
          case measure => simp [intOf]; omega
    · obtain rfl : a = k := by omega
      have HE := hide (show z = -1 by rw [HZ.out, ← hst.out, List.drop_of_length_le (by rw [HL.out]; exact Nat.le_refl _)]; rfl)
      go_wp2_with fail
      go_ret
      exact ⟨retI HE.out.symm, rfl⟩

theorem open_step {s : List Int} {o c : Int} {n k : Nat} : openS s o c n (k + 1) = if nth s k = c then openS s o c (n + 1) k else if nth s k = o then (if n = 0 then some k else openS s o c (n - 1) k) else openS s o c n k := rfl

set_option maxHeartbeats 4000000 in
theorem opening_any (S : Option Addr) (k d at_ : Nat) (o c z : Int) (s : List Int) (w : World) (hS : Runes w S k s) (hk : k ≤ 35184372088832) (ha : at_ < k) (hoc : o ≠ c) (hz : z = placeN (if nth s at_ = o then some at_ else openS s o c 0 at_)) :
    Calls Try.prog 65 #[.slice S k d, .int .i64 at_, .int .i32 o, .int .i32 c] w fun e w' => e = .returned (.int .i64 z) ∧ w = w' := by
  have HS := hide hS
  have HZ := hide hz
  have HOC := hide hoc
  clear hS hz hoc
  obtain ⟨ab, ao, rfl, hc0⟩ := HS.out.at_ at_ ha
  have h0 : (0 : Int) ≤ (at_ : Int) := by omega
  have h0' : (at_ : Int) < (k : Int) := by omega
  by_cases hx : nth s at_ = o
  · have HE := hide (show z = (at_ : Int) by rw [HZ.out, if_pos hx]; rfl)
    rw [hx] at hc0
    clear hx
    go_enter Try.func65, Try.ntmps65
    go_wp2_with fail
    go_ret
    exact ⟨retI HE.out.symm, rfl⟩
  · have HE := hide (show z = placeN (openS s o c 0 at_) by rw [HZ.out, if_neg hx])
    have e0 : (nth s at_ == o) = false := by simpa using hx
    clear hx
    generalize nth s at_ = x0 at hc0 e0
    go_enter Try.func65, Try.ntmps65
    go_wp2_with fail
    clear e0 hc0
    go_loop [1, 9] (fun i n => ∃ j m : Nat, j ≤ at_ ∧ m ≤ k - j ∧ i = .int .i64 ((j : Int) - 1) ∧ n = .int .i64 m ∧ Hid (openS s o c m j = openS s o c 0 at_)) (fun i _ => (intOf i + 1).toNat)
    case atStart => exact ⟨at_, 0, Nat.le_refl _, Nat.zero_le _, by go_num, rfl, rfl⟩
    case round =>
      obtain ⟨j, m, hj, hm, rfl, rfl, hst⟩ := hrel
      rcases Nat.eq_zero_or_pos j with rfl | hpos
      · have HF := hide (show z = -1 by rw [HE.out, ← hst.out]; rfl)
        go_wp2_with fail
        go_ret
        exact ⟨retI HF.out.symm, rfl⟩
      · obtain ⟨b, rfl⟩ : ∃ b, j = b + 1 := ⟨j - 1, by omega⟩
        have e1 : (((b + 1 : Nat) : Int)) - 1 = (b : Int) := by omega
        rw [e1]
        clear e1
        obtain ⟨ab', ao', hE, hc⟩ := HS.out.at_ b (by omega)
        cases hE
        have hb0 : (0 : Int) ≤ (b : Int) := by omega
        have hb1 : (b : Int) < (k : Int) := by omega
        have HT := hide (open_step (s := s) (o := o) (c := c) (n := m) (k := b))
        generalize nth s b = x at hc HT
        have hw : x = c ∨ (x ≠ c ∧ x = o ∧ m = 0) ∨ (x ≠ c ∧ x = o ∧ m ≠ 0) ∨ (x ≠ c ∧ x ≠ o) := by omega
        rcases hw with h1 | ⟨h1, h2, h3⟩ | ⟨h1, h2, h3⟩ | ⟨h1, h2⟩
        · have e1 : (x == c) = true := by simpa using h1
          rw [if_pos h1] at HT
          clear h1
          go_wp2_with fail
          go_round
          case rel => exact ⟨b, m + 1, by omega, by omega, by go_num, by go_num, HT.out.symm.trans hst.out⟩
          case measure => simp [intOf]
        · have e1 : (x == c) = false := by simpa using h1
          have e2 : (x == o) = true := by simpa using h2
          have HF := hide (show z = (b : Int) by rw [HE.out, ← hst.out, HT.out, if_neg h1, if_pos h2, if_pos h3]; rfl)
          subst h3
          clear h1 h2
          go_wp2_with fail
          go_ret
          exact ⟨retI HF.out.symm, rfl⟩
        · have e1 : (x == c) = false := by simpa using h1
          have e2 : (x == o) = true := by simpa using h2
          have e3 : ((m : Int) == 0) = false := by simpa using h3
          rw [if_neg h1, if_pos h2, if_neg h3] at HT
          have hm1 : ((m - 1 : Nat) : Int) = (m : Int) - 1 := by omega
          have HM := hide hm1
          have hmp : 0 < m := by omega
          clear h1 h2 h3 hm1
          go_wp2_with fail
          go_round
          case rel => exact ⟨b, m - 1, by omega, by omega, by go_num, by rw [HM.out], HT.out.symm.trans hst.out⟩
          case measure => simp [intOf]
        · have e1 : (x == c) = false := by simpa using h1
          have e2 : (x == o) = false := by simpa using h2
          rw [if_neg h1, if_neg h2] at HT
          clear h1 h2
          go_wp2_with fail
          go_round
          case rel => exact ⟨b, m, by omega, by omega, by go_num, rfl, HT.out.symm.trans hst.out⟩
          case measure => simp [intOf]
end Go.Proofs.Ytkfihnkghiajiaa
