/- The least change leads from one text to the other, fits, and has parted ends: plain facts. -/
import Derived.Test.YtjhnenljmmeflaaLeastL
import Derived.Test.YtjhnenljmmeflaaApply
namespace Go.Proofs.Ytjhnenljmmeflaa
set_option linter.unusedVariables false

theorem lcp_pre : ∀ (s t : List Int) (j : Nat), j < lcp s t → nth s j = nth t j
  | [], t, j, h => by simp [lcp] at h
  | x :: s, [], j, h => by simp [lcp] at h
  | x :: s, y :: t, j, h => by
    simp only [lcp] at h
    by_cases e : x = y
    · rw [if_pos e] at h
      cases j with
      | zero => rw [nth_zero, nth_zero, e]
      | succ j => rw [nth_succ, nth_succ]; exact lcp_pre s t j (by omega)
    · rw [if_neg e] at h
      omega
theorem lcp_end : ∀ (s t : List Int), lcp s t = s.length ∨ lcp s t = t.length ∨ nth s (lcp s t) ≠ nth t (lcp s t)
  | [], t => by simp [lcp]
  | x :: s, [] => by simp [lcp]
  | x :: s, y :: t => by
    by_cases e : x = y
    · simp only [lcp, if_pos e, List.length_cons, nth_succ]
      rcases lcp_end s t with h | h | h
      · exact .inl (by omega)
      · exact .inr (.inl (by omega))
      · exact .inr (.inr h)
    · simp only [lcp, if_neg e, nth_zero]
      exact .inr (.inr e)
theorem take_lcp : ∀ (s t : List Int), s.take (lcp s t) = t.take (lcp s t)
  | [], t => by simp [lcp]
  | x :: s, [] => by simp [lcp]
  | x :: s, y :: t => by
    by_cases e : x = y
    · simp only [lcp, if_pos e, List.take_succ_cons]
      rw [take_lcp s t, e]
    · simp [lcp, if_neg e]

theorem leastCut_len (s t : List Int) : (leastCut s t).length = s.length - leastA s t - leastJ s t := by
  unfold leastCut
  rw [List.length_take, List.length_drop]
  omega
theorem leastPut_len (s t : List Int) : (leastPut s t).length = t.length - leastA s t - leastJ s t := by
  unfold leastPut
  rw [List.length_take, List.length_drop]
  omega

theorem tails_alike (s t : List Int) : s.drop (s.length - leastJ s t) = t.drop (t.length - leastJ s t) := by
  have h := take_lcp ((s.drop (leastA s t)).reverse) ((t.drop (leastA s t)).reverse)
  have hj := leastJ_le s t
  have e : lcp ((s.drop (leastA s t)).reverse) ((t.drop (leastA s t)).reverse) = leastJ s t := rfl
  rw [e, List.take_reverse, List.take_reverse] at h
  have h2 := congrArg List.reverse h
  rw [List.reverse_reverse, List.reverse_reverse, List.drop_drop, List.drop_drop, List.length_drop, List.length_drop] at h2
  rwa [show leastA s t + (s.length - leastA s t - leastJ s t) = s.length - leastJ s t by omega, show leastA s t + (t.length - leastA s t - leastJ s t) = t.length - leastJ s t by omega] at h2

theorem least_apply (s t : List Int) : applyS s (leastA s t) (leastCut s t) (leastPut s t) = t := by
  have hj := leastJ_le s t
  unfold applyS
  rw [Int.toNat_natCast, leastCut_len, show leastA s t + (s.length - leastA s t - leastJ s t) = s.length - leastJ s t by omega, tails_alike]
  have h1 : s.take (leastA s t) = t.take (leastA s t) := take_lcp s t
  rw [h1]
  unfold leastPut
  have h2 : t.drop (t.length - leastJ s t) = (t.drop (leastA s t)).drop (t.length - leastA s t - leastJ s t) := by
    rw [List.drop_drop]
    congr 1
    omega
  rw [h2, List.append_assoc, List.take_append_drop, List.take_append_drop]

theorem mayS_sub {l r : List Int} (h : mayS l = true) (hs : ∀ x ∈ r, x ∈ l) : mayS r = true := by
  unfold mayS at h ⊢
  rw [List.all_eq_true] at h ⊢
  exact fun x hx => h x (hs x hx)

theorem least_fit {s t : List Int} (hs : mayS s = true) (ht : mayS t = true) (h1 : s.length ≤ 1000) (h2 : t.length ≤ 1000) : mayC s (leastA s t) (leastCut s t) (leastPut s t) = true := by
  have hj := leastJ_le s t
  unfold mayC fitC
  rw [leastPut_len, leastCut_len, decide_eq_true (by omega), Int.toNat_natCast]
  have e1 : mayS (leastCut s t) = true := mayS_sub hs fun x hx => List.mem_of_mem_drop (List.mem_of_mem_take hx)
  have e2 : mayS (leastPut s t) = true := mayS_sub ht fun x hx => List.mem_of_mem_drop (List.mem_of_mem_take hx)
  rw [e1, e2]
  simp [sameS, leastCut]

theorem least_applies {s t : List Int} (hs : mayS s = true) (ht : mayS t = true) (h1 : s.length ≤ 1000) (h2 : t.length ≤ 1000) : appS s (leastA s t) (leastCut s t) (leastPut s t) = t ∧ appE s (leastA s t) (leastCut s t) (leastPut s t) = 0 := by
  unfold appS appE
  rw [least_fit hs ht h1 h2]
  exact ⟨least_apply s t, rfl⟩

theorem least_ends {s t : List Int} (h1 : 0 < (leastCut s t).length) (h2 : 0 < (leastPut s t).length) :
    nth (leastCut s t) 0 ≠ nth (leastPut s t) 0 ∧ nth (leastCut s t) ((leastCut s t).length - 1) ≠ nth (leastPut s t) ((leastPut s t).length - 1) := by
  have hj := leastJ_le s t
  rw [leastCut_len] at h1 ⊢
  rw [leastPut_len] at h2 ⊢
  have hA : lcp s t = leastA s t := rfl
  constructor
  · have h := lcp_end s t
    rw [hA] at h
    unfold leastCut leastPut
    rw [nth_take h1, nth_take h2, nth_drop, nth_drop, Nat.add_zero]
    rcases h with h | h | h
    · omega
    · omega
    · exact h
  · have h := lcp_end ((s.drop (leastA s t)).reverse) ((t.drop (leastA s t)).reverse)
    have e : lcp ((s.drop (leastA s t)).reverse) ((t.drop (leastA s t)).reverse) = leastJ s t := rfl
    rw [e, List.length_reverse, List.length_reverse, List.length_drop, List.length_drop] at h
    unfold leastCut leastPut
    rw [nth_take (by omega), nth_take (by omega)]
    rcases h with h | h | h
    · omega
    · omega
    · rw [nth_rev (by rw [List.length_drop]; omega), nth_rev (by rw [List.length_drop]; omega), List.length_drop, List.length_drop] at h
      rwa [show s.length - leastA s t - 1 - leastJ s t = s.length - leastA s t - leastJ s t - 1 by omega, show t.length - leastA s t - 1 - leastJ s t = t.length - leastA s t - leastJ s t - 1 by omega] at h
end Go.Proofs.Ytjhnenljmmeflaa
