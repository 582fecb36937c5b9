/- The least change between two lists: plain facts. -/
import Derived.Test.YtjhnenljmmeflaaMem
namespace Go.Proofs.Ytjhnenljmmeflaa
set_option linter.unusedVariables false

/-- How many elements two lists begin with alike. -/
def lcp : List Int → List Int → Nat
  | x :: s, y :: t => if x = y then lcp s t + 1 else 0
  | _, _ => 0
theorem nth_zero (x : Int) (s : List Int) : nth (x :: s) 0 = x := rfl
theorem nth_succ (x : Int) (s : List Int) (j : Nat) : nth (x :: s) (j + 1) = nth s j := by simp [nth]
theorem lcp_le : ∀ (s t : List Int), lcp s t ≤ s.length ∧ lcp s t ≤ t.length
  | [], t => by simp [lcp]
  | x :: s, [] => by simp [lcp]
  | x :: s, y :: t => by
    have := lcp_le s t
    simp only [lcp]
    split <;> simp <;> omega
theorem lcp_eq : ∀ (s t : List Int) (k : Nat), k ≤ s.length → k ≤ t.length → (∀ j, j < k → nth s j = nth t j) → (k = s.length ∨ k = t.length ∨ nth s k ≠ nth t k) → lcp s t = k
  | [], t, k, h1, _, _, _ => by simp at h1; simp [lcp, h1]
  | x :: s, [], k, _, h2, _, _ => by simp at h2; simp [lcp, h2]
  | x :: s, y :: t, 0, _, _, _, h4 => by
    simp only [lcp]
    rcases h4 with h | h | h
    · simp at h
    · simp at h
    · rw [nth_zero, nth_zero] at h
      rw [if_neg h]
  | x :: s, y :: t, k + 1, h1, h2, h3, h4 => by
    have hx : x = y := by have := h3 0 (by omega); rwa [nth_zero, nth_zero] at this
    simp only [lcp]
    rw [if_pos hx, lcp_eq s t k (by simpa using h1) (by simpa using h2) (fun j hj => by have := h3 (j + 1) (by omega); rwa [nth_succ, nth_succ] at this) (by
      rcases h4 with h | h | h
      · exact .inl (by simpa using h)
      · exact .inr (.inl (by simpa using h))
      · rw [nth_succ, nth_succ] at h
        exact .inr (.inr h))]
theorem nth_rev {l : List Int} {j : Nat} (h : j < l.length) : nth l.reverse j = nth l (l.length - 1 - j) := by
  rw [nth_eq (by simpa using h), nth_eq (by omega), List.getElem_reverse]

def leastA (s t : List Int) : Nat := lcp s t
def leastJ (s t : List Int) : Nat := lcp ((s.drop (leastA s t)).reverse) ((t.drop (leastA s t)).reverse)
def leastCut (s t : List Int) : List Int := (s.drop (leastA s t)).take (s.length - leastA s t - leastJ s t)
def leastPut (s t : List Int) : List Int := (t.drop (leastA s t)).take (t.length - leastA s t - leastJ s t)
theorem leastA_le (s t : List Int) : leastA s t ≤ s.length ∧ leastA s t ≤ t.length := lcp_le s t
theorem leastJ_le (s t : List Int) : leastA s t + leastJ s t ≤ s.length ∧ leastA s t + leastJ s t ≤ t.length := by
  have h1 := leastA_le s t
  have h2 := lcp_le ((s.drop (leastA s t)).reverse) ((t.drop (leastA s t)).reverse)
  simp only [List.length_reverse, List.length_drop] at h2
  unfold leastJ
  omega
theorem leastA_eq {s t : List Int} {k : Nat} (h1 : k ≤ s.length) (h2 : k ≤ t.length) (h3 : ∀ j, j < k → nth s j = nth t j) (h4 : k = s.length ∨ k = t.length ∨ nth s k ≠ nth t k) : leastA s t = k := lcp_eq s t k h1 h2 h3 h4
/-- j elements at the ends are alike; no more. -/
theorem leastJ_eq {s t : List Int} {j : Nat} (h1 : leastA s t + j ≤ s.length) (h2 : leastA s t + j ≤ t.length) (h3 : ∀ i, i < j → nth s (s.length - 1 - i) = nth t (t.length - 1 - i))
    (h4 : leastA s t + j = s.length ∨ leastA s t + j = t.length ∨ nth s (s.length - 1 - j) ≠ nth t (t.length - 1 - j)) : leastJ s t = j := by
  unfold leastJ
  have key : ∀ (l : List Int) (i : Nat), leastA s t + i < l.length → nth ((l.drop (leastA s t)).reverse) i = nth l (l.length - 1 - i) := fun l i hi => by
    rw [nth_rev (by rw [List.length_drop]; omega), nth_drop, List.length_drop]
    congr 1
    omega
  refine lcp_eq _ _ j (by simp; omega) (by simp; omega) (fun i hi => ?_) ?_
  · rw [key s i (by omega), key t i (by omega)]
    exact h3 i hi
  · rcases h4 with h | h | h
    · exact .inl (by simp; omega)
    · exact .inr (.inl (by simp; omega))
    · by_cases e1 : leastA s t + j = s.length
      · exact .inl (by simp; omega)
      · by_cases e2 : leastA s t + j = t.length
        · exact .inr (.inl (by simp; omega))
        · refine .inr (.inr ?_)
          rw [key s j (by omega), key t j (by omega)]
          exact h
end Go.Proofs.Ytjhnenljmmeflaa
