/- Plain laws of trees that a law makes: a chain of groups, one below the other; groups that all stand below the root. -/
import Derived.Test.YtjhnenljmmeflaaUndoK
namespace Go.Proofs.Ytjhnenljmmeflaa
open Go.RowKit
set_option linter.unusedVariables false

/-- What stands where behind an Add. -/
theorem addG_put {gs : List Grp} {now : Nat} {l : List Chg} {before : Int} {x : Grp} (h : gs[now]? = some x) (j : Nat) : (addG gs now l before)[j]? = if j = gs.length then some ⟨l, before, now, [], 0⟩ else if j = now then some (kidded x gs.length) else gs[j]? := by
  have hn := (List.getElem?_eq_some_iff.1 h).1
  rw [addG_at h]
  by_cases h1 : j = gs.length
  · rw [if_pos h1, List.getElem?_append_right (by simp; omega)]
    simp [h1]
  · rw [if_neg h1]
    by_cases h2 : j < gs.length
    · rw [List.getElem?_append_left (by simpa using h2)]
      by_cases h3 : j = now
      · rw [if_pos h3, h3, List.getElem?_set_self hn]
      · rw [if_neg h3, List.getElem?_set_ne (fun e => h3 e.symm)]
    · rw [if_neg (by omega), List.getElem?_append_right (by simp; omega), List.getElem?_eq_none (by simp; omega), List.getElem?_eq_none (by omega)]

/-- Groups one below the other; f tells the changes of each. -/
def chainG (f : Nat → List Chg) : Nat → List Grp
  | 0 => [root0]
  | i + 1 => addG (chainG f i) i (f i) (i : Int)
theorem chain_get (f : Nat → List Chg) : ∀ i, (chainG f i).length = i + 1 ∧ (∀ j, j ≤ i → ∃ x, (chainG f i)[j]? = some x ∧ x.above = j - 1 ∧ (0 < j → x.l = f (j - 1) ∧ x.before = ((j - 1 : Nat) : Int)) ∧ (x.kids = if j = i then [] else [j + 1]) ∧ x.picked = 0)
  | 0 => ⟨rfl, fun j hj => by
    obtain rfl : j = 0 := by omega
    exact ⟨root0, rfl, rfl, fun h => by omega, rfl, rfl⟩⟩
  | i + 1 => by
    obtain ⟨h1, h2⟩ := chain_get f i
    obtain ⟨x, hx, hx1, hx2, hx3, hx4⟩ := h2 i (Nat.le_refl _)
    rw [if_pos rfl] at hx3
    refine ⟨?_, fun j hj => ?_⟩
    · show (addG _ _ _ _).length = _
      rw [addG_len hx, h1]
    · show ∃ x, (addG _ _ _ _)[j]? = some x ∧ _
      rw [addG_put hx, h1]
      by_cases e1 : j = i + 1
      · rw [if_pos e1]
        subst e1
        exact ⟨_, rfl, by simp, fun _ => ⟨by simp, by simp⟩, by simp, rfl⟩
      · rw [if_neg e1]
        by_cases e2 : j = i
        · rw [if_pos e2]
          subst e2
          refine ⟨_, rfl, hx1, hx2, ?_, ?_⟩
          · rw [if_neg (by omega)]
            simp [kidded, hx3]
          · simp [kidded, hx3]
        · rw [if_neg e2]
          obtain ⟨y, hy, hy1, hy2, hy3, hy4⟩ := h2 j (by omega)
          exact ⟨y, hy, hy1, hy2, by rw [hy3, if_neg e2, if_neg e1], hy4⟩
theorem chain_undos (f : Nat → List Chg) {i : Nat} {now : Nat} (h : WF (chainG f i) now) : ∀ j, j ≤ i → undosG (chainG f i) j = j
  | 0, _ => rfl
  | j + 1, hj => by
    obtain ⟨x, hx, hx1, _⟩ := (chain_get f i).2 (j + 1) hj
    rw [undosG_up h (by omega) hx, hx1]
    show undosG _ j + 1 = j + 1
    rw [chain_undos f h j (by omega)]

/-- Groups that all stand below the root. -/
def starG (f : Nat → List Chg) : Nat → List Grp
  | 0 => [root0]
  | i + 1 => addG (starG f i) 0 (f i) (100 + (i : Int))
theorem star_get (f : Nat → List Chg) : ∀ i, (starG f i).length = i + 1 ∧ (∃ x, (starG f i)[0]? = some x ∧ x.kids = (List.range i).map (· + 1) ∧ x.picked = i - 1) ∧ (∀ j, j < i → (starG f i)[j + 1]? = some ⟨f j, 100 + (j : Int), 0, [], 0⟩)
  | 0 => ⟨rfl, ⟨root0, rfl, rfl, rfl⟩, fun j hj => by omega⟩
  | i + 1 => by
    obtain ⟨h1, ⟨x, hx, hx1, hx2⟩, h3⟩ := star_get f i
    refine ⟨?_, ?_, fun j hj => ?_⟩
    · show (addG _ _ _ _).length = _
      rw [addG_len hx, h1]
    · show ∃ x, (addG _ _ _ _)[0]? = some x ∧ _
      rw [addG_put hx, h1, if_neg (by omega), if_pos rfl]
      refine ⟨_, rfl, ?_, ?_⟩
      · simp [kidded, hx1, List.range_succ]
      · simp [kidded, hx1]
    · show (addG _ _ _ _)[j + 1]? = _
      rw [addG_put hx, h1]
      by_cases e : j = i
      · rw [if_pos (by omega), e]
      · rw [if_neg (by omega), if_neg (by omega)]
        exact h3 j (by omega)
end Go.Proofs.Ytjhnenljmmeflaa
