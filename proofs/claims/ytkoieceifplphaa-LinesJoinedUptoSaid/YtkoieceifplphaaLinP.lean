/- Plain words and laws of layer 4: lines and columns. No program in sight. -/
import Derived.Test.YtkoieceifplphaaMem
namespace Go.Proofs.Ytkoieceifplphaa
open Go.RowKit
set_option linter.unusedVariables false

/-- How many elements stand ahead of the first 10. -/
def eolS : List Int → Nat
  | [] => 0
  | x :: l => if x = 10 then 0 else eolS l + 1
def cntL (l : List Int) : Nat := (l.filter (fun x => decide (x = 10))).length
/-- Where the line begins that is k lines behind the one that begins at a place. -/
def startF (s : List Int) (a : Nat) : Nat → Option Nat
  | 0 => some a
  | k + 1 => if a + eolS (s.drop a) < s.length then startF s (a + eolS (s.drop a) + 1) k else none
def startS (s : List Int) (line : Int) : Option Nat := if line < 0 then none else startF s 0 line.toNat
def widS (s : List Int) (a : Nat) : Nat := eolS (s.drop a)
def colS (l : List Int) : Nat := l.foldl (fun c x => if x = 10 then 0 else c + 1) 0
/-- How many blanks stand ahead, at most so many. -/
def blankN (p : Int → Bool) : Nat → List Int → Nat
  | 0, _ => 0
  | _ + 1, [] => 0
  | m + 1, x :: l => if p x then blankN p m l + 1 else 0

theorem eolS_le : ∀ l : List Int, eolS l ≤ l.length
  | [] => Nat.le_refl _
  | x :: l => by
    rw [eolS]
    have := eolS_le l
    split <;> simp <;> omega
theorem eolS_no : ∀ {l : List Int} {j : Nat}, j < eolS l → nth l j ≠ 10
  | [], j, h => by simp [eolS] at h
  | x :: l, 0, h => by
    rw [eolS] at h
    split at h
    · omega
    · assumption
  | x :: l, j + 1, h => by
    rw [eolS] at h
    split at h
    · omega
    · exact eolS_no (l := l) (j := j) (by omega)
theorem eolS_at : ∀ {l : List Int}, eolS l < l.length → nth l (eolS l) = 10
  | [], h => by simp [eolS] at h
  | x :: l, h => by
    rw [eolS] at h ⊢
    split
    · rename_i e
      rw [if_pos e] at h
      show x = 10
      exact e
    · rename_i e
      rw [if_neg e, List.length_cons] at h
      exact eolS_at (l := l) (by omega)
theorem eolS_eq {l : List Int} {k : Nat} (h : ∀ j, j < k → nth l j ≠ 10) (hk : k ≤ l.length) (he : k = l.length ∨ nth l k = 10) : eolS l = k := by
  rcases Nat.lt_trichotomy (eolS l) k with h1 | h1 | h1
  · exact absurd (eolS_at (by omega)) (h _ h1)
  · exact h1
  · rcases he with he | he
    · have := eolS_le l; omega
    · exact absurd he (eolS_no h1)
theorem startF_snoc (s : List Int) : ∀ (k a : Nat), startF s a (k + 1) = (startF s a k).bind fun b => if b + eolS (s.drop b) < s.length then some (b + eolS (s.drop b) + 1) else none
  | 0, a => by simp [startF]
  | k + 1, a => by
    rw [startF]
    conv => rhs; rw [startF]
    split
    · exact startF_snoc s k _
    · rfl
theorem startF_le (s : List Int) : ∀ (k a b : Nat), a ≤ s.length → startF s a k = some b → a ≤ b ∧ b ≤ s.length
  | 0, a, b, h, e => by
    rw [startF] at e
    injection e with e
    omega
  | k + 1, a, b, h, e => by
    rw [startF] at e
    split at e
    · have := startF_le s k _ b (by omega) e
      omega
    · cases e
theorem cntL_snoc (l : List Int) (x : Int) : cntL (l ++ [x]) = cntL l + (if x = 10 then 1 else 0) := by
  unfold cntL
  rw [List.filter_append, List.length_append]
  by_cases h : x = 10 <;> simp [h]
theorem cntL_app (a b : List Int) : cntL (a ++ b) = cntL a + cntL b := by
  unfold cntL
  rw [List.filter_append, List.length_append]
theorem colS_snoc (l : List Int) (x : Int) : colS (l ++ [x]) = if x = 10 then 0 else colS l + 1 := by
  unfold colS
  rw [List.foldl_append]
  rfl
/-- A place, its line and its column. -/
theorem place_law (s : List Int) : ∀ a, a ≤ s.length → ∃ b, startF s 0 (cntL (s.take a)) = some b ∧ b + colS (s.take a) = a ∧ ∀ j, b ≤ j → j < a → nth s j ≠ 10
  | 0, _ => ⟨0, rfl, rfl, fun j _ h => absurd h (by omega)⟩
  | a + 1, h => by
    obtain ⟨b, h1, h2, h3⟩ := place_law s a (by omega)
    rw [take_snoc (by omega), cntL_snoc, colS_snoc]
    by_cases hx : nth s a = 10
    · rw [if_pos hx, if_pos hx, startF_snoc, h1]
      have he : eolS (s.drop b) = a - b := eolS_eq (fun j hj => by rw [nth_drop]; exact h3 _ (by omega) (by omega)) (by rw [List.length_drop]; omega) (.inr (by rw [nth_drop, show b + (a - b) = a by omega]; exact hx))
      refine ⟨a + 1, ?_, rfl, fun j h4 h5 => absurd h4 (by omega)⟩
      show (if b + eolS (s.drop b) < s.length then some (b + eolS (s.drop b) + 1) else none) = some (a + 1)
      rw [he, if_pos (by omega), show b + (a - b) + 1 = a + 1 by omega]
    · rw [if_neg hx, if_neg hx]
      exact ⟨b, h1, by omega, fun j h4 h5 => by
        by_cases h6 : j = a
        · rw [h6]; exact hx
        · exact h3 j h4 (by omega)⟩
/-- Lines, one behind the other. -/
theorem start_next {s : List Int} {k a : Nat} (h : startF s 0 k = some a) : startF s 0 (k + 1) = if a + widS s a < s.length then some (a + widS s a + 1) else none := by
  rw [startF_snoc, h]
  rfl
theorem start_ok (s : List Int) : ∀ k, k ≤ cntL s → ∃ a, startF s 0 k = some a ∧ a ≤ s.length ∧ cntL (s.take a) = k := by
  have key : ∀ (k a : Nat), startF s 0 k = some a → a ≤ s.length → cntL (s.take a) = k → cntL (s.take (a + widS s a)) = k := by
    intro k a h1 h2 h3
    have hw := eolS_le (s.drop a)
    rw [List.length_drop] at hw
    suffices ∀ m, m ≤ widS s a → cntL (s.take (a + m)) = k from this _ (Nat.le_refl _)
    intro m
    induction m with
    | zero => intro _; exact h3
    | succ m ih =>
      intro hm
      have hno := eolS_no (l := s.drop a) (j := m) (by unfold widS at hm; omega)
      rw [nth_drop] at hno
      rw [← Nat.add_assoc, take_snoc (by unfold widS at hm; omega), cntL_snoc, if_neg hno]
      exact ih (by omega)
  intro k
  induction k with
  | zero => intro _; exact ⟨0, rfl, Nat.zero_le _, rfl⟩
  | succ k ih =>
    intro hk
    obtain ⟨a, h1, h2, h3⟩ := ih (by omega)
    have h4 := key k a h1 h2 h3
    have hw := eolS_le (s.drop a)
    rw [List.length_drop] at hw
    have hlt : a + widS s a < s.length := by
      by_cases h : a + widS s a < s.length
      · exact h
      · exfalso
        rw [List.take_of_length_le (by omega)] at h4
        omega
    refine ⟨a + widS s a + 1, by rw [start_next h1, if_pos hlt], by omega, ?_⟩
    have hat := eolS_at (l := s.drop a) (by rw [List.length_drop]; unfold widS at hlt; omega)
    rw [nth_drop] at hat
    rw [take_snoc hlt, cntL_snoc, h4, show nth s (a + widS s a) = 10 from hat, if_pos rfl]
theorem start_last {s : List Int} {a : Nat} (h : startF s 0 (cntL s) = some a) : a + widS s a = s.length := by
  by_cases hlt : a + widS s a < s.length
  · exfalso
    obtain ⟨b, h1, h2, h3⟩ := start_ok s (cntL s) (Nat.le_refl _)
    rw [h] at h1
    injection h1 with h1
    subst h1
    have hat := eolS_at (l := s.drop a) (by rw [List.length_drop]; unfold widS at hlt; omega)
    rw [nth_drop] at hat
    have e : s = s.take (a + widS s a) ++ ([nth s (a + widS s a)] ++ s.drop (a + widS s a + 1)) := by
      rw [← List.append_assoc, ← take_snoc hlt, List.take_append_drop]
    have h4 : cntL s = cntL (s.take (a + widS s a)) + (1 + cntL (s.drop (a + widS s a + 1))) := by
      conv => lhs; rw [e]
      rw [cntL_app, cntL_app, show nth s (a + widS s a) = 10 from hat]
      rfl
    have h5 : cntL (s.take a) ≤ cntL (s.take (a + widS s a)) := by
      have : s.take (a + widS s a) = s.take a ++ (s.drop a).take (widS s a) := by rw [List.take_add]
      rw [this, cntL_app]
      omega
    omega
  · have h1 := (startF_le s _ 0 a (Nat.zero_le _) h).2
    have hw := eolS_le (s.drop a)
    rw [List.length_drop] at hw
    unfold widS at *
    omega
end Go.Proofs.Ytkoieceifplphaa
