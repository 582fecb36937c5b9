/- Plain words and laws of layer 25: objects around a place. No program in sight. -/
import Derived.Test.YtkfihnkghiajiaaSgnP
import Derived.Test.YtkfihnkghiajiaaLinP
namespace Go.Proofs.Ytkfihnkghiajiaa
open Go.RowKit
set_option linter.unusedVariables false

/-- An element's kind for an object: blanks 1, line ends 2, words 3, all others 4. -/
def kdS (r : Int) : Nat := if clsS r = 1 then 1 else if clsS r = 2 then 2 else if clsS r = 3 then 3 else 4
/-- signs.sort's number and standishref21.third's. -/
def sortS (r : Int) : Int := if clsS r = 2 then 0 else if clsS r = 1 then 1 else if clsS r = 3 then 2 else 3
def thirdS (r : Int) : Int := if clsS r = 1 then 0 else if clsS r = 3 then 1 else if clsS r = 2 then 2 else 3
theorem sort_kd (r q : Int) : sortS r = sortS q ↔ kdS r = kdS q := by
  have h1 := cls_bd r
  have h2 := cls_bd q
  unfold sortS kdS
  repeat' split
  all_goals first | omega | simp
theorem third_kd (r q : Int) : thirdS r = thirdS q ↔ kdS r = kdS q := by
  have h1 := cls_bd r
  have h2 := cls_bd q
  unfold thirdS kdS
  repeat' split
  all_goals first | omega | simp
theorem sort_line (r : Int) : sortS r = 0 ↔ kdS r = 2 := by
  unfold sortS kdS
  repeat' split
  all_goals first | omega | simp
theorem third_line (r : Int) : thirdS r = 2 ↔ kdS r = 2 := by
  unfold thirdS kdS
  repeat' split
  all_goals first | omega | simp
theorem sort_blank (r : Int) : sortS r = 1 ↔ kdS r = 1 := by
  unfold sortS kdS
  repeat' split
  all_goals first | omega | simp
theorem third_blank (r : Int) : thirdS r = 0 ↔ kdS r = 1 := by
  unfold thirdS kdS
  repeat' split
  all_goals first | omega | simp

/-- How many elements right ahead of a place are of a sort. -/
def backN (p : Int → Bool) (l : List Int) : Nat → Nat
  | 0 => 0
  | k + 1 => if p (nth l k) then backN p l k + 1 else 0
/-- How many elements at a text's beginning are of a sort. -/
def fwdN (p : Int → Bool) : List Int → Nat
  | [] => 0
  | x :: l => if p x then fwdN p l + 1 else 0
theorem backN_le (p : Int → Bool) (l : List Int) : ∀ k, backN p l k ≤ k
  | 0 => Nat.le_refl _
  | k + 1 => by
    rw [backN]
    have := backN_le p l k
    split <;> omega
theorem fwdN_le (p : Int → Bool) : ∀ l : List Int, fwdN p l ≤ l.length
  | [] => Nat.le_refl _
  | x :: l => by
    rw [fwdN, List.length_cons]
    have := fwdN_le p l
    split <;> omega
theorem fwdN_drop {p : Int → Bool} {l : List Int} {k : Nat} (h : k < l.length) : fwdN p (l.drop k) = if p (nth l k) then fwdN p (l.drop (k + 1)) + 1 else 0 := by
  rw [List.drop_eq_getElem_cons h, nth_eq h]
  rfl
theorem fwdN_end {p : Int → Bool} {l : List Int} {k : Nat} (h : l.length ≤ k) : fwdN p (l.drop k) = 0 := by
  rw [List.drop_of_length_le h]
  rfl
/-- What stands in the run ahead, and what stands ahead of it. -/
theorem backN_in {p : Int → Bool} {l : List Int} : ∀ {k j : Nat}, k - backN p l k ≤ j → j < k → p (nth l j) = true
  | 0, j, _, h => absurd h (by omega)
  | k + 1, j, h1, h2 => by
    rw [backN] at h1
    split at h1
    · rename_i hp
      by_cases hj : j = k
      · rw [hj]; exact hp
      · exact backN_in (k := k) (by omega) (by omega)
    · omega
theorem backN_out {p : Int → Bool} {l : List Int} : ∀ {k : Nat}, backN p l k < k → p (nth l (k - backN p l k - 1)) = false
  | 0, h => absurd h (by omega)
  | k + 1, h => by
    rw [backN] at h ⊢
    split
    · rename_i hp
      rw [if_pos hp] at h
      have := backN_out (p := p) (l := l) (k := k) (by omega)
      rwa [show k + 1 - (backN p l k + 1) - 1 = k - backN p l k - 1 by omega]
    · rename_i hp
      rw [show k + 1 - 0 - 1 = k by omega]
      simpa using hp
theorem fwdN_in {p : Int → Bool} : ∀ {l : List Int} {j : Nat}, j < fwdN p l → p (nth l j) = true
  | [], j, h => by simp [fwdN] at h
  | x :: l, j, h => by
    rw [fwdN] at h
    split at h
    · rename_i hp
      cases j with
      | zero => exact hp
      | succ j => exact fwdN_in (l := l) (j := j) (by omega)
    · omega
theorem fwdN_out {p : Int → Bool} : ∀ {l : List Int}, fwdN p l < l.length → p (nth l (fwdN p l)) = false
  | [], h => by simp [fwdN] at h
  | x :: l, h => by
    rw [fwdN] at h ⊢
    split
    · rename_i hp
      rw [if_pos hp, List.length_cons] at h
      exact fwdN_out (l := l) (by omega)
    · rename_i hp
      show p x = false
      simpa using hp

/-- The span of elements of one kind around a place. -/
def sameK (s : List Int) (at_ : Nat) : Int → Bool := fun x => decide (kdS x = kdS (nth s at_))
def blankK : Int → Bool := fun x => decide (kdS x = 1)
def wFrom (s : List Int) (at_ : Nat) : Nat := at_ - backN (sameK s at_) s at_
def wTo (s : List Int) (at_ : Nat) : Nat := at_ + fwdN (sameK s at_) (s.drop at_)
/-- ObjWord: none at a line's end. -/
def wordS (s : List Int) (at_ : Nat) (around : Bool) : Option (Nat × Nat) :=
  if kdS (nth s at_) = 2 then none
  else if !around then some (wFrom s at_, wTo s at_)
  else if fwdN blankK (s.drop (wTo s at_)) ≠ 0 then some (wFrom s at_, wTo s at_ + fwdN blankK (s.drop (wTo s at_)))
  else some (wFrom s at_ - backN blankK s (wFrom s at_), wTo s at_)
theorem wTo_gt {s : List Int} {at_ : Nat} (h : at_ < s.length) : at_ < wTo s at_ ∧ wTo s at_ ≤ s.length := by
  have h1 := fwdN_le (sameK s at_) (s.drop at_)
  have h2 := fwdN_drop (p := sameK s at_) h
  rw [List.length_drop] at h1
  have : sameK s at_ (nth s at_) = true := by simp [sameK]
  rw [this, if_pos rfl] at h2
  unfold wTo
  omega
theorem wFrom_le (s : List Int) (at_ : Nat) : wFrom s at_ ≤ at_ := Nat.sub_le _ _
/-- All places of a word have its kind. -/
theorem word_in {s : List Int} {at_ j : Nat} (h1 : wFrom s at_ ≤ j) (h2 : j < wTo s at_) : kdS (nth s j) = kdS (nth s at_) := by
  by_cases hj : j < at_
  · have := backN_in (p := sameK s at_) (l := s) (k := at_) (j := j) h1 hj
    simpa [sameK] using this
  · have := fwdN_in (p := sameK s at_) (l := s.drop at_) (j := j - at_) (by unfold wTo at h2; omega)
    rw [nth_drop, show at_ + (j - at_) = j by omega] at this
    simpa [sameK] using this
theorem word_ahead {s : List Int} {at_ : Nat} (h : 0 < wFrom s at_) : kdS (nth s (wFrom s at_ - 1)) ≠ kdS (nth s at_) := by
  have := backN_out (p := sameK s at_) (l := s) (k := at_) (by unfold wFrom at h; omega)
  unfold wFrom
  simpa [sameK] using this
theorem word_behind {s : List Int} {at_ : Nat} (h : wTo s at_ < s.length) (ha : at_ < s.length) : kdS (nth s (wTo s at_)) ≠ kdS (nth s at_) := by
  have := fwdN_out (p := sameK s at_) (l := s.drop at_) (by rw [List.length_drop]; unfold wTo at h; omega)
  rw [nth_drop] at this
  unfold wTo
  simpa [sameK] using this

/-- The bracket that is open at a place: going back, so many to be passed. -/
def openS (s : List Int) (o c : Int) (deep : Nat) : Nat → Option Nat
  | 0 => none
  | k + 1 => if nth s k = c then openS s o c (deep + 1) k else if nth s k = o then (if deep = 0 then some k else openS s o c (deep - 1) k) else openS s o c deep k
/-- The bracket that closes: going on, so many open; the text from the place on, the place. -/
def shutS (o c : Int) (deep : Int) (at_ : Nat) : List Int → Option Nat
  | [] => none
  | x :: l =>
    let d := if x = o then deep + 1 else if x = c then deep - 1 else deep
    if d = 0 then some at_ else shutS o c d (at_ + 1) l
def pairS (s : List Int) (at_ : Nat) (o c : Int) (around : Bool) : Option (Nat × Nat) :=
  match (if nth s at_ = o then some at_ else openS s o c 0 at_) with
  | none => none
  | some f => match shutS o c 0 f (s.drop f) with
    | none => none
    | some t => if t < at_ then none else if around then some (f, t + 1) else some (f + 1, t)
end Go.Proofs.Ytkfihnkghiajiaa
