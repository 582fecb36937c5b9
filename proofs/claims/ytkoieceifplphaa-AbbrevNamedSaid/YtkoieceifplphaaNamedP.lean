/- The plain law of AbbrevNamed: a word behind what is no word's sign is found by its own row. -/
import Derived.Test.YtkoieceifplphaaSnipN
namespace Go.Proofs.Ytkoieceifplphaa
open Go.RowKit
set_option linter.unusedVariables false

/-- A row of small letters. -/
def Low (t : List Int) : Prop := ∀ x ∈ t, 97 ≤ x ∧ x ≤ 122
theorem Low.nth {t : List Int} (h : Low t) {j : Nat} (hj : j < t.length) : 97 ≤ nth t j ∧ nth t j ≤ 122 := h _ (nth_mem hj)
theorem Low.w32 {t : List Int} (h : Low t) : W32 t := fun x hx => by have := h x hx; omega
theorem Low.may {t : List Int} (h : Low t) : mayS t = true := by
  unfold mayS
  rw [List.all_eq_true]
  intro x hx
  have := h x hx
  simp [isS]
  omega
theorem wrd_low {x : Int} (h : 97 ≤ x ∧ x ≤ 122) : wrdS x = true := by
  unfold wrdS clsS
  rw [if_neg (by omega), if_neg (by omega), if_neg (by omega), if_pos (by omega)]
  rfl

def rowsN (t : List Int) : List Snp := [⟨65 :: t, []⟩, ⟨t, []⟩, ⟨t.take 1, []⟩, ⟨t, []⟩]
theorem rowsN_may {t : List Int} (h : Low t) (h1 : 1 ≤ t.length) (h2 : t.length ≤ 19) : tabT (rowsN t) = true := by
  have m1 := h.may
  have m2 : mayS (65 :: t) = true := by
    unfold mayS at m1 ⊢
    rw [List.all_cons, m1]
    decide
  have m3 : mayS (t.take 1) = true := Low.may (fun x hx => h x (List.mem_of_mem_take hx))
  have e0 : mayS [] = true := rfl
  simp [tabT, rowsN, rowT, m1, m2, m3, e0]
  omega

theorem ahead_word {s t a : List Int} (hs : s = (a ++ [45]) ++ t) (h : Low t) : ∀ j, j ≤ t.length → aheadN s (a.length + 1 + j) = j
  | 0, _ => by
    have : nth s a.length = 45 := by
      rw [hs, List.append_assoc, nth_right (Nat.le_refl _), Nat.sub_self]
      rfl
    show (if wrdS (nth s (a.length)) = true then aheadN s a.length + 1 else 0) = 0
    rw [this]
    rfl
  | j + 1, hj => by
    have e : nth s (a.length + 1 + j) = nth t j := by
      rw [hs, nth_right (by simp)]
      congr 1
      simp
    show (if wrdS (nth s (a.length + 1 + j)) = true then aheadN s (a.length + 1 + j) + 1 else 0) = j + 1
    rw [e, wrd_low (h.nth (by omega)), if_pos rfl, ahead_word hs h j (by omega)]
theorem own_word {s t a : List Int} (hs : s = (a ++ [45]) ++ t) {j : Nat} (hj : j ≤ t.length) (x : Snp) : ownT s (a.length + 1 + j) j x = (decide (0 < j) && sameS x.trig (t.take j)) := by
  unfold ownT
  congr 2
  rw [Nat.add_sub_cancel, hs]
  rw [List.drop_left' (by simp)]
theorem idx_rows {p : Snp → Bool} {a b c d : Snp} : idxT p [a, b, c, d] = if p a then 0 else if p b then 1 else if p c then 2 else if p d then 3 else -1 := by
  unfold idxT
  simp only [List.findIdx?_cons, List.findIdx?_nil]
  cases p a <;> cases p b <;> cases p c <;> cases p d <;> simp

theorem named_word {s t a : List Int} (hs : s = (a ++ [45]) ++ t) (h : Low t) (h1 : 1 ≤ t.length) (h2 : t.length ≤ 19) {j : Nat} (hj : j ≤ t.length) :
    namedS (rowsN t) s ((a.length + 1 + j : Nat) : Int) = if j = t.length then 1 else if j = 1 then 2 else -1 := by
  unfold namedS
  rw [if_pos ⟨by rw [hs]; simp; omega, rowsN_may h h1 h2⟩, Int.toNat_natCast, ahead_word hs h j hj]
  unfold rowsN
  rw [idx_rows]
  simp only [own_word hs hj]
  have l1 : (t.take j).length = j := by rw [List.length_take]; omega
  have e0 : sameS (65 :: t) (t.take j) = false := sameS_len (by rw [l1, List.length_cons]; omega)
  rw [e0]
  by_cases hjt : j = t.length
  · have e1 : sameS t (t.take j) = true := by rw [hjt, List.take_length]; simp [sameS]
    rw [e1]
    have hj0 : 0 < j := by omega
    rw [if_pos hjt, decide_eq_true hj0]
    rfl
  · have e1 : sameS t (t.take j) = false := sameS_len (by rw [l1]; omega)
    rw [e1, if_neg hjt]
    by_cases hj1 : j = 1
    · have e2 : sameS (t.take 1) (t.take j) = true := by rw [hj1]; simp [sameS]
      rw [e2]
      simp [hj1]
    · have e2 : sameS (t.take 1) (t.take j) = false := sameS_len (by rw [l1, List.length_take]; omega)
      rw [e2]
      simp [hj1]
end Go.Proofs.Ytkoieceifplphaa
