/- Plain laws of sorting a row of integers in place: permuted from a on ahead of b, ascending there. No program in sight. -/
import Derived.Test.YtchcpeenpijekaaOwn
namespace Go.Proofs.Ytchcpeenpijekaa
open Go.RowKit
set_option linter.unusedVariables false

def swapL (l : List Int) (i j : Nat) : List Int := (l.set i (nth l j)).set j (nth l i)
theorem swapL_len (l : List Int) (i j : Nat) : (swapL l i j).length = l.length := by simp [swapL]
theorem swapL_nth {l : List Int} {i j : Nat} (hi : i < l.length) (hj : j < l.length) (k : Nat) : nth (swapL l i j) k = if k = j then nth l i else if k = i then nth l j else nth l k := by
  unfold swapL
  by_cases h1 : k = j
  · subst h1
    rw [if_pos rfl, nth_set_self (by simpa using hj)]
  · rw [if_neg h1, nth_set_other (fun e => h1 e.symm)]
    by_cases h2 : k = i
    · subst h2
      rw [if_pos rfl, nth_set_self hi]
    · rw [if_neg h2, nth_set_other (fun e => h2 e.symm)]
theorem swapL_perm {l : List Int} {i j : Nat} (hi : i < l.length) (hj : j < l.length) : (swapL l i j).Perm l := by
  unfold swapL
  rw [nth_eq hi, nth_eq hj]
  exact List.set_set_perm hi hj

/-- Permuted from a on ahead of b; all else as it was. -/
structure Pm (a b : Nat) (l l' : List Int) : Prop where
  perm : l'.Perm l
  out : ∀ i, i < a ∨ b ≤ i → nth l' i = nth l i
  in_ : ∀ i, a ≤ i → i < b → ∃ j, a ≤ j ∧ j < b ∧ nth l' i = nth l j
theorem Pm.len {a b : Nat} {l l' : List Int} (h : Pm a b l l') : l'.length = l.length := h.perm.length_eq
theorem Pm.refl (a b : Nat) (l : List Int) : Pm a b l l := ⟨List.Perm.refl _, fun _ _ => rfl, fun i h1 h2 => ⟨i, h1, h2, rfl⟩⟩
theorem Pm.trans {a b : Nat} {l l' l'' : List Int} (h : Pm a b l l') (k : Pm a b l' l'') : Pm a b l l'' :=
  ⟨k.perm.trans h.perm, fun i hi => (k.out i hi).trans (h.out i hi), fun i h1 h2 => by
    obtain ⟨j, j1, j2, e⟩ := k.in_ i h1 h2
    obtain ⟨q, q1, q2, e'⟩ := h.in_ j j1 j2
    exact ⟨q, q1, q2, e.trans e'⟩⟩
theorem Pm.wider {a b a' b' : Nat} {l l' : List Int} (h : Pm a b l l') (ha : a' ≤ a) (hb : b ≤ b') : Pm a' b' l l' :=
  ⟨h.perm, fun i hi => h.out i (by omega), fun i h1 h2 => by
    by_cases e : a ≤ i ∧ i < b
    · obtain ⟨j, j1, j2, e'⟩ := h.in_ i e.1 e.2
      exact ⟨j, by omega, by omega, e'⟩
    · exact ⟨i, h1, h2, h.out i (by omega)⟩⟩
theorem Pm.swap {a b i j : Nat} {l : List Int} (hi : a ≤ i) (hi2 : i < b) (hj : a ≤ j) (hj2 : j < b) (hb : b ≤ l.length) : Pm a b l (swapL l i j) := by
  have hn := fun k => swapL_nth (l := l) (i := i) (j := j) (by omega) (by omega) k
  refine ⟨swapL_perm (by omega) (by omega), fun k hk => ?_, fun k h1 h2 => ?_⟩
  · rw [hn, if_neg (by omega), if_neg (by omega)]
  · rw [hn]
    by_cases e1 : k = j
    · rw [if_pos e1]; exact ⟨i, hi, hi2, rfl⟩
    · by_cases e2 : k = i
      · rw [if_neg e1, if_pos e2]; exact ⟨j, hj, hj2, rfl⟩
      · rw [if_neg e1, if_neg e2]; exact ⟨k, h1, h2, rfl⟩
theorem Pm.all {a b : Nat} {l l' : List Int} (h : Pm a b l l') {p : Int → Prop} (hp : ∀ i, a ≤ i → i < b → p (nth l i)) : ∀ i, a ≤ i → i < b → p (nth l' i) := fun i h1 h2 => by
  obtain ⟨j, j1, j2, e⟩ := h.in_ i h1 h2
  rw [e]; exact hp j j1 j2
theorem Pm.w32 {a b : Nat} {l l' : List Int} (h : Pm a b l l') (hl : W32 l) : W32 l' := fun x hx => hl x (h.perm.mem_iff.1 hx)
/-- Ascending from a on ahead of b. -/
def Asc (l : List Int) (a b : Nat) : Prop := ∀ i j, a ≤ i → i < j → j < b → nth l i ≤ nth l j
theorem Asc.small {l : List Int} {a b : Nat} (h : b ≤ a + 1) : Asc l a b := fun i j h1 h2 h3 => by omega
theorem Asc.narrow {l : List Int} {a b a' b' : Nat} (h : Asc l a b) (ha : a ≤ a') (hb : b' ≤ b) : Asc l a' b' := fun i j h1 h2 h3 => h i j (by omega) h2 (by omega)
theorem Asc.same {l l' : List Int} {a b : Nat} (h : Asc l a b) (e : ∀ i, a ≤ i → i < b → nth l' i = nth l i) : Asc l' a b := fun i j h1 h2 h3 => by
  rw [e i h1 (by omega), e j (by omega) h3]; exact h i j h1 h2 h3
theorem Asc.pairwise {l : List Int} (h : Asc l 0 l.length) : l.Pairwise (· ≤ ·) := by
  rw [List.pairwise_iff_getElem]
  intro i j hi hj hij
  have := h i j (by omega) hij hj
  rwa [nth_eq hi, nth_eq hj] at this
/-- Nothing from a on ahead of b is less than what stands ahead of a. -/
def Lo (l : List Int) (a b : Nat) : Prop := a = 0 ∨ ∀ i, a ≤ i → i < b → nth l (a - 1) ≤ nth l i
theorem Lo.pm {l l' : List Int} {a b : Nat} (h : Lo l a b) (k : Pm a b l l') : Lo l' a b := by
  rcases h with h | h
  · exact .inl h
  · by_cases ha : a = 0
    · exact .inl ha
    · refine .inr fun i h1 h2 => ?_
      rw [k.out (a - 1) (by omega)]
      exact k.all (p := fun x => nth l (a - 1) ≤ x) h i h1 h2

/-- The element at j on its way down from i: all others up to i ascend. -/
structure Ins (l : List Int) (a i j : Nat) : Prop where
  asc : ∀ p q, a ≤ p → p < q → q ≤ i → q ≠ j → nth l p ≤ nth l q
theorem Ins.start {l : List Int} {a i : Nat} (h : Asc l a i) : Ins l a i i := ⟨fun p q h1 h2 h3 h4 => h p q h1 h2 (by omega)⟩
theorem Ins.step {l : List Int} {a i j : Nat} (h : Ins l a i (j + 1)) (hj : a ≤ j) (hi : j + 1 ≤ i) (hl : i < l.length) (hlt : nth l (j + 1) < nth l j) : Ins (swapL l (j + 1) j) a i j := by
  have hn := fun k => swapL_nth (l := l) (i := j + 1) (j := j) (by omega) (by omega) k
  refine ⟨fun p q h1 h2 h3 h4 => ?_⟩
  rw [hn, hn]
  by_cases q1 : q = j + 1
  · subst q1
    rw [if_neg (show ¬ j + 1 = j by omega), if_pos rfl]
    by_cases p1 : p = j
    · rw [if_pos p1]; omega
    · rw [if_neg p1, if_neg (by omega)]
      exact h.asc p j h1 (by omega) (by omega) (by omega)
  · rw [if_neg h4, if_neg q1]
    by_cases p1 : p = j
    · rw [if_pos p1]; subst p1
      exact h.asc (p + 1) q (by omega) (by omega) h3 (by omega)
    · by_cases p2 : p = j + 1
      · rw [if_neg p1, if_pos p2]
        exact h.asc j q hj (by omega) h3 q1
      · rw [if_neg p1, if_neg p2]
        exact h.asc p q h1 h2 h3 q1
theorem Ins.stop {l : List Int} {a i j : Nat} (h : Ins l a i j) (hji : j ≤ i) (haj : a ≤ j) (hs : j = a ∨ nth l (j - 1) ≤ nth l j) : Asc l a (i + 1) := fun p q h1 h2 h3 => by
  by_cases e : q = j
  · subst e
    rcases hs with hs | hs
    · omega
    · by_cases e2 : p = q - 1
      · rw [e2]; exact hs
      · exact Int.le_trans (h.asc p (q - 1) h1 (by omega) (by omega) (by omega)) hs
  · exact h.asc p q h1 h2 (by omega) e
end Go.Proofs.Ytchcpeenpijekaa
