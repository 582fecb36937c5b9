/- The order of tabs in plain words: as the reference makes it; it is sorted, of just the homes. -/
import Derived.Test.YtfeflmpdbejhjaaFld
namespace Go.Proofs.Ytfeflmpdbejhjaa
open Go.RowKit
set_option linter.unusedVariables false

def numO (us : Nat → FV) (x : Int) : Int := (us x.toNat).num
/-- How many of the first so many stay ahead of one with number v. -/
def cutO (us : Nat → FV) (v : Int) (l : List Int) : Nat → Nat
  | 0 => 0
  | k + 1 => if v < numO us (nth l k) then cutO us v l k else k + 1
theorem cutO_le (us : Nat → FV) (v : Int) (l : List Int) : ∀ k, cutO us v l k ≤ k
  | 0 => Nat.le_refl _
  | k + 1 => by
    have := cutO_le us v l k
    unfold cutO
    split <;> omega
theorem cutO_hi (us : Nat → FV) (v : Int) (l : List Int) : ∀ k t, cutO us v l k ≤ t → t < k → v < numO us (nth l t)
  | 0, t, h, k => absurd k (by omega)
  | k + 1, t, h, hk => by
    unfold cutO at h
    split at h
    · rename_i hv
      by_cases e : t = k
      · rw [e]; exact hv
      · exact cutO_hi us v l k t h (by omega)
    · omega
theorem cutO_lo (us : Nat → FV) (v : Int) (l : List Int) : ∀ k, 0 < cutO us v l k → numO us (nth l (cutO us v l k - 1)) ≤ v
  | 0, h => absurd h (by simp [cutO])
  | k + 1, h => by
    unfold cutO at h ⊢
    split
    · rename_i hv
      rw [if_pos hv] at h
      exact cutO_lo us v l k h
    · rename_i hv
      rw [Nat.add_sub_cancel]
      omega
def insO (us : Nat → FV) (l : List Int) (j : Nat) : List Int := l.take (cutO us (us j).num l l.length) ++ [(j : Int)] ++ l.drop (cutO us (us j).num l l.length)
def refO (us : Nat → FV) : Nat → List Int × List Int
  | 0 => ([], [])
  | j + 1 => if homeS (us j) = true then (if (us j).num = 0 then ((refO us j).1, (refO us j).2 ++ [(j : Int)]) else (insO us (refO us j).1 j, (refO us j).2)) else refO us j
def ordR (us : Nat → FV) (n : Nat) : List Int := (refO us n).1 ++ (refO us n).2

theorem mem_insO {us : Nat → FV} {l : List Int} {j : Nat} {x : Int} : x ∈ insO us l j ↔ x = j ∨ x ∈ l := by
  unfold insO
  rw [List.append_assoc, List.mem_append, List.mem_append, List.mem_singleton]
  have : x ∈ l ↔ x ∈ l.take (cutO us (us j).num l l.length) ∨ x ∈ l.drop (cutO us (us j).num l l.length) := by
    conv => lhs; rw [← List.take_append_drop (cutO us (us j).num l l.length) l]
    rw [List.mem_append]
  rw [this]
  constructor
  · rintro (h | h | h)
    · exact .inr (.inl h)
    · exact .inl h
    · exact .inr (.inr h)
  · rintro (h | h | h)
    · exact .inr (.inl h)
    · exact .inl h
    · exact .inr (.inr h)

theorem home_num {v : FV} (h : homeS v = true) : 0 ≤ v.num := by
  unfold homeS at h
  simp at h
  omega
theorem ltF_iff (us : Nat → FV) (x y : Int) : ltF us x y = true ↔ ((numO us x ≠ 0 ∧ numO us y = 0)) ∨ ((numO us x = 0 ↔ numO us y = 0) ∧ numO us x < numO us y) := ltN_iff _ _
theorem ltF_no (us : Nat → FV) (x y : Int) : ltF us x y = false ↔ ¬ (((numO us x ≠ 0 ∧ numO us y = 0)) ∨ ((numO us x = 0 ↔ numO us y = 0) ∧ numO us x < numO us y)) := by
  rw [← ltF_iff]
  simp

/-- What the reference's rows are after so many fields. -/
structure RefO (us : Nat → FV) (j : Nat) (o z : List Int) : Prop where
  so : o.Pairwise (LtP (ltF us))
  sz : z.Pairwise (LtP (ltF us))
  no : ∀ x ∈ o, 0 < numO us x
  nz : ∀ x ∈ z, numO us x = 0
  mem : ∀ x : Int, x ∈ o ∨ x ∈ z ↔ ∃ i : Nat, i < j ∧ homeS (us i) = true ∧ x = (i : Int)
theorem refO_ok (us : Nat → FV) : ∀ j, RefO us j (refO us j).1 (refO us j).2
  | 0 => ⟨List.Pairwise.nil, List.Pairwise.nil, fun x h => (by simp [refO] at h), fun x h => (by simp [refO] at h), fun x => by simp [refO]⟩
  | j + 1 => by
    have ih := refO_ok us j
    have hlt : ∀ x, x ∈ (refO us j).1 ∨ x ∈ (refO us j).2 → x < (j : Int) := fun x hx => by
      obtain ⟨i, h1, _, rfl⟩ := (ih.mem x).1 hx
      omega
    have hnj : numO us (j : Int) = (us j).num := rfl
    unfold refO
    by_cases hh : homeS (us j) = true
    · rw [if_pos hh]
      have hnum := home_num hh
      by_cases h0 : (us j).num = 0
      · rw [if_pos h0]
        refine ⟨ih.so, ?_, ih.no, ?_, fun x => ?_⟩
        · rw [List.pairwise_append]
          refine ⟨ih.sz, List.pairwise_singleton _ _, fun x hx y hy => ?_⟩
          rw [List.mem_singleton.1 hy]
          refine .inr ⟨(ltF_no us _ _).2 ?_, hlt x (.inr hx)⟩
          have := ih.nz x hx
          omega
        · intro x hx
          rcases List.mem_append.1 hx with h | h
          · exact ih.nz x h
          · rw [List.mem_singleton.1 h, hnj]; exact h0
        · rw [List.mem_append, List.mem_singleton, ← or_assoc, ih.mem]
          constructor
          · rintro (⟨i, h1, h2, h3⟩ | h)
            · exact ⟨i, by omega, h2, h3⟩
            · exact ⟨j, by omega, hh, h⟩
          · rintro ⟨i, h1, h2, h3⟩
            by_cases e : i = j
            · right; rw [h3, e]
            · exact .inl ⟨i, by omega, h2, h3⟩
      · rw [if_neg h0]
        have hc := cutO_le us (us j).num (refO us j).1 (refO us j).1.length
        refine ⟨?_, ih.sz, ?_, ih.nz, fun x => ?_⟩
        · unfold insO
          have hall : ∀ x ∈ (refO us j).1.take (cutO us (us j).num (refO us j).1 (refO us j).1.length), LtP (ltF us) x (j : Int) := fun x hx => by
            have hxo := List.mem_of_mem_take hx
            have hxn := ih.no x hxo
            have hle : numO us x ≤ (us j).num := by
              obtain ⟨t, ht, rfl⟩ := mem_nth hx
              rw [List.length_take] at ht
              have ht2 : t < cutO us (us j).num (refO us j).1 (refO us j).1.length := by omega
              rw [nth_take ht2]
              have hlo := cutO_lo us (us j).num (refO us j).1 (refO us j).1.length (by omega)
              by_cases e : t = cutO us (us j).num (refO us j).1 (refO us j).1.length - 1
              · rw [e]; exact hlo
              · have hp := List.pairwise_iff_getElem.1 ih.so t (cutO us (us j).num (refO us j).1 (refO us j).1.length - 1) (by omega) (by omega) (by omega)
                rw [← nth_eq, ← nth_eq] at hp
                have n1 := ih.no _ (nth_mem (l := (refO us j).1) (j := t) (by omega))
                have n2 := ih.no _ (nth_mem (l := (refO us j).1) (j := cutO us (us j).num (refO us j).1 (refO us j).1.length - 1) (by omega))
                rcases hp with hp | ⟨hp, _⟩
                · have := (ltF_iff us _ _).1 hp
                  omega
                · have := (ltF_no us _ _).1 hp
                  omega
            rcases Int.lt_or_eq_of_le hle with e | e
            · exact .inl ((ltF_iff us _ _).2 (by rw [hnj]; omega))
            · exact .inr ⟨(ltF_no us _ _).2 (by rw [hnj]; omega), hlt x (.inl hxo)⟩
          have hall2 : ∀ x ∈ (refO us j).1.drop (cutO us (us j).num (refO us j).1 (refO us j).1.length), LtP (ltF us) (j : Int) x := fun x hx => by
            obtain ⟨t, ht, rfl⟩ := mem_nth hx
            rw [List.length_drop] at ht
            rw [nth_drop]
            have := cutO_hi us (us j).num (refO us j).1 (refO us j).1.length (cutO us (us j).num (refO us j).1 (refO us j).1.length + t) (by omega) (by omega)
            exact .inl ((ltF_iff us _ _).2 (by rw [hnj]; omega))
          have hs := ih.so
          rw [← List.take_append_drop (cutO us (us j).num (refO us j).1 (refO us j).1.length) (refO us j).1, List.pairwise_append] at hs
          rw [List.pairwise_append]
          refine ⟨?_, hs.2.1, fun x hx y hy => ?_⟩
          · rw [List.pairwise_append]
            exact ⟨hs.1, List.pairwise_singleton _ _, fun x hx y hy => by rw [List.mem_singleton.1 hy]; exact hall x hx⟩
          · rcases List.mem_append.1 hx with h | h
            · exact hs.2.2 x h y hy
            · rw [List.mem_singleton.1 h]; exact hall2 y hy
        · intro x hx
          rcases mem_insO.1 hx with h | h
          · rw [h, hnj]; omega
          · exact ih.no x h
        · rw [mem_insO, or_assoc, ih.mem]
          constructor
          · rintro (h | ⟨i, h1, h2, h3⟩)
            · exact ⟨j, by omega, hh, h⟩
            · exact ⟨i, by omega, h2, h3⟩
          · rintro ⟨i, h1, h2, h3⟩
            by_cases e : i = j
            · left; rw [h3, e]
            · exact .inr ⟨i, by omega, h2, h3⟩
    · rw [if_neg hh]
      refine ⟨ih.so, ih.sz, ih.no, ih.nz, fun x => ?_⟩
      rw [ih.mem]
      constructor
      · rintro ⟨i, h1, h2, h3⟩
        exact ⟨i, by omega, h2, h3⟩
      · rintro ⟨i, h1, h2, h3⟩
        by_cases e : i = j
        · rw [e] at h2; exact absurd h2 hh
        · exact ⟨i, by omega, h2, h3⟩
theorem ordR_sorted (us : Nat → FV) (n : Nat) : (ordR us n).Pairwise (LtP (ltF us)) := by
  have h := refO_ok us n
  unfold ordR
  rw [List.pairwise_append]
  exact ⟨h.so, h.sz, fun x hx y hy => .inl ((ltF_iff us _ _).2 (by have := h.no x hx; have := h.nz y hy; omega))⟩
theorem ordR_mem (us : Nat → FV) (n : Nat) (x : Int) : x ∈ ordR us n ↔ ∃ i : Nat, i < n ∧ homeS (us i) = true ∧ x = (i : Int) := by
  unfold ordR
  rw [List.mem_append]
  exact (refO_ok us n).mem x
/-- The homes, as they come. -/
def homeL (us : Nat → FV) : Nat → List Int
  | 0 => []
  | j + 1 => if homeS (us j) = true then homeL us j ++ [(j : Int)] else homeL us j
theorem homeL_mem (us : Nat → FV) : ∀ (n : Nat) (x : Int), x ∈ homeL us n ↔ ∃ i : Nat, i < n ∧ homeS (us i) = true ∧ x = (i : Int)
  | 0, x => by simp [homeL]
  | j + 1, x => by
    have ih := homeL_mem us j x
    unfold homeL
    by_cases hh : homeS (us j) = true
    · rw [if_pos hh, List.mem_append, List.mem_singleton, ih]
      constructor
      · rintro (⟨i, h1, h2, h3⟩ | h)
        · exact ⟨i, by omega, h2, h3⟩
        · exact ⟨j, by omega, hh, h⟩
      · rintro ⟨i, h1, h2, h3⟩
        by_cases e : i = j
        · right; rw [h3, e]
        · exact .inl ⟨i, by omega, h2, h3⟩
    · rw [if_neg hh, ih]
      constructor
      · rintro ⟨i, h1, h2, h3⟩
        exact ⟨i, by omega, h2, h3⟩
      · rintro ⟨i, h1, h2, h3⟩
        by_cases e : i = j
        · rw [e] at h2; exact absurd h2 hh
        · exact ⟨i, by omega, h2, h3⟩
theorem homeL_up (us : Nat → FV) : ∀ n, (homeL us n).Pairwise (· < ·)
  | 0 => List.Pairwise.nil
  | j + 1 => by
    unfold homeL
    by_cases hh : homeS (us j) = true
    · rw [if_pos hh, List.pairwise_append]
      refine ⟨homeL_up us j, List.pairwise_singleton _ _, fun x hx y hy => ?_⟩
      obtain ⟨i, h1, _, rfl⟩ := (homeL_mem us j x).1 hx
      rw [List.mem_singleton.1 hy]
      omega
    · rw [if_neg hh]
      exact homeL_up us j
theorem homeL_len (us : Nat → FV) : ∀ n, (homeL us n).length ≤ n
  | 0 => Nat.le_refl _
  | j + 1 => by
    have := homeL_len us j
    unfold homeL
    split
    · rw [List.length_append]; simp; omega
    · omega
theorem sub_all : ∀ (l h : List Int), l.Nodup → (∀ x ∈ l, x ∈ h) → h.length ≤ l.length → ∀ x ∈ h, x ∈ l
  | [], h, _, _, hl, x, hx => by
    have : h = [] := List.length_eq_zero_iff.1 (by simpa using hl)
    rw [this] at hx
    exact hx
  | a :: l, h, hnd, hs, hl, x, hx => by
    rw [List.nodup_cons] at hnd
    by_cases e : x = a
    · rw [e]; exact List.mem_cons_self
    · have ha := hs a List.mem_cons_self
      have hlen := List.length_erase_of_mem ha
      refine List.mem_cons_of_mem _ (sub_all l (h.erase a) hnd.2 (fun y hy => ?_) ?_ x ((List.mem_erase_of_ne e).2 hx))
      · exact (List.mem_erase_of_ne (fun k => hnd.1 (by rw [← k]; exact hy))).2 (hs y (List.mem_cons_of_mem _ hy))
      · rw [hlen]
        rw [List.length_cons] at hl
        omega
theorem sub_len : ∀ (l h : List Int), l.Nodup → (∀ x ∈ l, x ∈ h) → l.length ≤ h.length
  | [], h, _, _ => Nat.zero_le _
  | a :: l, h, hnd, hs => by
    rw [List.nodup_cons] at hnd
    have ha := hs a List.mem_cons_self
    have hlen := List.length_erase_of_mem ha
    have h0 := List.length_pos_of_mem ha
    have := sub_len l (h.erase a) hnd.2 (fun y hy => (List.mem_erase_of_ne (fun k => hnd.1 (by rw [← k]; exact hy))).2 (hs y (List.mem_cons_of_mem _ hy)))
    rw [List.length_cons]
    omega
/-- What the sort leaves is the reference's order. -/
theorem sorted_ord {us : Nat → FV} {n : Nat} {l : List Int} (hs : Sub 0 (homeL us n).length (homeL us n) l) (ht : Srt (ltF us) l 0 (homeL us n).length) : l = ordR us n := by
  have hw := ltF_weak us
  have hp : l.Pairwise (LtP (ltF us)) := by
    rw [List.pairwise_iff_getElem]
    intro i j hi hj hij
    rw [← nth_eq, ← nth_eq]
    exact ht i j (Nat.zero_le _) hij (by rw [← hs.len]; exact hj)
  have hsub : ∀ x ∈ l, x ∈ homeL us n := fun x hx => by
    obtain ⟨u, hu, rfl⟩ := mem_nth hx
    obtain ⟨v, _, h2, e⟩ := hs.in_ u (Nat.zero_le _) (by rw [← hs.len]; exact hu)
    rw [e]
    exact nth_mem h2
  have hnd : l.Nodup := hp.imp fun {a b} h e => by rw [e] at h; exact h.irr hw
  refine sorted_one hw hp (ordR_sorted us n) fun x => ?_
  rw [ordR_mem, ← homeL_mem]
  refine ⟨hsub x, fun hx => ?_⟩
  exact sub_all l _ hnd hsub (by rw [hs.len]; exact Nat.le_refl _) x hx
end Go.Proofs.Ytfeflmpdbejhjaa
