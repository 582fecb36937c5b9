/- The plain law of ObjectWords: from each place within a word its span is the same; its neighbours are of another class. No program in sight. -/
import Derived.Test.YtkfihnkghiajiaaObjO
namespace Go.Proofs.Ytkfihnkghiajiaa
open Go.RowKit
set_option linter.unusedVariables false

theorem kd_line {x : Int} : kdS x = 2 ↔ x = 10 := by
  unfold kdS clsS
  repeat' split
  all_goals first | omega | simp
theorem kd_cls {x : Int} (h : isS x = true) : (kdS x : Int) = clsS x := by
  have h1 : 0 ≤ x ∧ x ≤ 1114111 ∧ (x < 55296 ∨ 57343 < x) := by
    simp [isS] at h
    omega
  have h0 : clsS x ≠ 0 := by
    unfold clsS
    repeat' split
    all_goals omega
  have hb := cls_bd x
  unfold kdS
  repeat' split
  all_goals omega
theorem backN_eq {p : Int → Bool} {s : List Int} : ∀ {k F : Nat}, F ≤ k → (∀ j, F ≤ j → j < k → p (nth s j) = true) → (F = 0 ∨ p (nth s (F - 1)) = false) → backN p s k = k - F
  | 0, F, h, _, _ => by
    obtain rfl : F = 0 := by omega
    rfl
  | k + 1, F, h, h1, h2 => by
    rw [backN]
    by_cases hF : F = k + 1
    · subst hF
      rcases h2 with h2 | h2
      · omega
      · rw [show k + 1 - 1 = k by omega] at h2
        rw [h2]
        simp
    · rw [h1 k (by omega) (by omega), if_pos rfl, backN_eq (k := k) (F := F) (by omega) (fun j h3 h4 => h1 j h3 (by omega)) h2]
      omega
theorem fwdN_eq {p : Int → Bool} {s : List Int} {T : Nat} (hT : T ≤ s.length) (h2 : T = s.length ∨ p (nth s T) = false) : ∀ (n k : Nat), T - k = n → k ≤ T → (∀ j, k ≤ j → j < T → p (nth s j) = true) → fwdN p (s.drop k) = T - k
  | 0, k, hn, h, _ => by
    obtain rfl : k = T := by omega
    rcases h2 with h2 | h2
    · rw [fwdN_end (by omega)]
      omega
    · by_cases hk : k < s.length
      · rw [fwdN_drop hk, h2]
        simp
      · rw [fwdN_end (by omega)]
        omega
  | n + 1, k, hn, h, h1 => by
    rw [fwdN_drop (by omega), h1 k (Nat.le_refl _) (by omega), if_pos rfl, fwdN_eq hT h2 n (k + 1) (by omega) (by omega) (fun j h3 h4 => h1 j (by omega) h4)]
    omega
/-- From each place within. -/
theorem word_same {s : List Int} {a i : Nat} (ha : a < s.length) (h1 : wFrom s a ≤ i) (h2 : i < wTo s a) : wordS s i false = wordS s a false := by
  have hk := word_in h1 h2
  have hT := wTo_gt ha
  have hp : sameK s i = sameK s a := by
    funext x
    unfold sameK
    rw [hk]
  have e1 : wFrom s i = wFrom s a := by
    have h3 : backN (sameK s a) s i = i - wFrom s a := backN_eq h1 (fun j h4 h5 => by
      have := word_in (s := s) (at_ := a) (j := j) h4 (by omega)
      simp [sameK, this]) (by
      rcases Nat.eq_zero_or_pos (wFrom s a) with h4 | h4
      · exact .inl h4
      · right
        have := word_ahead h4
        simpa [sameK] using this)
    have h4 : wFrom s i = i - backN (sameK s i) s i := rfl
    rw [h4, hp, h3]
    omega
  have e2 : wTo s i = wTo s a := by
    have h3 : fwdN (sameK s a) (s.drop i) = wTo s a - i := fwdN_eq hT.2 (by
      by_cases h4 : wTo s a = s.length
      · exact .inl h4
      · right
        have := word_behind (s := s) (at_ := a) (by omega) ha
        simpa [sameK] using this) _ i rfl (by omega) (fun j h4 h5 => by
      have := word_in (s := s) (at_ := a) (j := j) (by omega) h5
      simp [sameK, this])
    have h4 : wTo s i = i + fwdN (sameK s i) (s.drop i) := rfl
    rw [h4, hp, h3]
    omega
  unfold wordS
  rw [hk, e1, e2]
/-- All that ObjectWords asks. -/
theorem words_law {s : List Int} {a : Nat} (ha : a < s.length) (hs : ∀ x ∈ s, isS x = true) :
    (objS s a 1 false = none ∧ nth s a = 10) ∨ (nth s a ≠ 10 ∧ ∃ f t, objS s a 1 false = some (f, t) ∧ f ≤ a ∧ a < t ∧ t ≤ s.length ∧ (∀ i : Nat, f ≤ i → i < t → objS s i 1 false = some (f, t) ∧ clsS (nth s i) = clsS (nth s a)) ∧
      (0 < f → clsS (nth s (f - 1)) ≠ clsS (nth s a)) ∧ (t < s.length → clsS (nth s t) ≠ clsS (nth s a))) := by
  have ho : ∀ i : Nat, i < s.length → objS s i 1 false = wordS s i false := fun i hi => by
    unfold objS
    rw [if_pos ⟨by omega, by omega⟩, Int.toNat_natCast, if_pos rfl]
  have hc : ∀ i : Nat, i < s.length → (kdS (nth s i) : Int) = clsS (nth s i) := fun i hi => kd_cls (hs _ (nth_mem hi))
  by_cases hl : kdS (nth s a) = 2
  · exact .inl ⟨by rw [ho a ha]; exact wordS_none hl, kd_line.1 hl⟩
  · have hT := wTo_gt ha
    have hF := wFrom_le s a
    have e : wordS s a false = some (wFrom s a, wTo s a) := by
      unfold wordS
      rw [if_neg hl]
      rfl
    refine .inr ⟨fun h => hl (kd_line.2 h), _, _, by rw [ho a ha]; exact e, hF, hT.1, hT.2, fun i h1 h2 => ⟨by rw [ho i (by omega), word_same ha h1 h2]; exact e, ?_⟩, fun h => ?_, fun h => ?_⟩
    · rw [← hc i (by omega), ← hc a ha, word_in h1 h2]
    · rw [← hc _ (by omega), ← hc a ha]
      have := word_ahead h
      omega
    · rw [← hc _ h, ← hc a ha]
      have := word_behind h ha
      omega
end Go.Proofs.Ytkfihnkghiajiaa
