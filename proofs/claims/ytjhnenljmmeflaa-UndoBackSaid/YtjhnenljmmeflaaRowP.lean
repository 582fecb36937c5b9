/- Plain laws of rows of changes: what is done by steps that may be, and what leads back. -/
import Derived.Test.YtjhnenljmmeflaaRowS
import Derived.Test.YtjhnenljmmeflaaBack
import Derived.Test.YtjhnenljmmeflaaFit
import Derived.Test.YtjhnenljmmeflaaLeastP
namespace Go.Proofs.Ytjhnenljmmeflaa
open Go.RowKit
set_option linter.unusedVariables false

theorem mayS_app {a b : List Int} (ha : mayS a = true) (hb : mayS b = true) : mayS (a ++ b) = true := by
  unfold mayS at *
  rw [List.all_append, ha, hb]
  rfl
theorem mayS_take {a : List Int} (ha : mayS a = true) (n : Nat) : mayS (a.take n) = true := mayS_sub ha fun x hx => List.mem_of_mem_take hx
theorem mayS_drop {a : List Int} (ha : mayS a = true) (n : Nat) : mayS (a.drop n) = true := mayS_sub ha fun x hx => List.mem_of_mem_drop hx

theorem mayC_parts {s cut put : List Int} {at_ : Int} (h : mayC s at_ cut put = true) : (0 ≤ at_ ∧ at_ + cut.length ≤ s.length ∧ s.length ≤ 1000 ∧ put.length + s.length ≤ 1000 + cut.length) ∧ (s.drop at_.toNat).take cut.length = cut ∧ mayS cut = true ∧ mayS put = true := by
  simp only [mayC, Bool.and_eq_true, fitC, decide_eq_true_eq, sameS] at h
  exact ⟨h.1, h.2.1.1, h.2.1.2, h.2.2⟩
theorem mayC_of {s cut put : List Int} {at_ : Int} (h : (0 ≤ at_ ∧ at_ + cut.length ≤ s.length ∧ s.length ≤ 1000 ∧ put.length + s.length ≤ 1000 + cut.length) ∧ (s.drop at_.toNat).take cut.length = cut ∧ mayS cut = true ∧ mayS put = true) : mayC s at_ cut put = true := by
  simp only [mayC, Bool.and_eq_true, fitC, decide_eq_true_eq, sameS]
  exact ⟨h.1, ⟨h.2.1, h.2.2.1⟩, h.2.2.2⟩

theorem fit_may {s put : List Int} {x q : Nat} (hs : mayS s = true) (hp : mayS put = true) (hxq : x + q ≤ s.length) (hlen : s.length ≤ 1000) :
    mayC s x ((s.drop x).take q) (put.take (fitR s.length q)) = true := by
  have h1 : ((s.drop x).take q).length = q := by rw [List.length_take, List.length_drop]; omega
  refine mayC_of ⟨⟨by omega, by rw [h1]; omega, hlen, ?_⟩, ?_, mayS_take (mayS_drop hs _) _, mayS_take hp _⟩
  · rw [h1, List.length_take]
    unfold fitR
    omega
  · rw [h1, Int.toNat_natCast]

theorem inv_may {s cut put : List Int} {at_ : Int} (h : mayC s at_ cut put = true) : mayC (applyS s at_ cut put) at_ put cut = true ∧ applyS (applyS s at_ cut put) at_ put cut = s := by
  obtain ⟨⟨h1, h2, h3, h4⟩, h5, h6, h7⟩ := mayC_parts h
  obtain ⟨a, rfl⟩ := Int.eq_ofNat_of_zero_le h1
  rw [Int.toNat_natCast] at h5
  have hl : (s.take a).length = a := by rw [List.length_take]; omega
  have e1 : (applyS s a cut put).take a = s.take a := by
    unfold applyS
    rw [Int.toNat_natCast, List.append_assoc, List.take_left' hl]
  have e2 : (applyS s a cut put).drop a = put ++ s.drop (a + cut.length) := by
    unfold applyS
    rw [Int.toNat_natCast, List.append_assoc, List.drop_left' hl]
  have e3 : (applyS s a cut put).length = s.length + put.length - cut.length := by
    unfold applyS
    rw [Int.toNat_natCast, List.length_append, List.length_append, hl, List.length_drop]
    omega
  constructor
  · refine mayC_of ⟨⟨h1, by rw [e3]; omega, by rw [e3]; omega, by rw [e3]; omega⟩, ?_, h7, h6⟩
    rw [Int.toNat_natCast, e2, List.take_left' rfl]
  · have e4 : (applyS s a cut put).drop (a + put.length) = s.drop (a + cut.length) := by
      rw [← List.drop_drop, e2, List.drop_left' rfl]
    have e5 : ∀ X : List Int, applyS X a put cut = X.take a ++ cut ++ X.drop (a + put.length) := fun X => by
      unfold applyS
      rw [Int.toNat_natCast]
    rw [e5, e4, e1]
    have e6 : cut ++ s.drop (a + cut.length) = s.drop a := by
      conv => lhs; rw [← h5]
      rw [h5, ← List.drop_drop]
      conv => lhs; lhs; rw [← h5]
      rw [List.take_append_drop]
    rw [List.append_assoc, e6, List.take_append_drop]

theorem rowS_app (s : List Int) : ∀ (l r : List Chg), rowS s (l ++ r) = if (rowS s l).2 = 0 then rowS (rowS s l).1 r else ([], 1)
  | [], r => by simp [rowS]
  | x :: l, r => by
    rw [List.cons_append, rowS, rowS]
    by_cases h : appE s x.at_ x.cut x.put = 0
    · rw [if_pos h, if_pos h]
      exact rowS_app _ l r
    · rw [if_neg h, if_neg h]
      rfl
theorem rowS_snoc {s t : List Int} {l : List Chg} {x : Chg} (h : rowS s l = (t, 0)) (hx : mayC t x.at_ x.cut x.put = true) : rowS s (l ++ [x]) = (appS t x.at_ x.cut x.put, 0) := by
  rw [rowS_app, h, if_pos rfl]
  simp [rowS, appE, hx]
theorem rowS_split {s t : List Int} {l : List Chg} (h : rowS s l = (t, 0)) (k : Nat) : (rowS s (l.take k)).2 = 0 ∧ rowS (rowS s (l.take k)).1 (l.drop k) = (t, 0) := by
  have h1 := rowS_app s (l.take k) (l.drop k)
  rw [List.take_append_drop, h] at h1
  by_cases h2 : (rowS s (l.take k)).2 = 0
  · rw [if_pos h2] at h1
    exact ⟨h2, h1.symm⟩
  · rw [if_neg h2] at h1
    cases h1
theorem rowS_len (s : List Int) : ∀ (l : List Chg), (rowS s l).1.length ≤ max s.length 1000
  | [] => Nat.le_max_left _ _
  | x :: l => by
    rw [rowS]
    rcases appE_cases s x with ⟨h1, h2⟩ | h1
    · rw [if_pos h1]
      have := rowS_len (appS s x.at_ x.cut x.put) l
      omega
    · rw [if_neg (by omega)]
      exact Nat.zero_le _
theorem backC_snoc (l : List Chg) (x : Chg) : backC (l ++ [x]) = invC x :: backC l := by simp [backC]
theorem backC_split (l : List Chg) (k : Nat) : backC (l.drop k) ++ backC (l.take k) = backC l := by
  unfold backC
  rw [← List.reverse_append, ← List.map_append, List.take_append_drop]
theorem backC_len (l : List Chg) : (backC l).length = l.length := by simp [backC]

/-- A row of changes of which each one may be. -/
structure Steps (s : List Int) (l : List Chg) (t : List Int) : Prop where
  row : rowS s l = (t, 0)
  back : rowS t (backC l) = (s, 0)
  may : mayS t = true
  len : t.length ≤ 1000
theorem Steps.nil {s : List Int} (hs : mayS s = true) (hl : s.length ≤ 1000) : Steps s [] s := ⟨rfl, rfl, hs, hl⟩
theorem Steps.step {s t : List Int} {l : List Chg} {x : Chg} (h : Steps s l t) (hx : mayC t x.at_ x.cut x.put = true) : Steps s (l ++ [x]) (appS t x.at_ x.cut x.put) := by
  obtain ⟨⟨h1, h2, h3, h4⟩, h5, h6, h7⟩ := mayC_parts hx
  have e : appS t x.at_ x.cut x.put = applyS t x.at_ x.cut x.put := by unfold appS; rw [hx]; rfl
  refine ⟨rowS_snoc h.row hx, ?_, ?_, ?_⟩
  · rw [backC_snoc, rowS, e]
    have k := inv_may hx
    have k1 : appE (applyS t x.at_ x.cut x.put) (invC x).at_ (invC x).cut (invC x).put = 0 := by
      unfold appE
      rw [show mayC (applyS t x.at_ x.cut x.put) (invC x).at_ (invC x).cut (invC x).put = true from k.1]
      rfl
    have k2 : appS (applyS t x.at_ x.cut x.put) (invC x).at_ (invC x).cut (invC x).put = t := by
      unfold appS
      rw [show mayC (applyS t x.at_ x.cut x.put) (invC x).at_ (invC x).cut (invC x).put = true from k.1]
      exact k.2
    rw [if_pos k1, k2]
    exact h.back
  · rw [e]
    unfold applyS
    exact mayS_app (mayS_app (mayS_take h.may _) h7) (mayS_drop h.may _)
  · rw [e]
    unfold applyS
    rw [List.length_append, List.length_append, List.length_take, List.length_drop]
    omega
theorem app_len {t : List Int} {x : Chg} (hx : mayC t x.at_ x.cut x.put = true) : (appS t x.at_ x.cut x.put).length + x.cut.length = t.length + x.put.length := by
  obtain ⟨⟨h1, h2, h3, h4⟩, h5, h6, h7⟩ := mayC_parts hx
  have e : appS t x.at_ x.cut x.put = applyS t x.at_ x.cut x.put := by unfold appS; rw [hx]; rfl
  rw [e]
  unfold applyS
  rw [List.length_append, List.length_append, List.length_take, List.length_drop]
  omega
end Go.Proofs.Ytjhnenljmmeflaa
