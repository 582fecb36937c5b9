/- The plain law of ObjectAround: what the span with around and the one without have to do with each other. No program in sight. -/
import Derived.Test.YtkfihnkghiajiaaObjO
namespace Go.Proofs.Ytkfihnkghiajiaa
open Go.RowKit
set_option linter.unusedVariables false

/-- The signs of brackets and quotes, by the object's number. -/
def opS (o : Int) : Int := if o = 2 then 40 else if o = 3 then 91 else if o = 4 then 123 else if o = 5 then 34 else 39
def clS (o : Int) : Int := if o = 2 then 41 else if o = 3 then 93 else if o = 4 then 125 else if o = 5 then 34 else 39

theorem shut_at {o c : Int} (hoc : o ≠ c) : ∀ {l : List Int} {dp : Int} {a t : Nat}, 0 < dp → shutS o c dp a l = some t → a ≤ t ∧ nth l (t - a) = c
  | [], dp, a, t, _, h => by cases h
  | x :: l, dp, a, t, hd, h => by
    rw [shutS] at h
    by_cases hx : x = o
    · rw [if_pos hx] at h
      have h1 : shutS o c (dp + 1) (a + 1) l = some t := by
        have : ¬ (dp + 1 = 0) := by omega
        simpa [this] using h
      have := shut_at hoc (by omega) h1
      obtain ⟨h2, h3⟩ := this
      refine ⟨by omega, ?_⟩
      rw [show t - a = (t - (a + 1)) + 1 by omega]
      exact h3
    · rw [if_neg hx] at h
      by_cases hc : x = c
      · rw [if_pos hc] at h
        by_cases h0 : dp - 1 = 0
        · have h1 : a = t := by simpa [h0] using h
          subst h1
          exact ⟨Nat.le_refl _, by rw [Nat.sub_self]; exact hc⟩
        · have h1 : shutS o c (dp - 1) (a + 1) l = some t := by simpa [h0] using h
          obtain ⟨h2, h3⟩ := shut_at hoc (by omega) h1
          refine ⟨by omega, ?_⟩
          rw [show t - a = (t - (a + 1)) + 1 by omega]
          exact h3
      · rw [if_neg hc] at h
        have h1 : shutS o c dp (a + 1) l = some t := by
          have : ¬ (dp = 0) := by omega
          simpa [this] using h
        obtain ⟨h2, h3⟩ := shut_at hoc hd h1
        refine ⟨by omega, ?_⟩
        rw [show t - a = (t - (a + 1)) + 1 by omega]
        exact h3
theorem shut_open {o c : Int} {s : List Int} {f t : Nat} (hoc : o ≠ c) (hf : f < s.length) (ho : nth s f = o) (h : shutS o c 0 f (s.drop f) = some t) : f < t ∧ t < s.length ∧ nth s t = c := by
  rw [shut_step hf, if_pos ho] at h
  have h1 : shutS o c (0 + 1) (f + 1) (s.drop (f + 1)) = some t := by simpa using h
  obtain ⟨h2, h3⟩ := shut_at hoc (by omega) h1
  have h4 := (shut_bd h1).2
  rw [List.length_drop] at h4
  rw [nth_drop, show f + 1 + (t - (f + 1)) = t by omega] at h3
  exact ⟨by omega, by omega, h3⟩
theorem quote_at {m : Int} {at_ e : Nat} {s : List Int} (he : e ≤ s.length) : ∀ (n i : Nat) (f : Option Nat) (a j : Nat), e - i = n → (∀ x, f = some x → x < i ∧ nth s x = m) → quoteL m at_ f i ((s.drop i).take (e - i)) = some (a, j) →
    a < j ∧ at_ ≤ j ∧ j < e ∧ nth s a = m ∧ nth s j = m
  | 0, i, f, a, j, hn, hf, h => by
    rw [quote_end (by omega)] at h
    cases h
  | n + 1, i, f, a, j, hn, hf, h => by
    rw [quote_step (by omega) he] at h
    by_cases hs : nth s i = m
    · rw [if_pos hs] at h
      cases f with
      | none => exact quote_at he n (i + 1) (some i) a j (by omega) (fun x hx => by cases hx; exact ⟨by omega, hs⟩) h
      | some b =>
        have hb := hf b rfl
        have h' : (if at_ ≤ i then some (b, i) else quoteL m at_ none (i + 1) ((s.drop (i + 1)).take (e - (i + 1)))) = some (a, j) := h
        by_cases hat : at_ ≤ i
        · rw [if_pos hat] at h'
          injection h' with h'
          injection h' with h1 h2
          subst h1 h2
          exact ⟨hb.1, hat, by omega, hb.2, hs⟩
        · rw [if_neg hat] at h'
          exact quote_at he n (i + 1) none a j (by omega) (fun x hx => by cases hx) h'
    · rw [if_neg hs] at h
      exact quote_at he n (i + 1) f a j (by omega) (fun x hx => ⟨by have := (hf x hx).1; omega, (hf x hx).2⟩) h

/-- What is told with around, and without. -/
def Around (s : List Int) (at_ : Nat) (o : Int) (f t F T : Nat) : Prop :=
  F ≤ f ∧ f ≤ t ∧ t ≤ T ∧ T ≤ s.length ∧ at_ < T ∧ ((o = 1 ∧ f ≤ at_ ∧ at_ < t ∧ (f = F ∨ t = T)) ∨ (o ≠ 1 ∧ f = F + 1 ∧ T = t + 1 ∧ nth s F = opS o ∧ nth s t = clS o))
theorem around_word {s : List Int} {at_ : Nat} (h : at_ < s.length) : (wordS s at_ false = none ∧ wordS s at_ true = none) ∨ ∃ f t F T, wordS s at_ false = some (f, t) ∧ wordS s at_ true = some (F, T) ∧ Around s at_ 1 f t F T := by
  by_cases hl : kdS (nth s at_) = 2
  · exact .inl ⟨wordS_none hl, wordS_none hl⟩
  · have h1 := wTo_gt h
    have h2 := wFrom_le s at_
    have h3 := fwdN_le blankK (s.drop (wTo s at_))
    rw [List.length_drop] at h3
    have e1 : wordS s at_ false = some (wFrom s at_, wTo s at_) := by
      unfold wordS
      rw [if_neg hl]
      rfl
    by_cases hz : fwdN blankK (s.drop (wTo s at_)) = 0
    · have e2 : wordS s at_ true = some (wFrom s at_ - backN blankK s (wFrom s at_), wTo s at_) := by
        unfold wordS
        rw [if_neg hl]
        simp [hz]
      exact .inr ⟨_, _, _, _, e1, e2, by omega, by omega, Nat.le_refl _, by omega, by omega, .inl ⟨rfl, h2, h1.1, .inr rfl⟩⟩
    · have e2 : wordS s at_ true = some (wFrom s at_, wTo s at_ + fwdN blankK (s.drop (wTo s at_))) := by
        unfold wordS
        rw [if_neg hl]
        simp [hz]
      exact .inr ⟨_, _, _, _, e1, e2, Nat.le_refl _, by omega, by omega, by omega, by omega, .inl ⟨rfl, h2, h1.1, .inl rfl⟩⟩
theorem around_pair {s : List Int} {at_ : Nat} {o c k : Int} (h : at_ < s.length) (hoc : o ≠ c) (hk : k ≠ 1) (ho : opS k = o) (hc : clS k = c) :
    (pairS s at_ o c false = none ∧ pairS s at_ o c true = none) ∨ ∃ f t F T, pairS s at_ o c false = some (f, t) ∧ pairS s at_ o c true = some (F, T) ∧ Around s at_ k f t F T := by
  cases hop : (if nth s at_ = o then some at_ else openS s o c 0 at_) with
  | none => exact .inl ⟨pairS_none1 hop, pairS_none1 hop⟩
  | some f =>
    have hf := opened_lt hop
    cases hsh : shutS o c 0 f (s.drop f) with
    | none => exact .inl ⟨pairS_none2 hop hsh, pairS_none2 hop hsh⟩
    | some t =>
      have h1 := pairS_some (around := false) hop hsh
      have h2 := pairS_some (around := true) hop hsh
      by_cases hlt : t < at_
      · rw [if_pos hlt] at h1 h2
        exact .inl ⟨h1, h2⟩
      · rw [if_neg hlt] at h1 h2
        obtain ⟨h3, h4, h5⟩ := shut_open hoc (by omega) hf.2 hsh
        exact .inr ⟨_, _, _, _, h1, h2, by omega, by omega, by omega, by omega, by omega, .inr ⟨hk, rfl, rfl, by rw [ho]; exact hf.2, by rw [hc]; exact h5⟩⟩
theorem around_quote {s : List Int} {at_ : Nat} {m k : Int} (h : at_ < s.length) (hk : k ≠ 1) (ho : opS k = m) (hc : clS k = m) :
    (quoteS s at_ m false = none ∧ quoteS s at_ m true = none) ∨ ∃ f t F T, quoteS s at_ m false = some (f, t) ∧ quoteS s at_ m true = some (F, T) ∧ Around s at_ k f t F T := by
  cases hq : quoteL m at_ none (lineB s at_) ((s.drop (lineB s at_)).take (lineE s at_ - lineB s at_)) with
  | none => exact .inl ⟨quoteS_none hq, quoteS_none hq⟩
  | some p =>
    obtain ⟨a, j⟩ := p
    have hE := lineE_le s (at_ := at_) (by omega)
    obtain ⟨h1, h2, h3, h4, h5⟩ := quote_at hE.2 _ _ _ _ _ rfl (fun x hx => by cases hx) hq
    exact .inr ⟨_, _, _, _, quoteS_some (around := false) hq, quoteS_some (around := true) hq, by omega, by omega, by omega, by omega, by omega, .inr ⟨hk, rfl, rfl, by rw [ho]; exact h4, by rw [hc]; exact h5⟩⟩
theorem around_law {s : List Int} {at_ : Nat} {o : Int} (h1 : 1 ≤ o) (h2 : o ≤ 6) :
    (objS s at_ o false = none ∧ objS s at_ o true = none) ∨ ∃ f t F T, objS s at_ o false = some (f, t) ∧ objS s at_ o true = some (F, T) ∧ Around s at_ o f t F T := by
  by_cases h : at_ < s.length
  · have e : ∀ b, objS s at_ o b = if o = 1 then wordS s at_ b else if o = 2 then pairS s at_ 40 41 b else if o = 3 then pairS s at_ 91 93 b
        else if o = 4 then pairS s at_ 123 125 b else if o = 5 then quoteS s at_ 34 b else if o = 6 then quoteS s at_ 39 b else none := fun b => by
      unfold objS
      rw [if_pos ⟨by omega, by omega⟩, Int.toNat_natCast]
    rw [e false, e true]
    have hc : o = 1 ∨ o = 2 ∨ o = 3 ∨ o = 4 ∨ o = 5 ∨ o = 6 := by omega
    rcases hc with rfl | rfl | rfl | rfl | rfl | rfl
    · exact around_word h
    · exact around_pair h (by omega) (by omega) rfl rfl
    · exact around_pair h (by omega) (by omega) rfl rfl
    · exact around_pair h (by omega) (by omega) rfl rfl
    · exact around_quote h (by omega) rfl rfl
    · exact around_quote h (by omega) rfl rfl
  · exact .inl ⟨objS_out (by omega), objS_out (by omega)⟩
end Go.Proofs.Ytkfihnkghiajiaa
