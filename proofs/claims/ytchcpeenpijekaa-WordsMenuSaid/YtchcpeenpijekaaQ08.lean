/- Pieces, joined: StmP, MenP. -/
import Derived.Test.YtchcpeenpijekaaQ03
import Derived.Test.YtchcpeenpijekaaQ07

/- Plain laws of Go's stable sort on a row of unlike numbers that rises: what each step keeps. No program in sight. -/
namespace Go.Proofs.Ytchcpeenpijekaa
open Go.RowKit
set_option linter.unusedVariables false
namespace Stm

/-- What a test on two elements must be: none is ahead of itself; it goes on through; and so does its being false. -/
structure Weak (lt : Int → Int → Bool) : Prop where
  irr : ∀ x, lt x x = false
  tr : ∀ x y z, lt x y = true → lt y z = true → lt x z = true
  ntr : ∀ x y z, lt x y = false → lt y z = false → lt x z = false
/-- Ahead by the test, or else by number. -/
def LtP (lt : Int → Int → Bool) (x y : Int) : Prop := lt x y = true ∨ (lt y x = false ∧ x < y)
section
variable {lt : Int → Int → Bool} (hw : Weak lt)
include hw
theorem Weak.asym {x y : Int} (h : lt x y = true) : lt y x = false := by
  cases e : lt y x
  · rfl
  · have := hw.tr x y x h e
    rw [hw.irr] at this
    cases this
theorem LtP.tr {x y z : Int} (h : LtP lt x y) (k : LtP lt y z) : LtP lt x z := by
  rcases h with h | ⟨h, h'⟩ <;> rcases k with k | ⟨k, k'⟩
  · exact .inl (hw.tr _ _ _ h k)
  · cases e : lt x z
    · have := hw.ntr x z y e k
      rw [h] at this
      cases this
    · exact .inl e
  · cases e : lt x z
    · have := hw.ntr y x z h e
      rw [k] at this
      cases this
    · exact .inl e
  · exact .inr ⟨hw.ntr _ _ _ k h, by omega⟩
theorem LtP.irr {x : Int} (h : LtP lt x x) : False := by
  rcases h with h | ⟨_, h⟩
  · rw [hw.irr] at h; cases h
  · omega
theorem LtP.asym {x y : Int} (h : LtP lt x y) (k : LtP lt y x) : False := (h.tr hw k).irr hw
end
/-- Of two elements of which the first has the lower number: the test alone tells. -/
theorem LtP.up {lt : Int → Int → Bool} {x y : Int} (h : x < y) : (lt y x = true → LtP lt y x) ∧ (lt y x = false → LtP lt x y) := ⟨.inl, fun e => .inr ⟨e, h⟩⟩

/-- From a on, ahead of b: sorted. -/
def Srt (lt : Int → Int → Bool) (l : List Int) (a b : Nat) : Prop := ∀ i j, a ≤ i → i < j → j < b → LtP lt (nth l i) (nth l j)
/-- Only elements from a on ahead of b have turned, each is one of those. -/
structure Sub (a b : Nat) (l l' : List Int) : Prop where
  len : l'.length = l.length
  out : ∀ i, i < a ∨ b ≤ i → nth l' i = nth l i
  in_ : ∀ i, a ≤ i → i < b → ∃ j, a ≤ j ∧ j < b ∧ nth l' i = nth l j
/-- The numbers ahead of p are lower than those from it on, as far as they lie from a on ahead of b. -/
def Cutl (l : List Int) (a p b : Nat) : Prop := ∀ i j, a ≤ i → i < p → p ≤ j → j < b → nth l i < nth l j

theorem Sub.refl (a b : Nat) (l : List Int) : Sub a b l l := ⟨rfl, fun _ _ => rfl, fun i h1 h2 => ⟨i, h1, h2, rfl⟩⟩
theorem Sub.trans {a b : Nat} {l l' l'' : List Int} (h : Sub a b l l') (k : Sub a b l' l'') : Sub a b l l'' :=
  ⟨k.len.trans h.len, fun i hi => (k.out i hi).trans (h.out i hi), fun i h1 h2 => by
    obtain ⟨j, j1, j2, e⟩ := k.in_ i h1 h2
    obtain ⟨q, q1, q2, e'⟩ := h.in_ j j1 j2
    exact ⟨q, q1, q2, e.trans e'⟩⟩
theorem Sub.wider {a b a' b' : Nat} {l l' : List Int} (h : Sub a b l l') (ha : a' ≤ a) (hb : b ≤ b') : Sub a' b' l l' :=
  ⟨h.len, fun i hi => h.out i (by omega), fun i h1 h2 => by
    by_cases hi : a ≤ i ∧ i < b
    · obtain ⟨j, j1, j2, e⟩ := h.in_ i hi.1 hi.2
      exact ⟨j, by omega, by omega, e⟩
    · exact ⟨i, h1, h2, h.out i (by omega)⟩⟩
/-- What holds of two parts holds still where each part has turned in itself. -/
theorem Cutl.sub {l l' : List Int} {a p b : Nat} (h : Cutl l a p b) {c d : Nat} (hs : Sub c d l l') (hp : d ≤ p ∨ p ≤ c) (hc : a ≤ c) (hd : d ≤ b) : Cutl l' a p b := fun i j h1 h2 h3 h4 => by
  have key : ∀ i, a ≤ i → i < b → ∃ q, a ≤ q ∧ q < b ∧ (i < p → q < p) ∧ (p ≤ i → p ≤ q) ∧ nth l' i = nth l q := fun i h1 h2 => by
    by_cases hi : c ≤ i ∧ i < d
    · obtain ⟨q, q1, q2, e⟩ := hs.in_ i hi.1 hi.2
      exact ⟨q, by omega, by omega, by omega, by omega, e⟩
    · exact ⟨i, h1, h2, id, id, hs.out i (by omega)⟩
  obtain ⟨q, q1, q2, q3, _, e1⟩ := key i h1 (by omega)
  obtain ⟨r, r1, r2, _, r4, e2⟩ := key j (by omega) h4
  rw [e1, e2]
  exact h q r q1 (q3 h2) (r4 h3) r2
theorem Srt.out {lt : Int → Int → Bool} {l l' : List Int} {a b c d : Nat} (h : Srt lt l a b) (hs : Sub c d l l') (hp : b ≤ c ∨ d ≤ a) : Srt lt l' a b := fun i j h1 h2 h3 => by
  rw [hs.out i (by omega), hs.out j (by omega)]
  exact h i j h1 h2 h3

/-! ## two elements change places -/
def swapL (l : List Int) (i j : Nat) : List Int := (l.set i (nth l j)).set j (nth l i)
theorem swapL_len (l : List Int) (i j : Nat) : (swapL l i j).length = l.length := by simp [swapL]
theorem swapL_nth {l : List Int} {i j : Nat} (hi : i < l.length) (hj : j < l.length) (k : Nat) : nth (swapL l i j) k = if k = j then nth l i else if k = i then nth l j else nth l k := by
  unfold swapL
  by_cases h1 : k = j
  · subst h1
    rw [if_pos rfl, nth_set_self (by simpa using hj)]
  · rw [if_neg h1, nth_set_other (fun e => h1 e.symm)]
    by_cases h2 : k = i
    · subst h2
      rw [if_pos rfl, nth_set_self hi]
    · rw [if_neg h2, nth_set_other (fun e => h2 e.symm)]

/-! ## an element moves down: from place i to place j -/
/-- l1 is l0 with the element from place i at place j, those between one place up. -/
structure Down (l0 l1 : List Int) (i j : Nat) : Prop where
  len : l1.length = l0.length
  lo : ∀ k, k < j ∨ i < k → nth l1 k = nth l0 k
  at_ : nth l1 j = nth l0 i
  mid : ∀ k, j < k → k ≤ i → nth l1 k = nth l0 (k - 1)
theorem Down.start (l : List Int) (i : Nat) : Down l l i i := ⟨rfl, fun _ _ => rfl, rfl, fun k h1 h2 => absurd h1 (by omega)⟩
theorem Down.step {l0 l1 : List Int} {i j : Nat} (h : Down l0 l1 i (j + 1)) (hj : j + 1 ≤ i) (hi : i < l0.length) : Down l0 (swapL l1 (j + 1) j) i j := by
  have hl := h.len
  have hn := fun k => swapL_nth (l := l1) (i := j + 1) (j := j) (by omega) (by omega) k
  refine ⟨by rw [swapL_len]; exact hl, fun k hk => ?_, ?_, fun k h1 h2 => ?_⟩
  · rw [hn, if_neg (by omega), if_neg (by omega)]
    exact h.lo k (by omega)
  · rw [hn, if_pos rfl]
    exact h.at_
  · rw [hn, if_neg (by omega)]
    by_cases e : k = j + 1
    · rw [if_pos e, h.lo j (by omega), e]
      rfl
    · rw [if_neg e]
      exact h.mid k (by omega) h2
theorem Down.sub {l0 l1 : List Int} {i j a b : Nat} (h : Down l0 l1 i j) (ha : a ≤ j) (hj : j ≤ i) (hb : i < b) : Sub a b l0 l1 :=
  ⟨h.len, fun k hk => h.lo k (by omega), fun k h1 h2 => by
    by_cases e : k < j ∨ i < k
    · exact ⟨k, h1, h2, h.lo k e⟩
    · by_cases e2 : k = j
      · exact ⟨i, by omega, hb, by rw [e2]; exact h.at_⟩
      · exact ⟨k - 1, by omega, by omega, h.mid k (by omega) (by omega)⟩⟩
/-- Where it has come behind all that it is not ahead of: sorted. -/
theorem Down.srt {lt : Int → Int → Bool} (hw : Weak lt) {l0 l1 : List Int} {a i j : Nat} (h : Down l0 l1 i j) (ha : a ≤ j) (hj : j ≤ i) (hs : Srt lt l0 a i) (h1 : ∀ k, j ≤ k → k < i → LtP lt (nth l0 i) (nth l0 k)) (h2 : ∀ k, a ≤ k → k < j → LtP lt (nth l0 k) (nth l0 i)) : Srt lt l1 a (i + 1) := by
  intro x y hx hxy hy
  have val : ∀ k, a ≤ k → k ≤ i → (k < j ∧ nth l1 k = nth l0 k) ∨ (k = j ∧ nth l1 k = nth l0 i) ∨ (j < k ∧ nth l1 k = nth l0 (k - 1)) := fun k q1 q2 => by
    rcases Nat.lt_trichotomy k j with e | e | e
    · exact .inl ⟨e, h.lo k (.inl e)⟩
    · exact .inr (.inl ⟨e, by rw [e]; exact h.at_⟩)
    · exact .inr (.inr ⟨e, h.mid k e q2⟩)
  rcases val x hx (by omega) with ⟨e1, v1⟩ | ⟨e1, v1⟩ | ⟨e1, v1⟩ <;> rcases val y (by omega) (by omega) with ⟨e2, v2⟩ | ⟨e2, v2⟩ | ⟨e2, v2⟩ <;> rw [v1, v2]
  · exact hs x y hx hxy (by omega)
  · exact h2 x hx e1
  · exact hs x (y - 1) hx (by omega) (by omega)
  · omega
  · omega
  · exact h1 (y - 1) (by omega) (by omega)
  · omega
  · omega
  · exact hs (x - 1) (y - 1) (by omega) (by omega) (by omega)

/-! ## an element moves up: from place i to place j -/
structure Up (l0 l1 : List Int) (i j : Nat) : Prop where
  len : l1.length = l0.length
  lo : ∀ k, k < i ∨ j < k → nth l1 k = nth l0 k
  at_ : nth l1 j = nth l0 i
  mid : ∀ k, i ≤ k → k < j → nth l1 k = nth l0 (k + 1)
theorem Up.start (l : List Int) (i : Nat) : Up l l i i := ⟨rfl, fun _ _ => rfl, rfl, fun k h1 h2 => absurd h1 (by omega)⟩
theorem Up.step {l0 l1 : List Int} {i j : Nat} (h : Up l0 l1 i j) (hj : i ≤ j) (hb : j + 1 < l0.length) : Up l0 (swapL l1 j (j + 1)) i (j + 1) := by
  have hl := h.len
  have hn := fun k => swapL_nth (l := l1) (i := j) (j := j + 1) (by omega) (by omega) k
  refine ⟨by rw [swapL_len]; exact hl, fun k hk => ?_, ?_, fun k h1 h2 => ?_⟩
  · rw [hn, if_neg (by omega), if_neg (by omega)]
    exact h.lo k (by omega)
  · rw [hn, if_pos rfl]
    exact h.at_
  · rw [hn, if_neg (by omega)]
    by_cases e : k = j
    · rw [if_pos e, h.lo (j + 1) (by omega), e]
    · rw [if_neg e]
      exact h.mid k h1 (by omega)
theorem Up.sub {l0 l1 : List Int} {i j a b : Nat} (h : Up l0 l1 i j) (ha : a ≤ i) (hj : i ≤ j) (hb : j < b) : Sub a b l0 l1 :=
  ⟨h.len, fun k hk => h.lo k (by omega), fun k h1 h2 => by
    by_cases e : k < i ∨ j < k
    · exact ⟨k, h1, h2, h.lo k e⟩
    · by_cases e2 : k = j
      · exact ⟨i, ha, by omega, by rw [e2]; exact h.at_⟩
      · exact ⟨k + 1, by omega, by omega, h.mid k (by omega) (by omega)⟩⟩
theorem Up.srt {lt : Int → Int → Bool} (hw : Weak lt) {l0 l1 : List Int} {i j b : Nat} (h : Up l0 l1 i j) (hj : i ≤ j) (hjb : j < b) (hs : Srt lt l0 (i + 1) b) (h1 : ∀ k, i < k → k ≤ j → LtP lt (nth l0 k) (nth l0 i)) (h2 : ∀ k, j < k → k < b → LtP lt (nth l0 i) (nth l0 k)) : Srt lt l1 i b := by
  intro x y hx hxy hy
  have val : ∀ k, i ≤ k → k < b → (k < j ∧ nth l1 k = nth l0 (k + 1)) ∨ (k = j ∧ nth l1 k = nth l0 i) ∨ (j < k ∧ nth l1 k = nth l0 k) := fun k q1 q2 => by
    rcases Nat.lt_trichotomy k j with e | e | e
    · exact .inl ⟨e, h.mid k q1 e⟩
    · exact .inr (.inl ⟨e, by rw [e]; exact h.at_⟩)
    · exact .inr (.inr ⟨e, h.lo k (.inr e)⟩)
  rcases val x hx (by omega) with ⟨e1, v1⟩ | ⟨e1, v1⟩ | ⟨e1, v1⟩ <;> rcases val y (by omega) hy with ⟨e2, v2⟩ | ⟨e2, v2⟩ | ⟨e2, v2⟩ <;> rw [v1, v2]
  · exact hs (x + 1) (y + 1) (by omega) (by omega) (by omega)
  · exact h1 (x + 1) (by omega) (by omega)
  · exact hs (x + 1) y (by omega) (by omega) hy
  · omega
  · omega
  · exact h2 y e2 hy
  · omega
  · omega
  · exact hs x y (by omega) hxy hy

/-! ## two rows beside each other change places -/
/-- What lay from a on ahead of m lies behind what lay from m on ahead of b. -/
structure Rot (l l' : List Int) (a m b : Nat) : Prop where
  len : l'.length = l.length
  out : ∀ k, k < a ∨ b ≤ k → nth l' k = nth l k
  lo : ∀ k, k < b - m → nth l' (a + k) = nth l (m + k)
  hi : ∀ k, k < m - a → nth l' (a + (b - m) + k) = nth l (a + k)
theorem Rot.sub {l l' : List Int} {a m b : Nat} (h : Rot l l' a m b) (ham : a ≤ m) (hmb : m ≤ b) : Sub a b l l' :=
  ⟨h.len, h.out, fun i h1 h2 => by
    by_cases e : i < a + (b - m)
    · exact ⟨m + (i - a), by omega, by omega, by rw [← h.lo (i - a) (by omega)]; congr 1; omega⟩
    · exact ⟨a + (i - a - (b - m)), by omega, by omega, by rw [← h.hi (i - a - (b - m)) (by omega)]; congr 1; omega⟩⟩

/-! ## the merge -/
/-- The halves of a merge: where they are parted, and how the parts lie to each other. -/
theorem merge_parts {lt : Int → Int → Bool} (hw : Weak lt) {l l' : List Int} {a m b mid start : Nat} (ham : a < m) (hmb : m < b) (hmid : mid = (a + b) / 2)
    (hs1 : Srt lt l a m) (hs2 : Srt lt l m b) (hc : Cutl l a m b)
    (hst1 : (if m > mid then mid + m - b else a) ≤ start) (hst2 : start ≤ (if m > mid then mid else m))
    (hlo : ∀ c, (if m > mid then mid + m - b else a) ≤ c → c < start → LtP lt (nth l c) (nth l (mid + m - 1 - c)))
    (hhi : ∀ c, start ≤ c → c < (if m > mid then mid else m) → LtP lt (nth l (mid + m - 1 - c)) (nth l c))
    (hr : Rot l l' start m (mid + m - start)) :
    Srt lt l' a start ∧ Srt lt l' start mid ∧ Srt lt l' mid (mid + m - start) ∧ Srt lt l' (mid + m - start) b ∧ Cutl l' a start mid ∧ Cutl l' mid (mid + m - start) b ∧
      (∀ i j, a ≤ i → i < mid → mid ≤ j → j < b → LtP lt (nth l' i) (nth l' j)) ∧ start ≤ mid ∧ mid ≤ mid + m - start ∧ mid + m - start ≤ b ∧ a ≤ start ∧ start ≤ m ∧ m ≤ mid + m - start := by
  have hsa : a ≤ start := by split at hst1 <;> omega
  have hsm : start ≤ m := by split at hst2 <;> omega
  have hsmid : start ≤ mid := by split at hst2 <;> omega
  have hend : mid + m - start ≤ b := by split at hst1 <;> omega
  have hme : m ≤ mid + m - start := by omega
  have v1 : ∀ k, a ≤ k → k < start → nth l' k = nth l k := fun k _ h2 => hr.out k (.inl h2)
  have v4 : ∀ k, mid + m - start ≤ k → k < b → nth l' k = nth l k := fun k h1 _ => hr.out k (.inr h1)
  have v2 : ∀ k, start ≤ k → k < mid → nth l' k = nth l (m + (k - start)) := fun k h1 h2 => by
    rw [← hr.lo (k - start) (by omega)]; congr 1; omega
  have v3 : ∀ k, mid ≤ k → k < mid + m - start → nth l' k = nth l (start + (k - mid)) := fun k h1 h2 => by
    rw [← hr.hi (k - mid) (by omega)]; congr 1; omega
  have lr : ∀ i j, a ≤ i → i < start → mid + m - start ≤ j → j < b → LtP lt (nth l i) (nth l j) := fun i j h1 h2 h3 h4 => by
    have hp := hlo (start - 1) (by split at hst1 <;> rename_i hmm <;> simp only [hmm, if_true, if_false, ite_true, ite_false] <;> omega) (by omega)
    rw [show mid + m - 1 - (start - 1) = mid + m - start by omega] at hp
    have q1 : i = start - 1 ∨ LtP lt (nth l i) (nth l (start - 1)) := by
      by_cases e : i = start - 1
      · exact .inl e
      · exact .inr (hs1 i (start - 1) h1 (by omega) (by omega))
    have q2 : j = mid + m - start ∨ LtP lt (nth l (mid + m - start)) (nth l j) := by
      by_cases e : j = mid + m - start
      · exact .inl e
      · exact .inr (hs2 (mid + m - start) j (by omega) (by omega) h4)
    rcases q1 with rfl | q1 <;> rcases q2 with rfl | q2
    · exact hp
    · exact hp.tr hw q2
    · exact q1.tr hw hp
    · exact (q1.tr hw hp).tr hw q2
  have rl : ∀ i j, m ≤ i → i < mid + m - start → start ≤ j → j < m → LtP lt (nth l i) (nth l j) := fun i j h1 h2 h3 h4 => by
    have hp := hhi start (Nat.le_refl _) (by split at hst2 <;> rename_i hmm <;> simp only [hmm, if_true, if_false, ite_true, ite_false] <;> omega)
    rw [show mid + m - 1 - start = mid + m - start - 1 by omega] at hp
    have q1 : i = mid + m - start - 1 ∨ LtP lt (nth l i) (nth l (mid + m - start - 1)) := by
      by_cases e : i = mid + m - start - 1
      · exact .inl e
      · exact .inr (hs2 i _ h1 (by omega) (by omega))
    have q2 : j = start ∨ LtP lt (nth l start) (nth l j) := by
      by_cases e : j = start
      · exact .inl e
      · exact .inr (hs1 start j hsa (by omega) h4)
    rcases q1 with rfl | q1 <;> rcases q2 with rfl | q2
    · exact hp
    · exact hp.tr hw q2
    · exact q1.tr hw hp
    · exact (q1.tr hw hp).tr hw q2
  refine ⟨fun i j h1 h2 h3 => ?_, fun i j h1 h2 h3 => ?_, fun i j h1 h2 h3 => ?_, fun i j h1 h2 h3 => ?_, fun i j h1 h2 h3 h4 => ?_, fun i j h1 h2 h3 h4 => ?_, fun i j h1 h2 h3 h4 => ?_, hsmid, by omega, hend, hsa, hsm, hme⟩
  · rw [v1 i h1 (by omega), v1 j (by omega) h3]
    exact hs1 i j h1 h2 (by omega)
  · rw [v2 i h1 (by omega), v2 j (by omega) h3]
    exact hs2 _ _ (by omega) (by omega) (by omega)
  · rw [v3 i h1 (by omega), v3 j (by omega) h3]
    exact hs1 _ _ (by omega) (by omega) (by omega)
  · rw [v4 i h1 (by omega), v4 j (by omega) h3]
    exact hs2 i j (by omega) h2 h3
  · rw [v1 i h1 h2, v2 j h3 h4]
    exact hc _ _ h1 (by omega) (by omega) (by omega)
  · rw [v3 i h1 h2, v4 j h3 h4]
    exact hc _ _ (by omega) (by omega) (by omega) h4
  · by_cases e1 : i < start <;> by_cases e2 : j < mid + m - start
    · rw [v1 i h1 e1, v3 j h3 e2]
      exact hs1 _ _ h1 (by omega) (by omega)
    · rw [v1 i h1 e1, v4 j (by omega) h4]
      exact lr i j h1 e1 (by omega) h4
    · rw [v2 i (by omega) h2, v3 j h3 e2]
      exact rl _ _ (by omega) (by omega) (by omega) (by omega)
    · rw [v2 i (by omega) h2, v4 j (by omega) h4]
      exact hs2 _ _ (by omega) (by omega) h4
/-- The halves, each sorted in itself, are the whole. -/
theorem merge_whole {lt : Int → Int → Bool} {l l1 l2 : List Int} {a mid b : Nat} (hx : ∀ i j, a ≤ i → i < mid → mid ≤ j → j < b → LtP lt (nth l i) (nth l j)) (h1 : Sub a mid l l1) (h2 : Sub mid b l1 l2) (s1 : Srt lt l1 a mid) (s2 : Srt lt l2 mid b) (ha : a ≤ mid) (hb : mid ≤ b) : Srt lt l2 a b := fun i j q1 q2 q3 => by
  by_cases e1 : j < mid
  · rw [h2.out i (by omega), h2.out j (by omega)]
    exact s1 i j q1 q2 e1
  · by_cases e2 : mid ≤ i
    · exact s2 i j e2 q2 q3
    · rw [h2.out i (by omega)]
      obtain ⟨p, p1, p2, e3⟩ := h1.in_ i q1 (by omega)
      obtain ⟨q, r1, r2, e4⟩ := h2.in_ j (by omega) q3
      rw [e3, e4, h1.out q (by omega)]
      exact hx p q p1 p2 r1 r2

/-- Sorted, of the same elements: there is one such row alone. -/
theorem sorted_one {lt : Int → Int → Bool} (hw : Weak lt) : ∀ {l r : List Int}, l.Pairwise (LtP lt) → r.Pairwise (LtP lt) → (∀ x, x ∈ l ↔ x ∈ r) → l = r
  | [], [], _, _, _ => rfl
  | [], y :: r, _, _, h => by have := (h y).2 (List.mem_cons_self ..); cases this
  | x :: l, [], _, _, h => by have := (h x).1 (List.mem_cons_self ..); cases this
  | x :: l, y :: r, hl, hr, h => by
    rw [List.pairwise_cons] at hl hr
    have exy : x = y := by
      rcases List.mem_cons.1 ((h x).1 (List.mem_cons_self ..)) with e | e
      · exact e
      · rcases List.mem_cons.1 ((h y).2 (List.mem_cons_self ..)) with e' | e'
        · exact e'.symm
        · exact absurd (hr.1 x e) (fun k => LtP.asym hw k (hl.1 y e'))
    subst exy
    have : l = r := sorted_one hw hl.2 hr.2 fun z => by
      constructor
      · intro hz
        rcases List.mem_cons.1 ((h z).1 (List.mem_cons_of_mem _ hz)) with e | e
        · subst e
          exact absurd (hl.1 z hz) (fun k => k.irr hw)
        · exact e
      · intro hz
        rcases List.mem_cons.1 ((h z).2 (List.mem_cons_of_mem _ hz)) with e | e
        · subst e
          exact absurd (hr.1 z hz) (fun k => k.irr hw)
        · exact e
    rw [this]
end Stm
end Go.Proofs.Ytchcpeenpijekaa

/- Plain laws of the menu: items by their counts, those of one count by their words; what begins with a prefix. No program in sight. -/
namespace Go.Proofs.Ytchcpeenpijekaa
open Go.RowKit
set_option linter.unusedVariables false

/-- Ahead in a menu. -/
def betB (x y : Itm) : Bool := decide (y.2 < x.2) || (decide (x.2 = y.2) && lessS x.1 y.1)
theorem betB_iff {x y : Itm} : betB x y = true ↔ y.2 < x.2 ∨ (x.2 = y.2 ∧ lessS x.1 y.1 = true) := by simp [betB]
theorem bet_irr (x : Itm) : ¬ betB x x = true := by rw [betB_iff, less_irr]; simp
theorem bet_asym (x y : Itm) (h : betB x y = true) : ¬ betB y x = true := by
  rw [betB_iff] at *
  rintro (k | ⟨k1, k2⟩)
  · rcases h with h | ⟨h, _⟩ <;> omega
  · rcases h with h | ⟨_, h⟩
    · omega
    · rw [less_asym h] at k2; cases k2
theorem bet_trans {x y z : Itm} (h : betB x y = true) (k : betB y z = true) : betB x z = true := by
  rw [betB_iff] at *
  rcases h with h | ⟨h1, h2⟩ <;> rcases k with k | ⟨k1, k2⟩
  · exact .inl (by omega)
  · exact .inl (by omega)
  · exact .inl (by omega)
  · exact .inr ⟨by omega, less_trans h2 k2⟩
theorem bet_ext {l l' : List Itm} (h : l.Pairwise fun x y => betB x y = true) (h' : l'.Pairwise fun x y => betB x y = true) (e : ∀ x, x ∈ l ↔ x ∈ l') : l = l' :=
  asc_ext (R := fun x y : Itm => betB x y = true) bet_irr bet_asym h h' e
/-- How many of a row's first items stay ahead of a new one. -/
def keepN (x : Itm) (l : List Itm) : Nat → Nat
  | 0 => 0
  | k + 1 => match l[k]? with | some y => if betB x y = true then keepN x l k else k + 1 | none => 0
def insI (l : List Itm) (x : Itm) : List Itm := l.take (keepN x l l.length) ++ [x] ++ l.drop (keepN x l l.length)
def topL (L : List Itm) : List Itm := L.foldl insI []
theorem keepN_le (x : Itm) (l : List Itm) : ∀ k, keepN x l k ≤ k
  | 0 => Nat.le_refl _
  | k + 1 => by
    have := keepN_le x l k
    unfold keepN
    split
    · split <;> omega
    · omega
theorem keepN_gt {x : Itm} {l : List Itm} : ∀ k, k ≤ l.length → ∀ j y, keepN x l k ≤ j → j < k → l[j]? = some y → betB x y = true
  | 0, _, j, y, _, h, _ => by omega
  | k + 1, hk, j, y, h1, h2, hy => by
    unfold keepN at h1
    rw [List.getElem?_eq_getElem (show k < l.length by omega)] at h1
    dsimp only at h1
    split at h1
    · rename_i hb
      by_cases e : j = k
      · subst e
        rw [List.getElem?_eq_getElem (by omega)] at hy
        injection hy with hy
        rw [← hy]; exact hb
      · exact keepN_gt k (by omega) j y h1 (by omega) hy
    · omega
theorem keepN_last {x : Itm} {l : List Itm} : ∀ k, k ≤ l.length → ∀ i y, keepN x l k = i + 1 → l[i]? = some y → ¬ betB x y = true
  | 0, _, i, y, h, _ => by cases h
  | k + 1, hk, i, y, h1, hy => by
    unfold keepN at h1
    rw [List.getElem?_eq_getElem (show k < l.length by omega)] at h1
    dsimp only at h1
    split at h1
    · exact keepN_last k (by omega) i y h1 hy
    · rename_i hb
      obtain rfl : k = i := by omega
      rw [List.getElem?_eq_getElem (by omega)] at hy
      injection hy with hy
      rw [← hy]; exact hb
theorem bet_total {x y : Itm} (h : x.1 ≠ y.1) (hb : ¬ betB x y = true) : betB y x = true := by
  rw [betB_iff] at *
  by_cases e : y.2 = x.2
  · refine .inr ⟨e, ?_⟩
    refine less_of_not (fun k => hb (.inr ⟨e.symm, k⟩)) h
  · left
    omega
theorem insI_sorted {l : List Itm} {x : Itm} (hl : l.Pairwise fun x y => betB x y = true) (hx : ∀ y ∈ l, x.1 ≠ y.1) : (insI l x).Pairwise fun x y => betB x y = true := by
  have hle := keepN_le x l l.length
  have hgt := keepN_gt (x := x) (l := l) l.length (Nat.le_refl _)
  have hla := keepN_last (x := x) (l := l) l.length (Nat.le_refl _)
  unfold insI
  generalize keepN x l l.length = k at hle hgt hla
  have hsp : l.take k ++ l.drop k = l := List.take_append_drop _ _
  have hp := hl
  rw [← hsp, List.pairwise_append] at hp
  obtain ⟨p1, p2, p3⟩ := hp
  have hd : ∀ y ∈ l.drop k, betB x y = true := fun y hy => by
    obtain ⟨j, hj⟩ := List.getElem?_of_mem hy
    rw [List.getElem?_drop] at hj
    exact hgt (k + j) y (by omega) (List.getElem?_eq_some_iff.1 hj).1 hj
  have ht : ∀ y ∈ l.take k, betB y x = true := fun y hy => by
    cases k with
    | zero => simp at hy
    | succ i =>
      have hi : i < l.length := by omega
      have h0 := hla i l[i] rfl (List.getElem?_eq_getElem hi)
      have h1 := bet_total (hx l[i] (List.getElem_mem hi)) h0
      rw [List.take_succ_eq_append_getElem hi] at hy
      rcases List.mem_append.1 hy with hy | hy
      · have h2 : (l.take (i + 1)).Pairwise fun x y => betB x y = true := p1
        rw [List.take_succ_eq_append_getElem hi, List.pairwise_append] at h2
        exact bet_trans (h2.2.2 y hy l[i] (List.mem_singleton.2 rfl)) h1
      · rw [List.mem_singleton.1 hy]; exact h1
  rw [List.append_assoc, List.pairwise_append]
  refine ⟨p1, ?_, fun y hy z hz => ?_⟩
  · rw [List.singleton_append, List.pairwise_cons]
    exact ⟨hd, p2⟩
  · rw [List.singleton_append, List.mem_cons] at hz
    rcases hz with rfl | hz
    · exact ht y hy
    · exact p3 y hy z hz
theorem insI_mem {l : List Itm} {x y : Itm} : y ∈ insI l x ↔ y = x ∨ y ∈ l := by
  unfold insI
  generalize keepN x l l.length = k
  rw [List.mem_append, List.mem_append, List.mem_singleton]
  conv => rhs; rw [← List.take_append_drop k l, List.mem_append]
  constructor
  · rintro ((h | h) | h)
    · exact .inr (.inl h)
    · exact .inl h
    · exact .inr (.inr h)
  · rintro (h | h | h)
    · exact .inl (.inr h)
    · exact .inl (.inl h)
    · exact .inr h
theorem insI_len (l : List Itm) (x : Itm) : (insI l x).length = l.length + 1 := by
  have hle := keepN_le x l l.length
  unfold insI
  rw [List.length_append, List.length_append, List.length_take, List.length_drop, List.length_singleton]
  omega
/-- What the insertion of a bag's items makes: in order, the same items. -/
theorem fold_ok : ∀ (L l : List Itm), L.Pairwise (fun x y => lessS x.1 y.1 = true) → (∀ x ∈ L, ∀ y ∈ l, x.1 ≠ y.1) → l.Pairwise (fun x y => betB x y = true) → (L.foldl insI l).Pairwise (fun x y => betB x y = true) ∧ (∀ z, z ∈ L.foldl insI l ↔ z ∈ L ∨ z ∈ l) ∧ (L.foldl insI l).length = L.length + l.length
  | [], l, _, _, h => ⟨h, fun z => by simp, by simp⟩
  | x :: L, l, h1, h2, h3 => by
    rw [List.pairwise_cons] at h1
    obtain ⟨q1, q2, q3⟩ := fold_ok L (insI l x) h1.2 (fun a ha b hb => by
      rcases insI_mem.1 hb with e | hb
      · rw [e]; exact fun e => less_ne (h1.1 a ha) e.symm
      · exact h2 a (List.mem_cons_of_mem _ ha) b hb) (insI_sorted h3 (h2 x List.mem_cons_self))
    refine ⟨q1, fun z => ?_, ?_⟩
    · rw [List.foldl_cons, q2 z, insI_mem, List.mem_cons]
      constructor
      · rintro (h | h | h)
        · exact .inl (.inr h)
        · exact .inl (.inl h)
        · exact .inr h
      · rintro ((h | h) | h)
        · exact .inr (.inl h)
        · exact .inl h
        · exact .inr (.inr h)
    · rw [List.foldl_cons, q3, insI_len, List.length_cons]
      omega
theorem top_ok {L : List Itm} (h : BagW L) : (topL L).Pairwise (fun x y => betB x y = true) ∧ (∀ z, z ∈ topL L ↔ z ∈ L) ∧ (topL L).length = L.length := by
  obtain ⟨q1, q2, q3⟩ := fold_ok L [] h.asc (fun x _ y hy => by cases hy) List.Pairwise.nil
  exact ⟨q1, fun z => by rw [topL, q2 z]; simp, by rw [topL, q3]; simp⟩
/-- What the stable sort leaves: the same. -/
theorem sorted_top {L : List Itm} (h : BagW L) {F : Int → Itm} (hF : ∀ (i : Nat) (x : Itm), L[i]? = some x → F (i : Int) = x) {lt : Int → Int → Bool} (hlt : ∀ x y, lt x y = decide ((F y).2 < (F x).2)) {l l' : List Int} (hl : ∀ j, j < L.length → nth l j = j) (hn : l.length = L.length) (hs : Stm.Sub 0 L.length l l') (ht : Stm.Srt lt l' 0 L.length) :
    l'.map F = topL L := by
  have hn' : l'.length = L.length := hs.len.trans hn
  have val : ∀ i, i < L.length → ∃ j, j < L.length ∧ nth l' i = (j : Int) := fun i hi => by
    obtain ⟨j, _, h2, e⟩ := hs.in_ i (Nat.zero_le _) hi
    exact ⟨j, h2, by rw [e, hl j h2]⟩
  have hpw : (l'.map F).Pairwise fun x y => betB x y = true := by
    rw [List.pairwise_map, List.pairwise_iff_getElem]
    intro i j hi hj hij
    have h1 := ht i j (Nat.zero_le _) hij (by omega)
    rw [nth_eq hi, nth_eq hj] at h1
    obtain ⟨a, ha, ea⟩ := val i (by omega)
    obtain ⟨b, hb, eb⟩ := val j (by omega)
    rw [nth_eq hi] at ea
    rw [nth_eq hj] at eb
    rw [ea, eb] at h1 ⊢
    rw [betB_iff]
    rcases h1 with h1 | ⟨h1, h2⟩
    · rw [hlt] at h1
      exact .inl (of_decide_eq_true h1)
    · rw [hlt] at h1
      have h3 := of_decide_eq_false h1
      by_cases e : (F (b : Int)).2 < (F (a : Int)).2
      · exact .inl e
      · refine .inr ⟨by omega, ?_⟩
        rw [hF a L[a] (List.getElem?_eq_getElem ha), hF b L[b] (List.getElem?_eq_getElem hb)]
        exact List.pairwise_iff_getElem.1 h.asc a b ha hb (by omega)
  obtain ⟨t1, t2, t3⟩ := top_ok h
  refine bet_ext hpw t1 fun x => ?_
  have hsub : ∀ x, x ∈ l'.map F → x ∈ L := fun x hx => by
    obtain ⟨y, hy, rfl⟩ := List.mem_map.1 hx
    obtain ⟨i, hi⟩ := List.getElem?_of_mem hy
    obtain ⟨hi', rfl⟩ := List.getElem?_eq_some_iff.1 hi
    obtain ⟨a, ha, ea⟩ := val i (by omega)
    rw [nth_eq hi'] at ea
    rw [ea, hF a L[a] (List.getElem?_eq_getElem ha)]
    exact List.getElem_mem ha
  rw [t2]
  constructor
  · exact hsub x
  · intro hx
    -- as many unlike items as there are
    have hnd : (l'.map F).Nodup := List.Pairwise.imp (fun {a b} h => fun (e : a = b) => bet_irr a (by rw [← e] at h; exact h)) hpw
    refine Classical.byContradiction fun hno => ?_
    have h1 := nodup_sub (l := x :: l'.map F) (k := L) (List.nodup_cons.2 ⟨hno, hnd⟩) fun y hy => by
      rcases List.mem_cons.1 hy with rfl | hy
      · exact hx
      · exact hsub y hy
    rw [List.length_cons, List.length_map, hn'] at h1
    omega
end Go.Proofs.Ytchcpeenpijekaa
