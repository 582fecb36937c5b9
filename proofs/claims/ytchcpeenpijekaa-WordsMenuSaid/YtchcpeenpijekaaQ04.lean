/- Pieces, joined: WrdA, WrdP. -/
import Derived.Test.YtchcpeenpijekaaQ02
import Derived.Test.YtchcpeenpijekaaQ03

/- A word's elements; how many of them stand right ahead of a place: words.of, words.Ahead, and the reference's. -/
namespace Go.Proofs.Ytchcpeenpijekaa
open Go.RowKit
set_option linter.unusedVariables false

def wrdS (r : Int) : Bool := decide (clsS r = 3)
theorem of_any (r : Int) (w : World) : Calls Try.prog 54 #[.int .i32 r] w fun e w' => e = .returned (.bool (wrdS r)) ∧ w = w' := by
  go_enter Try.func54, Try.ntmps54
  go_wp2_with fail
  refine (class_any _ _).mono ?_
  rintro e w' ⟨rfl, rfl⟩
  go_wp2
  go_ret
  exact ⟨retB (by unfold wrdS; first | rfl | simp), rfl⟩

/-- How many of a word's elements stand right ahead of a place. -/
def aheadN (s : List Int) : Nat → Nat
  | 0 => 0
  | k + 1 => if wrdS (nth s k) = true then aheadN s k + 1 else 0
theorem aheadN_le (s : List Int) : ∀ k, aheadN s k ≤ k
  | 0 => Nat.le_refl _
  | k + 1 => by
    have := aheadN_le s k
    unfold aheadN
    split <;> omega
def aheadS (s : List Int) (at_ : Int) : Nat := if 0 ≤ at_ ∧ at_ ≤ s.length then aheadN s at_.toNat else 0

set_option maxHeartbeats 2000000 in
theorem ahead_any (S : Option Addr) (k d : Nat) (at_ : Int) (s : List Int) (w : World) (h : Runes w S k s) (hk : k ≤ 9223372036854775807) :
    Calls Try.prog 58 #[.slice S k d, .int .i64 at_] w fun e w' => e = .returned (.int .i64 (aheadS s at_ : Int)) ∧ w = w' := by
  have HL := hide h.len
  go_enter Try.func58, Try.ntmps58
  by_cases h0 : at_ < 0
  · go_wp2_with fail
    go_ret
    exact ⟨retI (by unfold aheadS; rw [if_neg (by omega)]; rfl), rfl⟩
  by_cases h1 : (k : Int) < at_
  · go_wp2_with fail
    go_ret
    exact ⟨retI (by unfold aheadS; rw [HL.out, if_neg (by omega)]; rfl), rfl⟩
  obtain ⟨a, rfl⟩ : ∃ a : Nat, at_ = a := ⟨at_.toNat, by omega⟩
  have hak : a ≤ k := by omega
  have HE := hide (show aheadS s (a : Int) = aheadN s a by unfold aheadS; rw [HL.out, if_pos (by omega)]; rfl)
  go_wp2_with fail
  go_loop [5] (fun n => ∃ j : Nat, j ≤ a ∧ n = .int .i64 j ∧ Hid (j + aheadN s (a - j) = aheadN s a)) (fun n => a - (intOf n).toNat)
  case atStart => exact ⟨0, Nat.zero_le _, rfl, by show 0 + aheadN s (a - 0) = _; rw [Nat.zero_add, Nat.sub_zero]⟩
  case round =>
    obtain ⟨j, hj, rfl, hst⟩ := hrel
    by_cases hja : j < a
    · obtain ⟨i, hi⟩ : ∃ i, a - j = i + 1 := ⟨a - j - 1, by omega⟩
      obtain ⟨b, o, rfl, hc⟩ := h.at_ i (by omega)
      have i0 : (0 : Int) ≤ (i : Int) := by omega
      have i1 : (i : Int) < (k : Int) := by omega
      have v1 : IntKind.i64.wrap ((a : Int) - (j : Int)) = (i : Int) + 1 := by rw [IntWalk.i64_in _ (by omega)]; omega
      have v2 : IntKind.i64.wrap ((i : Int) + 1 - 1) = (i : Int) := by rw [IntWalk.i64_in _ (by omega)]; omega
      have v3 : (a : Int) - (j : Int) = (i : Int) + 1 := by omega
      have HI := hide hi
      have hst2 := hst.out
      rw [hi] at hst2
      have e : aheadN s (i + 1) = if wrdS (nth s i) = true then aheadN s i + 1 else 0 := rfl
      rw [e] at hst2
      clear e hi hst
      generalize nth s i = r at hc hst2
      cases hw : wrdS r
      · rw [hw] at hst2
        have HS := hide hst2
        have HW := hide hw
        clear hst2 hw
        go_wp2_with fail
        refine (of_any _ _).mono ?_
        rw [HW.out]
        rintro e w' ⟨rfl, rfl⟩
        go_wp2_with fail
        go_ret
        exact ⟨retI (by rw [HE.out]; have := HS.out; simp at this; omega), rfl⟩
      · rw [hw] at hst2
        have HS := hide hst2
        have HW := hide hw
        clear hst2 hw
        go_wp2_with fail
        refine (of_any _ _).mono ?_
        rw [HW.out]
        rintro e w' ⟨rfl, rfl⟩
        go_wp2_with fail
        go_round
        case rel => exact ⟨j + 1, by omega, by go_num, by
          have := HS.out
          simp at this
          have hi := HI.out
          show j + 1 + aheadN s (a - (j + 1)) = _
          rw [show a - (j + 1) = i by omega]
          omega⟩
        case measure => simp [intOf]; omega
    · have hj' : j = a := by omega
      go_wp2_with fail
      go_ret
      exact ⟨retI (by rw [HE.out]; have := hst.out; rw [hj', Nat.sub_self] at this; simp [aheadN] at this; omega), rfl⟩

theorem rword_any (r : Int) (w : World) : Calls Try.prog 55 #[.int .i32 r] w fun e w' => e = .returned (.bool (wrdS r)) ∧ w = w' := by
  go_enter Try.func55, Try.ntmps55
  go_wp2_with fail
  refine (rclass_any _ _).mono ?_
  rintro e w' ⟨rfl, rfl⟩
  go_wp2
  go_ret
  exact ⟨retB (by unfold wrdS; first | rfl | simp), rfl⟩

set_option maxRecDepth 100000 in
set_option maxHeartbeats 2000000 in
theorem rahead_any (S : Option Addr) (k d : Nat) (at_ : Int) (s : List Int) (w : World) (h : Runes w S k s) (hk : k ≤ 9223372036854775807) :
    Calls Try.prog 59 #[.slice S k d, .int .i64 at_] w fun e w' => e = .returned (.int .i64 (aheadS s at_ : Int)) ∧ w = w' := by
  have HL := hide h.len
  by_cases h0 : at_ < 0
  · have HE := hide (show aheadS s at_ = 0 by unfold aheadS; rw [if_neg (by omega)])
    have d0 : ¬ ((0 : Int) ≤ at_) := by omega
    go_enter Try.func59, Try.ntmps59
    go_wp2_with fail
    go_loop [5] (fun n => n = .int .i64 0) (fun _ => 0)
    case atStart => rfl
    case round =>
      subst hrel
      go_wp2_with fail
      go_ret
      exact ⟨retI (by rw [HE.out]; rfl), rfl⟩
  by_cases h1 : (k : Int) < at_
  · have HE := hide (show aheadS s at_ = 0 by unfold aheadS; rw [HL.out, if_neg (by omega)])
    have d0 : (0 : Int) ≤ at_ := by omega
    have d1 : ¬ (at_ ≤ (k : Int)) := by omega
    clear h0
    go_enter Try.func59, Try.ntmps59
    go_wp2_with fail
    go_loop [5] (fun n => n = .int .i64 0) (fun _ => 0)
    case atStart => rfl
    case round =>
      subst hrel
      go_wp2_with fail
      go_ret
      exact ⟨retI (by rw [HE.out]; rfl), rfl⟩
  obtain ⟨a, rfl⟩ : ∃ a : Nat, at_ = a := ⟨at_.toNat, by omega⟩
  have hak : a ≤ k := by omega
  have HE := hide (show aheadS s (a : Int) = aheadN s a by unfold aheadS; rw [HL.out, if_pos (by omega)]; rfl)
  clear h0 h1
  have d0 : (0 : Int) ≤ (a : Int) := by omega
  have d1 : (a : Int) ≤ (k : Int) := by omega
  go_enter Try.func59, Try.ntmps59
  go_wp2_with fail
  go_loop [5] (fun n => ∃ j : Nat, j ≤ a ∧ n = .int .i64 j ∧ Hid (j + aheadN s (a - j) = aheadN s a)) (fun n => a - (intOf n).toNat)
  case atStart => exact ⟨0, Nat.zero_le _, rfl, by show 0 + aheadN s (a - 0) = _; rw [Nat.zero_add, Nat.sub_zero]⟩
  case round =>
    obtain ⟨j, hj, rfl, hst⟩ := hrel
    by_cases hja : j < a
    · obtain ⟨i, hi⟩ : ∃ i, a - j = i + 1 := ⟨a - j - 1, by omega⟩
      obtain ⟨b, o, rfl, hc⟩ := h.at_ i (by omega)
      have i0 : (0 : Int) ≤ (i : Int) := by omega
      have i1 : (i : Int) < (k : Int) := by omega
      have i2 : (1 : Int) ≤ (a : Int) := by omega
      have v3 : (a : Int) - 1 - (j : Int) = (i : Int) := by omega
      have HI := hide hi
      have hst2 := hst.out
      rw [hi] at hst2
      have e : aheadN s (i + 1) = if wrdS (nth s i) = true then aheadN s i + 1 else 0 := rfl
      rw [e] at hst2
      clear e hi hst
      generalize nth s i = r at hc hst2
      cases hw : wrdS r
      · rw [hw] at hst2
        have HS := hide hst2
        have HW := hide hw
        clear hst2 hw
        go_wp2_with fail
        refine (rword_any _ _).mono ?_
        rw [HW.out]
        rintro e w' ⟨rfl, rfl⟩
        go_wp2_with fail
        go_ret
        exact ⟨retI (by rw [HE.out]; have := HS.out; simp at this; omega), rfl⟩
      · rw [hw] at hst2
        have HS := hide hst2
        have HW := hide hw
        clear hst2 hw
        go_wp2_with fail
        refine (rword_any _ _).mono ?_
        rw [HW.out]
        rintro e w' ⟨rfl, rfl⟩
        go_wp2_with fail
        go_round
        case rel => exact ⟨j + 1, by omega, by go_num, by
          have := HS.out
          simp at this
          have hi := HI.out
          show j + 1 + aheadN s (a - (j + 1)) = _
          rw [show a - (j + 1) = i by omega]
          omega⟩
        case measure => simp [intOf]; omega
    · have hj' : j = a := by omega
      have HJ := hide hj'
      clear hj'
      go_wp2_with fail
      go_ret
      exact ⟨retI (by rw [HE.out]; have := hst.out; rw [HJ.out, Nat.sub_self] at this; simp [aheadN] at this; have := HJ.out; omega), rfl⟩

end Go.Proofs.Ytchcpeenpijekaa

/- Plain laws of a text's words: where they stand; which one a place touches. No program in sight. -/
namespace Go.Proofs.Ytchcpeenpijekaa
open Go.RowKit
set_option linter.unusedVariables false

/-- The spans from place i on; f: where the word begins in which i stands. -/
def spG : Nat → Option Nat → List Int → List (Nat × Nat)
  | i, none, [] => []
  | i, some f, [] => [(f, i)]
  | i, none, x :: r => if wrdS x = true then spG (i + 1) (some i) r else spG (i + 1) none r
  | i, some f, x :: r => if wrdS x = true then spG (i + 1) (some f) r else (f, i) :: spG (i + 1) none r
def spansS (s : List Int) : List (Nat × Nat) := spG 0 none s
/-- Where the word begins that the search is in: at a, if it has gone on from there. -/
def curW (a k : Nat) : Option Nat := if a < k then some a else none
section
variable {s : List Int} {a k : Nat}
theorem drop_nth (h : k < s.length) : s.drop k = nth s k :: s.drop (k + 1) := by
  rw [List.drop_eq_getElem_cons h, nth_eq h]
theorem spG_on (hk : k < s.length) (hak : a ≤ k) (hw : wrdS (nth s k) = true) : spG k (curW a k) (s.drop k) = spG (k + 1) (curW a (k + 1)) (s.drop (k + 1)) := by
  rw [drop_nth hk]
  unfold curW
  rw [if_pos (show a < k + 1 by omega)]
  by_cases h : a < k
  · rw [if_pos h]
    show (if wrdS (nth s k) = true then _ else _) = _
    rw [if_pos hw]
  · obtain rfl : a = k := by omega
    rw [if_neg h]
    show (if wrdS (nth s a) = true then _ else _) = _
    rw [if_pos hw]
theorem spG_end (hak : a ≤ k) (hk : s.length ≤ k ∨ wrdS (nth s k) = false) : spG k (curW a k) (s.drop k) = (if a < k then [(a, k)] else []) ++ spG (k + 1) none (s.drop (k + 1)) := by
  by_cases hl : k < s.length
  · have hw : ¬ wrdS (nth s k) = true := by
      rcases hk with h | h
      · omega
      · rw [h]; decide
    rw [drop_nth hl]
    unfold curW
    by_cases h : a < k
    · rw [if_pos h, if_pos h]
      show (if wrdS (nth s k) = true then _ else _) = _
      rw [if_neg hw]
      rfl
    · rw [if_neg h, if_neg h]
      show (if wrdS (nth s k) = true then _ else _) = _
      rw [if_neg hw]
      rfl
  · rw [List.drop_eq_nil_of_le (by omega), List.drop_eq_nil_of_le (by omega)]
    unfold curW
    by_cases h : a < k
    · rw [if_pos h, if_pos h]; rfl
    · rw [if_neg h, if_neg h]; rfl
theorem cur_self (a : Nat) : curW a a = none := if_neg (Nat.lt_irrefl a)

/-- A word: from f to t, elements of a word on it, none on its sides. -/
structure IsWord (s : List Int) (f t : Nat) : Prop where
  lt : f < t
  le : t ≤ s.length
  in_ : ∀ i, f ≤ i → i < t → wrdS (nth s i) = true
  lo : 0 < f → wrdS (nth s (f - 1)) = false
  hi : t < s.length → wrdS (nth s t) = false
/-- What the spans from place i on are. -/
structure SpOk (s : List Int) (i : Nat) (L : List (Nat × Nat)) : Prop where
  word : ∀ p ∈ L, IsWord s p.1 p.2 ∧ i ≤ p.1
  asc : L.Pairwise fun p q => p.2 < q.1
  all : ∀ j, i ≤ j → j < s.length → wrdS (nth s j) = true → ∃ p ∈ L, p.1 ≤ j ∧ j < p.2
theorem spG_ok : ∀ (n k : Nat) (s : List Int) (a : Nat), s.length - k ≤ n → k ≤ s.length → a ≤ k → (∀ i, a ≤ i → i < k → wrdS (nth s i) = true) → (0 < a → wrdS (nth s (a - 1)) = false) → SpOk s a (spG k (curW a k) (s.drop k)) := by
  intro n
  induction n with
  | zero =>
    intro k s a hn hk ha hin hlo
    rw [spG_end ha (.inl (by omega)), List.drop_eq_nil_of_le (by omega)]
    have hz : spG (k + 1) none ([] : List Int) = [] := rfl
    rw [hz, List.append_nil]
    by_cases h : a < k
    · rw [if_pos h]
      refine ⟨fun p hp => ?_, List.pairwise_singleton _ _, fun j h1 h2 h3 => ⟨(a, k), List.mem_singleton.2 rfl, h1, by dsimp only; omega⟩⟩
      rw [List.mem_singleton.1 hp]
      exact ⟨⟨h, hk, hin, hlo, fun h => by dsimp only at h; omega⟩, Nat.le_refl _⟩
    · rw [if_neg h]
      exact ⟨(fun p hp => by cases hp), List.Pairwise.nil, fun j h1 h2 h3 => by omega⟩
  | succ n ih =>
    intro k s a hn hk ha hin hlo
    by_cases hl : k < s.length
    · by_cases hw : wrdS (nth s k) = true
      · rw [spG_on hl ha hw]
        refine ih (k + 1) s a (by omega) (by omega) (by omega) (fun i h1 h2 => ?_) hlo
        by_cases e : i = k
        · rw [e]; exact hw
        · exact hin i h1 (by omega)
      · have hw' : wrdS (nth s k) = false := by simpa using hw
        rw [spG_end ha (.inr hw')]
        have h2 := ih (k + 1) s (k + 1) (by omega) (by omega) (Nat.le_refl _) (fun i h1 h2 => by omega) (fun _ => by rw [Nat.add_sub_cancel]; exact hw')
        rw [cur_self] at h2
        by_cases h : a < k
        · rw [if_pos h]
          refine ⟨fun p hp => ?_, ?_, fun j h3 h4 h5 => ?_⟩
          · rcases List.mem_append.1 hp with hp | hp
            · rw [List.mem_singleton.1 hp]
              exact ⟨⟨h, hk, hin, hlo, fun _ => hw'⟩, Nat.le_refl _⟩
            · obtain ⟨q1, q2⟩ := h2.word p hp
              exact ⟨q1, by omega⟩
          · rw [List.singleton_append, List.pairwise_cons]
            exact ⟨fun p hp => by have := (h2.word p hp).2; dsimp only; omega, h2.asc⟩
          · by_cases h6 : j < k
            · exact ⟨(a, k), List.mem_append_left _ (List.mem_singleton.2 rfl), h3, h6⟩
            · have h7 : j ≠ k := fun e => hw (by rw [← e]; exact h5)
              obtain ⟨p, q1, q2⟩ := h2.all j (by omega) h4 h5
              exact ⟨p, List.mem_append_right _ q1, q2⟩
        · rw [if_neg h, List.nil_append]
          refine ⟨fun p hp => ?_, h2.asc, fun j h3 h4 h5 => ?_⟩
          · obtain ⟨q1, q2⟩ := h2.word p hp
            exact ⟨q1, by omega⟩
          · have h7 : j ≠ k := fun e => hw (by rw [← e]; exact h5)
            exact h2.all j (by omega) h4 h5
    · exact ih k s a (by omega) hk ha hin hlo
/-- The spans: ascending, each a word, all words. -/
theorem spans_ok (s : List Int) : SpOk s 0 (spansS s) := by
  have h := spG_ok s.length 0 s 0 (by omega) (Nat.zero_le _) (Nat.le_refl _) (fun i h1 h2 => by omega) (fun h => by omega)
  rw [cur_self, List.drop_zero] at h
  exact h
theorem spans_len : (spansS s).length ≤ s.length := by
  have h := spans_ok s
  have key : ∀ (L : List (Nat × Nat)) (b : Nat), L.Pairwise (fun p q => p.2 < q.1) → (∀ p ∈ L, b ≤ p.1 ∧ p.1 < p.2 ∧ p.2 ≤ s.length) → b ≤ s.length → L.length + b ≤ s.length := by
    intro L
    induction L with
    | nil => intro b _ _ hb; simpa using hb
    | cons p L ih =>
      intro b h1 h2 hb
      rw [List.pairwise_cons] at h1
      obtain ⟨q1, q2, q3⟩ := h2 p List.mem_cons_self
      have := ih p.2 h1.2 (fun q hq => by
        have := h1.1 q hq
        obtain ⟨q4, q5, q6⟩ := h2 q (List.mem_cons_of_mem _ hq)
        omega) q3
      rw [List.length_cons]
      omega
  have := key (spansS s) 0 h.asc (fun p hp => ⟨Nat.zero_le _, (h.word p hp).1.lt, (h.word p hp).1.le⟩) (Nat.zero_le _)
  omega
end

/-- The first span that holds a place, or at whose edge it is. -/
def touchL (L : List (Nat × Nat)) (at_ : Int) : Option (Nat × Nat) := L.find? fun p => decide ((p.1 : Int) ≤ at_) && decide (at_ ≤ p.2)
theorem touch_next {L : List (Nat × Nat)} {i : Nat} {p : Nat × Nat} {at_ : Int} (h : L[i]? = some p) (hn : ((decide ((p.1 : Int) ≤ at_)) && decide (at_ ≤ p.2)) = false) : touchL (L.drop i) at_ = touchL (L.drop (i + 1)) at_ := by
  obtain ⟨hi, rfl⟩ := List.getElem?_eq_some_iff.1 h
  unfold touchL
  rw [List.drop_eq_getElem_cons hi, List.find?_cons, hn]
theorem touch_here {L : List (Nat × Nat)} {i : Nat} {p : Nat × Nat} {at_ : Int} (h : L[i]? = some p) (hn : ((decide ((p.1 : Int) ≤ at_)) && decide (at_ ≤ p.2)) = true) : touchL (L.drop i) at_ = some p := by
  obtain ⟨hi, rfl⟩ := List.getElem?_eq_some_iff.1 h
  unfold touchL
  rw [List.drop_eq_getElem_cons hi, List.find?_cons, hn]
theorem touch_out {L : List (Nat × Nat)} {at_ : Int} {n : Nat} (h : ∀ p ∈ L, p.2 ≤ n) (ha : at_ < 0 ∨ (n : Int) < at_) : touchL L at_ = none := by
  unfold touchL
  rw [List.find?_eq_none]
  intro p hp
  have := h p hp
  simp
  intro h1
  omega
end Go.Proofs.Ytchcpeenpijekaa
