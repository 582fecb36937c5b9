/- A word's elements ahead of a place; a trigger that stands right ahead of a place: words.Ahead, abbrev.stands. -/
import Derived.Test.YtkoieceifplphaaSnip
namespace Go.Proofs.Ytkoieceifplphaa
open Go.RowKit
set_option linter.unusedVariables false

def wrdS (r : Int) : Bool := decide (clsS r = 3)
theorem of_any (r : Int) (w : World) : Calls Try.prog 69 #[.int .i32 r] w fun e w' => e = .returned (.bool (wrdS r)) ∧ w = w' := by
  go_enter Try.func69, Try.ntmps69
  go_wp2_with fail
  refine (class_any _ _).mono ?_
  rintro e w' ⟨rfl, rfl⟩
  go_wp2
  go_ret
  exact ⟨retB (by unfold wrdS; first | rfl | simp), rfl⟩

/-- How many of a word's elements stand right ahead of a place. -/
def aheadN (s : List Int) : Nat → Nat
  | 0 => 0
  | k + 1 => if wrdS (nth s k) = true then aheadN s k + 1 else 0
theorem aheadN_le (s : List Int) : ∀ k, aheadN s k ≤ k
  | 0 => Nat.le_refl _
  | k + 1 => by
    have := aheadN_le s k
    unfold aheadN
    split <;> omega
def aheadS (s : List Int) (at_ : Int) : Nat := if 0 ≤ at_ ∧ at_ ≤ s.length then aheadN s at_.toNat else 0

set_option maxHeartbeats 2000000 in
theorem ahead_any (S : Option Addr) (k d : Nat) (at_ : Int) (s : List Int) (w : World) (h : Runes w S k s) (hk : k ≤ 9223372036854775807) :
    Calls Try.prog 48 #[.slice S k d, .int .i64 at_] w fun e w' => e = .returned (.int .i64 (aheadS s at_ : Int)) ∧ w = w' := by
  have HL := hide h.len
  go_enter Try.func48, Try.ntmps48
  by_cases h0 : at_ < 0
  · go_wp2_with fail
    go_ret
    exact ⟨retI (by unfold aheadS; rw [if_neg (by omega)]; rfl), rfl⟩
  by_cases h1 : (k : Int) < at_
  · go_wp2_with fail
    go_ret
    exact ⟨retI (by unfold aheadS; rw [HL.out, if_neg (by omega)]; rfl), rfl⟩
  obtain ⟨a, rfl⟩ : ∃ a : Nat, at_ = a := ⟨at_.toNat, by omega⟩
  have hak : a ≤ k := by omega
  have HE := hide (show aheadS s (a : Int) = aheadN s a by unfold aheadS; rw [HL.out, if_pos (by omega)]; rfl)
  go_wp2_with fail
  go_loop [5] (fun n => ∃ j : Nat, j ≤ a ∧ n = .int .i64 j ∧ Hid (j + aheadN s (a - j) = aheadN s a)) (fun n => a - (intOf n).toNat)
  case atStart => exact ⟨0, Nat.zero_le _, rfl, by show 0 + aheadN s (a - 0) = _; rw [Nat.zero_add, Nat.sub_zero]⟩
  case round =>
    obtain ⟨j, hj, rfl, hst⟩ := hrel
    by_cases hja : j < a
    · obtain ⟨i, hi⟩ : ∃ i, a - j = i + 1 := ⟨a - j - 1, by omega⟩
      obtain ⟨b, o, rfl, hc⟩ := h.at_ i (by omega)
      have i0 : (0 : Int) ≤ (i : Int) := by omega
      have i1 : (i : Int) < (k : Int) := by omega
      have v1 : IntKind.i64.wrap ((a : Int) - (j : Int)) = (i : Int) + 1 := by rw [IntWalk.i64_in _ (by omega)]; omega
      have v2 : IntKind.i64.wrap ((i : Int) + 1 - 1) = (i : Int) := by rw [IntWalk.i64_in _ (by omega)]; omega
      have v3 : (a : Int) - (j : Int) = (i : Int) + 1 := by omega
      have HI := hide hi
      have hst2 := hst.out
      rw [hi] at hst2
      have e : aheadN s (i + 1) = if wrdS (nth s i) = true then aheadN s i + 1 else 0 := rfl
      rw [e] at hst2
      clear e hi hst
      generalize nth s i = r at hc hst2
      cases hw : wrdS r
      · rw [hw] at hst2
        have HS := hide hst2
        have HW := hide hw
        clear hst2 hw
        go_wp2_with fail
        refine (of_any _ _).mono ?_
        rw [HW.out]
        rintro e w' ⟨rfl, rfl⟩
        go_wp2_with fail
        go_ret
        exact ⟨retI (by rw [HE.out]; have := HS.out; simp at this; omega), rfl⟩
      · rw [hw] at hst2
        have HS := hide hst2
        have HW := hide hw
        clear hst2 hw
        go_wp2_with fail
        refine (of_any _ _).mono ?_
        rw [HW.out]
        rintro e w' ⟨rfl, rfl⟩
        go_wp2_with fail
        go_round
        case rel => exact ⟨j + 1, by omega, by go_num, by
          have := HS.out
          simp at this
          have hi := HI.out
          show j + 1 + aheadN s (a - (j + 1)) = _
          rw [show a - (j + 1) = i by omega]
          omega⟩
        case measure => simp [intOf]; omega
    · have hj' : j = a := by omega
      go_wp2_with fail
      go_ret
      exact ⟨retI (by rw [HE.out]; have := hst.out; rw [hj', Nat.sub_self] at this; simp [aheadN] at this; omega), rfl⟩

/-- Does a trigger stand right ahead of a place, behind no word's element? -/
def stdS (t s : List Int) (a : Nat) : Bool := decide (t.length ≤ a) && sameS ((s.drop (a - t.length)).take t.length) t && (decide (a = t.length) || !wrdS (nth s (a - t.length - 1)))

set_option maxHeartbeats 2000000 in
theorem stands_any (T S : Option Addr) (n c k d a : Nat) (t s : List Int) (w : World) (hT : Runes w T n t) (hS : Runes w S k s) (hn : n ≤ 9223372036854775807) (hak : a ≤ k) (hk : k ≤ d) (hd : d ≤ 9223372036854775807) :
    Calls Try.prog 47 #[.slice T n c, .slice S k d, .int .i64 (a : Int)] w fun e w' => e = .returned (.bool (stdS t s a)) ∧ ∃ q, w' = w.drewN q := by
  have HT := hide hT.len
  go_enter Try.func47, Try.ntmps47
  by_cases hna : n ≤ a
  · obtain ⟨f, hf⟩ : ∃ f, a - n = f := ⟨_, rfl⟩
    have v1 : IntKind.i64.wrap ((a : Int) - (n : Int)) = (f : Int) := by rw [IntWalk.i64_in _ (by omega)]; omega
    have i0 : (0 : Int) ≤ (f : Int) := by omega
    have hfa : a = f + n := by omega
    have hsl := run_sub_lh S k d f n (by omega)
    have hsl' : ∀ W, (Instr.slice 23 (.slice S k d) (some (.int .i64 (f : Int))) (some (.int .i64 (a : Int))) none).run Try.prog W = .ok (.slice (sub S d f) n (d - f)) W := fun W => by
      rw [show (a : Int) = (f : Int) + (n : Int) by omega]
      exact hsl W
    have HM := hide (same_any (sub S d f) T n (d - f) n c ((s.drop f).take n) t w (hS.mid (by omega) hk) hT hn hn)
    have hr : stdS t s a = (sameS ((s.drop f).take n) t && (decide (f = 0) || !wrdS (nth s (f - 1)))) := by
      unfold stdS
      rw [HT.out, hf, decide_eq_true hna, Bool.true_and]
      congr 2
      exact decide_eq_decide.2 (by omega)
    rw [hr]
    clear hr hsl hf
    generalize sameS ((s.drop f).take n) t = m at HM ⊢
    have HFA := hide hfa
    have hfk : f ≤ k := by omega
    clear hfa
    cases m
    · go_wp2_with fail
      refine HM.out.mono ?_
      rintro e w1 ⟨rfl, q, rfl⟩
      go_wp2_with fail
      go_ret
      exact ⟨retB (by simp), q, rfl⟩
    · by_cases hf0 : f = 0
      · have hz : ((f : Int) == 0) = true := by simp; omega
        have HF0 := hide hf0
        clear hf0 i0
        have i0 : (0 : Int) ≤ (f : Int) := by omega
        go_wp2_with fail
        refine HM.out.mono ?_
        rintro e w1 ⟨rfl, q, rfl⟩
        go_wp2_with fail
        go_ret
        exact ⟨retB (by simp [HF0.out]), q, rfl⟩
      · obtain ⟨i, hi⟩ : ∃ i, f = i + 1 := ⟨f - 1, by omega⟩
        obtain ⟨b, o, hS0, hc0⟩ := hS.at_ i (by omega)
        have i2 : (0 : Int) ≤ (i : Int) := by omega
        have i3 : (i : Int) < (k : Int) := by omega
        have v2 : IntKind.i64.wrap ((f : Int) - 1) = (i : Int) := by rw [IntWalk.i64_in _ (by omega)]; omega
        have hz : ((f : Int) == 0) = false := by simp; omega
        have hr : (decide (f = 0) || !wrdS (nth s (f - 1))) = !wrdS (nth s i) := by rw [hi]; simp
        rw [hr]
        generalize nth s i = r at hc0 ⊢
        have HS0 := hide hS0
        clear hr hi hf0 hS0
        have HC0 := hide (fun q => (show (w.drewN q).cell? ⟨b, o + i, none⟩ = some (.int .i32 r) from hc0))
        go_wp2_with fail
        refine HM.out.mono ?_
        rintro e w1 ⟨rfl, q, rfl⟩
        have hc1 := HC0.out q
        have hS0 := HS0.out
        clear HM hsl' hS hc0 HC0 HS0
        subst hS0
        go_wp2_with fail
        refine (class_any _ _).mono ?_
        rintro e w1 ⟨rfl, rfl⟩
        go_wp2_with fail
        go_ret
        exact ⟨retB (by unfold wrdS; by_cases h : clsS r = 3 <;> simp [h]), q, rfl⟩
  · have v1 : IntKind.i64.wrap ((a : Int) - (n : Int)) = (a : Int) - (n : Int) := by rw [IntWalk.i64_in _ (by omega)]
    have i0 : ¬ ((0 : Int) ≤ (a : Int) - (n : Int)) := by omega
    have hr : stdS t s a = false := by unfold stdS; rw [HT.out]; simp [hna]
    rw [hr]
    clear hr
    go_wp2_with fail
    go_ret
    exact ⟨rfl, 0, rfl⟩
end Go.Proofs.Ytkoieceifplphaa
