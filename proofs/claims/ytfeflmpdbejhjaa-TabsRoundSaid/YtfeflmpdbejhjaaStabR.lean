/- Go's slices.rotateCmpFunc at ints. -/
import Derived.Test.YtfeflmpdbejhjaaStabI
namespace Go.Proofs.Ytfeflmpdbejhjaa
open Go.RowKit
set_option linter.unusedVariables false

/-- Two rows of k elements have changed places. -/
structure Swp (l l1 : List Int) (a b k : Nat) : Prop where
  len : l1.length = l.length
  sw : ∀ i, i < k → nth l1 (a + i) = nth l (b + i) ∧ nth l1 (b + i) = nth l (a + i)
  out : ∀ i, (i < a ∨ a + k ≤ i) → (i < b ∨ b + k ≤ i) → nth l1 i = nth l i
theorem rot_gt {l l1 l2 : List Int} {m i j : Nat} (hij : j < i) (him : i ≤ m) (hs : Swp l l1 (m - i) m j) (h : Rot l1 l2 (m - (i - j)) m (m + j)) : Rot l l2 (m - i) m (m + j) := by
  have e0 : m - (i - j) = m - i + j := by omega
  rw [e0] at h
  refine ⟨h.len.trans hs.len, fun k hk => ?_, fun k hk => ?_, fun k hk => ?_⟩
  · rw [h.out k (by omega), hs.out k (by omega) (by omega)]
  · rw [h.out _ (by omega), (hs.sw k (by omega)).1]
  · by_cases e : k < j
    · have := h.lo k (by omega)
      rw [(hs.sw k e).2] at this
      rw [← this]
      congr 1
      omega
    · have := h.hi (k - j) (by omega)
      rw [hs.out _ (by omega) (by omega)] at this
      rw [show m - i + k = m - i + j + (k - j) by omega, ← this]
      congr 1
      omega
theorem rot_lt {l l1 l2 : List Int} {m i j : Nat} (hij : i < j) (him : i ≤ m) (hs : Swp l l1 (m - i) (m + j - i) i) (h : Rot l1 l2 (m - i) m (m + (j - i))) : Rot l l2 (m - i) m (m + j) := by
  have e0 : m + (j - i) = m + j - i := by omega
  rw [e0] at h
  refine ⟨h.len.trans hs.len, fun k hk => ?_, fun k hk => ?_, fun k hk => ?_⟩
  · rw [h.out k (by omega), hs.out k (by omega) (by omega)]
  · by_cases e : k < j - i
    · rw [h.lo k (by omega), hs.out _ (by omega) (by omega)]
    · have := h.hi (k - (j - i)) (by omega)
      rw [(hs.sw (k - (j - i)) (by omega)).1] at this
      rw [show m - i + k = m - i + (m + j - i - m) + (k - (j - i)) by omega, this]
      congr 1
      omega
  · rw [h.out _ (by omega)]
    have := (hs.sw k (by omega)).2
    rw [← this]
    congr 1
    omega
theorem rot_eq {l l1 : List Int} {m i : Nat} (him : i ≤ m) (hs : Swp l l1 (m - i) m i) : Rot l l1 (m - i) m (m + i) := by
  refine ⟨hs.len, fun k hk => hs.out k (by omega) (by omega), fun k hk => (hs.sw k (by omega)).1, fun k hk => ?_⟩
  have := (hs.sw k (by omega)).2
  rw [← this]
  congr 1
  omega

set_option maxRecDepth 100000 in
set_option maxHeartbeats 4000000 in
theorem rotate_any (g : Nat) (B n c a m b : Nat) (l : List Int) (F : Value) (w : World) (h : RowI w B (some ⟨g, 0, none⟩) n c l) (ham : a < m) (hmb : m < b) (hbn : b ≤ n) (hn : n ≤ 1000000) :
    Calls Try.prog 29 #[.slice (some ⟨g, 0, none⟩) n c, .int .i64 (a : Int), .int .i64 (m : Int), .int .i64 (b : Int), F] w fun e w' => e = .returned (.tuple #[]) ∧ w.grownBy w' (some g) ∧ ∃ l', RowI w' B (some ⟨g, 0, none⟩) n c l' ∧ Rot l l' a m b := by
  have HR := hide h
  clear h
  have e1 : (m : Int) - (a : Int) = ((m - a : Nat) : Int) := by omega
  have e2 : (b : Int) - (m : Int) = ((b - m : Nat) : Int) := by omega
  have E1 := hide e1
  have E2 := hide e2
  clear e1 e2
  go_enter Try.func29, Try.ntmps29
  go_wp2_with fail
  go_loopw [10, 11] (fun vi vj wr => ∃ (i j : Nat) (l' : List Int), vi = .int .i64 i ∧ vj = .int .i64 j ∧ 0 < i ∧ 0 < j ∧ a + i ≤ m ∧ m + j ≤ b ∧ w.grownBy wr (some g) ∧ Hid (RowI wr B (some ⟨g, 0, none⟩) n c l') ∧ Hid (∀ l2, Rot l' l2 (m - i) m (m + j) → Rot l l2 a m b)) (fun vi vj _ => (intOf vi).toNat + (intOf vj).toNat)
  case atStart => exact ⟨m - a, b - m, l, congrArg (Value.int .i64) E1.out, congrArg (Value.int .i64) E2.out, by omega, by omega, by omega, by omega, World.grownBy.refl w _, HR.out, fun l2 h => by
    rw [show m - (m - a) = a by omega, show m + (b - m) = b by omega] at h
    exact h⟩
  case round =>
    obtain ⟨i, j, l', rfl, rfl, hi, hj, hai, hjb, hgr, HL, HT⟩ := hrel
    have HG := hide hgr
    clear hgr
    have hl := HL.out.len
    have HLEN := hide hl
    clear hl
    by_cases hij : i = j
    · subst hij
      have d1 : ((i : Int) != (i : Int)) = false := by simp
      have v1 : (m : Int) - (i : Int) = ((m - i : Nat) : Int) := by omega
      have HSW := hide (swapRange_any g B n c (m - i) m i l' F wr HL.out (by omega) (by omega) hn)
      rw [← v1] at HSW
      clear v1
      go_wp2_with fail
      refine HSW.out.mono ?_
      rintro e w1 ⟨rfl, hg1, l1, hr1, hs1, hs2⟩
      have HX := hide (show RowI w1 B (some ⟨g, 0, none⟩) n c l1 ∧ w.grownBy w1 (some g) ∧ Rot l l1 a m b from ⟨hr1, HG.out.trans hg1, HT.out l1 (rot_eq (by omega) ⟨by rw [hr1.len, HLEN.out], hs1, hs2⟩)⟩)
      clear hg1 hr1 hs1 hs2
      go_wp2_with fail
      go_end0
      exact ⟨rfl, HX.out.2.1, l1, HX.out.1, HX.out.2.2⟩
    · have d1 : ((i : Int) != (j : Int)) = true := by simp; omega
      by_cases hgt : j < i
      · have d2 : (j : Int) < (i : Int) := by omega
        have v1 : (m : Int) - (i : Int) = ((m - i : Nat) : Int) := by omega
        have HSW := hide (swapRange_any g B n c (m - i) m j l' F wr HL.out (by omega) (by omega) hn)
        rw [← v1] at HSW
        have HE := hide (show (i : Int) - (j : Int) = ((i - j : Nat) : Int) by omega)
        clear v1 hij
        go_wp2_with fail
        refine HSW.out.mono ?_
        rintro e w1 ⟨rfl, hg1, l1, hr1, hs1, hs2⟩
        have HX := hide (show RowI w1 B (some ⟨g, 0, none⟩) n c l1 ∧ w.grownBy w1 (some g) ∧ (∀ l2, Rot l1 l2 (m - (i - j)) m (m + j) → Rot l l2 a m b) from ⟨hr1, HG.out.trans hg1, fun l2 h2 => HT.out l2 (rot_gt hgt (by omega) ⟨by rw [hr1.len, HLEN.out], hs1, hs2⟩ h2)⟩)
        clear hg1 hr1 hs1 hs2
        go_wp2_with fail
        go_roundw
        case rel => exact ⟨i - j, j, l1, congrArg (Value.int .i64) HE.out, rfl, by omega, hj, by omega, hjb, HX.out.2.1, HX.out.1, HX.out.2.2⟩
        case measure => simp [intOf]; omega
      · have d2 : ¬ ((j : Int) < (i : Int)) := by omega
        have v1 : (m : Int) - (i : Int) = ((m - i : Nat) : Int) := by omega
        have v2 : (m : Int) + (j : Int) - (i : Int) = ((m + j - i : Nat) : Int) := by omega
        have HSW := hide (swapRange_any g B n c (m - i) (m + j - i) i l' F wr HL.out (by omega) (by omega) hn)
        rw [← v1, ← v2] at HSW
        have HE := hide (show (j : Int) - (i : Int) = ((j - i : Nat) : Int) by omega)
        have hlt : i < j := by omega
        clear v1 v2 hij
        go_wp2_with fail
        refine HSW.out.mono ?_
        rintro e w1 ⟨rfl, hg1, l1, hr1, hs1, hs2⟩
        have HX := hide (show RowI w1 B (some ⟨g, 0, none⟩) n c l1 ∧ w.grownBy w1 (some g) ∧ (∀ l2, Rot l1 l2 (m - i) m (m + (j - i)) → Rot l l2 a m b) from ⟨hr1, HG.out.trans hg1, fun l2 h2 => HT.out l2 (rot_lt hlt (by omega) ⟨by rw [hr1.len, HLEN.out], hs1, hs2⟩ h2)⟩)
        clear hg1 hr1 hs1 hs2
        go_wp2_with fail
        go_roundw
        case rel => exact ⟨i, j - i, l1, rfl, congrArg (Value.int .i64) HE.out, hi, by omega, hai, by omega, HX.out.2.1, HX.out.1, HX.out.2.2⟩
        case measure => simp [intOf]; omega
end Go.Proofs.Ytfeflmpdbejhjaa
