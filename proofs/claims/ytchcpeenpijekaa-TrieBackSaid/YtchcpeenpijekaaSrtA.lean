/- Go's sort of runes, walked: cmp.Less, insertionSortOrdered. -/
import Derived.Test.YtchcpeenpijekaaSrtP
import Derived.IntWalk
import Derived.RegionTactic
import Derived.ChangeAlike
import Derived.BigRegion
import Derived.Deep.LoopGhost
import Derived.Deep.CutBlock
import Derived.Deep.DeepCutAuto
namespace Go.Proofs.Ytchcpeenpijekaa
open Go.RowKit
set_option linter.unusedVariables false

theorem Own.at_ {w : World} {B n c g : Nat} {l : List Int} (h : Own w B (some ⟨g, 0, none⟩) n c l) {j : Nat} (hj : j < n) : w.cell? ⟨g, j, none⟩ = some (.int .i32 (nth l j)) ∧ w.frozen? ⟨g, j, none⟩ = false := ⟨h.cell hj, h.frozen j⟩
theorem Own.swap {w : World} {B n c g : Nat} {l : List Int} (h : Own w B (some ⟨g, 0, none⟩) n c l) {i j : Nat} (hi : i < n) (hj : j < n) : Own ((w.setCell ⟨g, i, none⟩ (.int .i32 (nth l j))).setCell ⟨g, j, none⟩ (.int .i32 (nth l i))) B (some ⟨g, 0, none⟩) n c (swapL l i j) :=
  (h.set hi (h.wf.bd j)).set hj (h.wf.bd i)
/-- What a step of the sort leaves: the row permuted, nothing else turned. -/
structure Srt (w w' : World) (B g n c a b : Nat) (l l' : List Int) : Prop where
  own : Own w' B (some ⟨g, 0, none⟩) n c l'
  grown : w.grownBy w' (some g)
  pm : Pm a b l l'
theorem Srt.refl {w : World} {B g n c : Nat} {l : List Int} (h : Own w B (some ⟨g, 0, none⟩) n c l) (a b : Nat) : Srt w w B g n c a b l l := ⟨h, World.grownBy.refl w _, Pm.refl _ _ _⟩
theorem Srt.trans {w w1 w2 : World} {B g n c a b : Nat} {l l1 l2 : List Int} (h : Srt w w1 B g n c a b l l1) (k : Srt w1 w2 B g n c a b l1 l2) : Srt w w2 B g n c a b l l2 := ⟨k.own, h.grown.trans k.grown, h.pm.trans k.pm⟩
theorem Srt.wider {w w1 : World} {B g n c a b a' b' : Nat} {l l1 : List Int} (h : Srt w w1 B g n c a b l l1) (ha : a' ≤ a) (hb : b ≤ b') : Srt w w1 B g n c a' b' l l1 := ⟨h.own, h.grown, h.pm.wider ha hb⟩
theorem Srt.drewN {w w1 : World} {B g n c a b : Nat} {l l1 : List Int} (h : Srt w w1 B g n c a b l l1) (q : Nat) : Srt w (w1.drewN q) B g n c a b l l1 := ⟨h.own.drewN q, grown_drewN h.grown q, h.pm⟩
theorem Srt.swap {w w1 : World} {B g n c a b : Nat} {l l1 : List Int} (h : Srt w w1 B g n c a b l l1) {i j : Nat} (hi : a ≤ i) (hi2 : i < b) (hj : a ≤ j) (hj2 : j < b) (hb : b ≤ n) :
    Srt w ((w1.setCell ⟨g, i, none⟩ (.int .i32 (nth l1 j))).setCell ⟨g, j, none⟩ (.int .i32 (nth l1 i))).drew B g n c a b l (swapL l1 i j) :=
  ⟨(h.own.swap (by omega) (by omega)).drew, grown_drewN (grown_set (grown_set h.grown i (.int .i32 (nth l1 j))) j (.int .i32 (nth l1 i))) 1, h.pm.trans (Pm.swap hi hi2 hj hj2 (by rw [h.own.len]; exact hb))⟩

set_option maxHeartbeats 400000 in
theorem isNaN_any (x : Int) (w : World) : Calls Try.prog 105 #[.int .i32 x] w fun e w' => e = .returned (.bool false) ∧ w = w' := by
  go_enter Try.func105, Try.ntmps105
  go_wp2
  go_ret
  exact ⟨rfl, rfl⟩
set_option maxHeartbeats 400000 in
theorem less_yes (x y : Int) (w : World) (h : x < y) : Calls Try.prog 94 #[.int .i32 x, .int .i32 y] w fun e w' => e = .returned (.bool true) ∧ w = w' := by
  go_enter Try.func94, Try.ntmps94
  go_wp2_with (go_at_call 105; refine (isNaN_any _ _).mono ?_; rintro e w' ⟨rfl, rfl⟩)
  go_ret
  exact ⟨rfl, rfl⟩
set_option maxHeartbeats 400000 in
theorem less_no (x y : Int) (w : World) (h : ¬ x < y) : Calls Try.prog 94 #[.int .i32 x, .int .i32 y] w fun e w' => e = .returned (.bool false) ∧ w = w' := by
  have d : decide (x < y) = false := by simpa using h
  go_enter Try.func94, Try.ntmps94
  go_wp2_with (go_at_call 105; refine (isNaN_any _ _).mono ?_; rintro e w' ⟨rfl, rfl⟩)
  go_ret
  exact ⟨rfl, rfl⟩
def ltB (x y : Int) : Bool := decide (x < y)
theorem less_any (x y : Int) (w : World) : Calls Try.prog 94 #[.int .i32 x, .int .i32 y] w fun e w' => e = .returned (.bool (ltB x y)) ∧ w = w' := by
  unfold ltB
  by_cases h : x < y
  · rw [decide_eq_true h]; exact less_yes x y w h
  · rw [decide_eq_false h]; exact less_no x y w h
theorem ltB_yes {x y : Int} (h : ltB x y = true) : x < y := of_decide_eq_true h
theorem ltB_no {x y : Int} (h : ltB x y = false) : y ≤ x := by have := of_decide_eq_false h; omega

set_option maxRecDepth 100000 in
set_option maxHeartbeats 4000000 in
theorem insertion_any (g B n c a b : Nat) (l : List Int) (w : World) (h : Own w B (some ⟨g, 0, none⟩) n c l) (hab : a ≤ b) (hbn : b ≤ n) (hn : n ≤ 1000000) :
    Calls Try.prog 88 #[.slice (some ⟨g, 0, none⟩) n c, .int .i64 (a : Int), .int .i64 (b : Int)] w fun e w' => e = .returned (.tuple #[]) ∧ ∃ l', Srt w w' B g n c a b l l' ∧ Asc l' a b := by
  have HR := hide (Srt.refl h a b)
  clear h
  go_enter Try.func88, Try.ntmps88
  go_wp2_with fail
  go_loopg [6] (b - a) (fun g1 vi wr => ∃ (i : Nat) (l1 : List Int), vi = .int .i64 i ∧ a < i ∧ i ≤ b + 1 ∧ b + 1 - i ≤ g1 + 1 ∧ Hid (Srt w wr B g n c a b l l1) ∧ Hid (Asc l1 a (min i b)))
  case atStart => exact ⟨a + 1, l, by go_num, by omega, by omega, by omega, HR.out, Asc.small (by omega)⟩
  case round =>
    obtain ⟨gO, rfl⟩ : ∃ gO : Nat, gO = gk := ⟨_, rfl⟩
    obtain ⟨i, l1, rfl, hai, hib, hg1, HL, HT⟩ := hrel
    by_cases hlt : i < b
    · have hmin : min i b = i := by omega
      rw [hmin] at HT
      clear hmin
      go_wp2_with fail
      go_loopg [7] i (fun g2 vj wr2 => ∃ (j : Nat) (l2 : List Int), vj = .int .i64 j ∧ a ≤ j ∧ j ≤ i ∧ j ≤ g2 ∧ Hid (Srt w wr2 B g n c a b l l2) ∧ Hid (Ins l2 a i j))
      case atStart => exact ⟨i, l1, rfl, by omega, Nat.le_refl _, Nat.le_refl _, HL.out, Ins.start HT.out⟩
      case round =>
        obtain ⟨j, l2, rfl, haj, hji, hg2, HL2, HD⟩ := hrel
        have HOUT := hide (fun (hst : j = a ∨ nth l2 (j - 1) ≤ nth l2 j) => show Asc l2 a (min (i + 1) b) from by
          rw [show min (i + 1) b = i + 1 by omega]
          exact HD.out.stop hji haj hst)
        by_cases hja : a < j
        · obtain ⟨p, hp⟩ : ∃ p, j = p + 1 := ⟨j - 1, by omega⟩
          have HJP := hide hp
          obtain ⟨cj, fj⟩ := HL2.out.own.at_ (j := j) (by omega)
          obtain ⟨cp, fp⟩ := HL2.out.own.at_ (j := p) (by omega)
          have hji1 : j - 1 = p := by omega
          rw [hji1] at HOUT
          have e1 : IntKind.i64.wrap ((j : Int) - 1) = (p : Int) := by rw [IntWalk.i64_in _ (by omega)]; omega
          have p0 : (0 : Int) ≤ (j : Int) := by omega
          have p1 : (j : Int) < (n : Int) := by omega
          have p2 : (0 : Int) ≤ (p : Int) := by omega
          have p3 : (p : Int) < (n : Int) := by omega
          have p4 : (a : Int) < (j : Int) := by omega
          have p5 : decide (a < j) = true := by simp; omega
          have hjn : j < n := by omega
          have hpn : p < n := by omega
          have hpi : p + 1 ≤ i := by omega
          have hjp : j ≠ p := by omega
          clear hp hji1
          obtain ⟨x, hx⟩ : ∃ x, nth l2 j = x := ⟨_, rfl⟩
          obtain ⟨y, hy⟩ : ∃ y, nth l2 p = y := ⟨_, rfl⟩
          rw [hx] at cj
          rw [hy] at cp
          have HXY := hide (And.intro hx hy)
          clear hx hy
          cases hlt2 : ltB x y
          · have HLT := hide hlt2
            go_wp2_with fail
            go_quiet ((go_at_call 94; exact Calls.quiet_of_same ((less_no x y _ (by have := ltB_no HLT.out; omega)).mono fun e w' h => ⟨h.1, h.2.symm⟩)))
            have HO := hide (HOUT.out (.inr (by rw [HXY.out.1, HXY.out.2]; exact ltB_no HLT.out)))
            have HL3 := hide (HL2.out.drewN nq)
            clear cj fj cp fp hlt2
            go_wp2_with fail
            clear e1
            go_roundg (b - (i + 1))
            case measure => omega
            case rel => exact ⟨i + 1, l2, by go_num, by omega, by omega, by omega, HL3.out, HO.out⟩
          · have HLT := hide hlt2
            go_wp2_with fail
            go_quiet ((go_at_call 94; exact Calls.quiet_of_same ((less_yes x y _ (ltB_yes HLT.out)).mono fun e w' h => ⟨h.1, h.2.symm⟩)))
            have HL3 := hide (HL2.out.drewN nq)
            have HX := hide (HL3.out.swap (i := j) (j := p) (by omega) (by omega) (by have := HJP.out; clear e1; omega) (by omega) hbn)
            have hd := HD.out
            rw [HJP.out] at hd
            have HD2 := hide (hd.step (by have := HJP.out; clear e1; omega) hpi (by rw [HL2.out.own.len]; clear e1; omega) (by rw [← HJP.out, HXY.out.1, HXY.out.2]; exact ltB_yes HLT.out))
            rw [← HJP.out] at HD2
            rw [HXY.out.1, HXY.out.2] at HX
            obtain ⟨wq, hwq⟩ : ∃ wq, wq = wr.drewN nq := ⟨_, rfl⟩
            have cj2 : wq.cell? ⟨g, j, none⟩ = some (.int .i32 x) := by rw [hwq]; exact cj
            have cp2 : wq.cell? ⟨g, p, none⟩ = some (.int .i32 y) := by rw [hwq]; exact cp
            have fj2 : wq.frozen? ⟨g, j, none⟩ = false := by rw [hwq]; exact fj
            have fp2 : wq.frozen? ⟨g, p, none⟩ = false := by rw [hwq]; exact fp
            rw [← hwq] at HX ⊢
            clear hwq cj cp fj fp hlt2 hd HL3
            go_wp2_with fail
            go_region
            go_wp2_with fail
            clear e1
            go_roundg p
            case measure => have := HJP.out; omega
            case rel => exact ⟨p, swapL l2 j p, rfl, by have := HJP.out; omega, by omega, by have := HJP.out; omega, HX.out, HD2.out⟩
        · have d1 : decide (a < j) = false := by simp; omega
          have d2 : ¬ ((a : Int) < (j : Int)) := by omega
          have HO := hide (HOUT.out (.inl (by omega)))
          go_wp2_with fail
          go_quiet (fail)
          have HL3 := hide (HL2.out.drewN nq)
          go_wp2_with fail
          go_roundg (b - (i + 1))
          case measure => omega
          case rel => exact ⟨i + 1, l2, by go_num, by omega, by omega, by omega, HL3.out, HO.out⟩
    · have hmin : min i b = b := by omega
      rw [hmin] at HT
      clear hmin
      go_wp2_with fail
      go_end0
      exact ⟨rfl, l1, HL.out, HT.out⟩
end Go.Proofs.Ytchcpeenpijekaa
