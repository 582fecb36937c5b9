/- Go's sort of runes, walked: medianOrdered, medianAdjacentOrdered, choosePivotOrdered, breakPatternsOrdered. -/
import Derived.Test.YtchcpeenpijekaaSrtB
namespace Go.Proofs.Ytchcpeenpijekaa
open Go.RowKit
set_option linter.unusedVariables false

/-- What a median answers: one of its places. -/
def Med (w : World) (B g n c s : Nat) (l : List Int) (p : Nat → Prop) (e : Ending) (w' : World) : Prop := ∃ x : Nat, p x ∧ e = .returned (.int .i64 (x : Int)) ∧ PvSt w w' B g n c s l

set_option maxHeartbeats 1000000 in
theorem median_any (g B n c s x y z : Nat) (l : List Int) (w : World) (h : PvSt w w B g n c s l) (hx : x < n) (hy : y < n) (hz : z < n) (hn : n ≤ 1000000) :
    Calls Try.prog 104 #[.slice (some ⟨g, 0, none⟩) n c, .int .i64 (x : Int), .int .i64 (y : Int), .int .i64 (z : Int), .pointer (some ⟨s, 0, none⟩)] w (Med w B g n c s l fun q => q = x ∨ q = y ∨ q = z) := by
  have HH := hide h
  have H2 := hide (fun (W : World) (a b : Nat) (hW : PvSt W W B g n c s l) (ha : a < n) (hb : b < n) => order2_any g B n c s a b l W hW ha hb hn)
  clear h
  go_enter Try.func104, Try.ntmps104
  go_wp2_with fail
  refine (H2.out _ _ _ HH.out hx hy).mono ?_
  rintro e w1 ⟨x1, y1, h1, rfl, hp1⟩
  have HP1 := hide hp1
  have q1 : x1 < n ∧ y1 < n := by omega
  clear hp1
  go_wp2_with fail
  refine (H2.out w1 y1 z ⟨HP1.out.own, HP1.out.box, World.grownBy.refl w1 _⟩ q1.2 hz).mono ?_
  rintro e w2 ⟨x2, y2, h2, rfl, hp2⟩
  have HP2 := hide (HP1.out.trans hp2)
  have q2 : x2 < n ∧ y2 < n := by omega
  clear hp2 HP1
  go_wp2_with fail
  refine (H2.out w2 x1 x2 ⟨HP2.out.own, HP2.out.box, World.grownBy.refl w2 _⟩ q1.1 q2.1).mono ?_
  rintro e w3 ⟨x3, y3, h3, rfl, hp3⟩
  have HP3 := hide (HP2.out.trans hp3)
  clear hp3 HP2
  go_wp2_with fail
  go_ret
  exact ⟨y3, by omega, rfl, HP3.out⟩

set_option maxHeartbeats 1000000 in
theorem medianAdj_any (g B n c s x : Nat) (l : List Int) (w : World) (h : PvSt w w B g n c s l) (h0 : 0 < x) (hx : x + 1 < n) (hn : n ≤ 1000000) :
    Calls Try.prog 103 #[.slice (some ⟨g, 0, none⟩) n c, .int .i64 (x : Int), .pointer (some ⟨s, 0, none⟩)] w (Med w B g n c s l fun q => x - 1 ≤ q ∧ q ≤ x + 1) := by
  have HH := hide h
  have e1 : IntKind.i64.wrap ((x : Int) - 1) = ((x - 1 : Nat) : Int) := by rw [IntWalk.i64_in _ (by omega)]; omega
  have e2 : IntKind.i64.wrap ((x : Int) + 1) = ((x + 1 : Nat) : Int) := by rw [IntWalk.i64_in _ (by omega)]; omega
  obtain ⟨a, ha⟩ : ∃ a, x - 1 = a := ⟨_, rfl⟩
  obtain ⟨b, hb⟩ : ∃ b, x + 1 = b := ⟨_, rfl⟩
  rw [ha] at e1
  rw [hb] at e2
  have hab : a < n ∧ b < n ∧ x < n := by omega
  have HAB := hide (And.intro ha hb)
  have H2 := hide (median_any g B n c s a x b l w h hab.1 hab.2.2 hab.2.1 hn)
  clear h ha hb
  go_enter Try.func103, Try.ntmps103
  go_wp2_with fail
  refine H2.out.mono ?_
  rintro e w1 ⟨q, hq, rfl, hp⟩
  have HP := hide hp
  clear hp e1 e2
  go_wp2_with fail
  go_ret
  exact ⟨q, by have := HAB.out; omega, rfl, HP.out⟩

/-- What choosePivot answers: a place from a on ahead of b, a hint. -/
def Pivot (w : World) (B g n c a b : Nat) (l : List Int) (e : Ending) (w' : World) : Prop := ∃ (p : Nat) (k : Int), a ≤ p ∧ p < b ∧ (k = 0 ∨ k = 1 ∨ k = 2) ∧ e = .returned (.tuple #[.int .i64 (p : Int), .int .i64 k]) ∧ Own w' B (some ⟨g, 0, none⟩) n c l ∧ Below w.heap.size w w'
theorem PvSt.below {w W w' : World} {B g n c : Nat} {l : List Int} (h : PvSt W w' B g n c w.heap.size l) (hb : Below w.heap.size w W) : Below w.heap.size w w' := hb.grown h.grown hb.size fun k e => by cases e; exact Nat.le_refl _

set_option maxRecDepth 100000 in
set_option maxHeartbeats 4000000 in
theorem choosePivot_any (g B n c a b : Nat) (l : List Int) (w : World) (h : Own w B (some ⟨g, 0, none⟩) n c l) (hab : a + 8 ≤ b) (hbn : b ≤ n) (hn : n ≤ 1000000) :
    Calls Try.prog 91 #[.slice (some ⟨g, 0, none⟩) n c, .int .i64 (a : Int), .int .i64 (b : Int)] w (Pivot w B g n c a b l) := by
  obtain ⟨L, hL⟩ : ∃ L, b = a + L := ⟨b - a, by omega⟩
  have HL := hide hL
  have e0 : IntKind.i64.wrap ((b : Int) - (a : Int)) = (L : Int) := by rw [IntWalk.i64_in _ (by omega)]; omega
  obtain ⟨f, hf⟩ : ∃ f, L / 4 = f := ⟨_, rfl⟩
  have e1 : (L : Int) / 4 = (f : Int) := by omega
  have hL8 : 8 ≤ L := by omega
  have hLn : a + L ≤ n := by omega
  have hf2 : 4 * f ≤ L ∧ L < 4 * f + 4 := by omega
  have HF := hide hf2
  have hW0 : PvSt (w.alloc (.cells #[.int .i64 0] 3)) (w.alloc (.cells #[.int .i64 0] 3)) B g n c w.heap.size l := ⟨h.alloc _, ⟨0, Box.new w _ _⟩, World.grownBy.refl _ _⟩
  have HW0 := hide hW0
  have HB0 := hide ((Below.refl w.heap.size w).alloc (Nat.le_refl _) (.cells #[.int .i64 0] 3))
  have hfn : f ≤ 250000 := by omega
  have hg8 : decide ((8 : Int) ≤ (L : Int)) = true := by simp; omega
  clear h hL hf hab hbn hW0
  have HM := hide (fun (W : World) (x y z : Nat) (X Y Z : Int) (hX : X = x) (hY : Y = y) (hZ : Z = z) (hW : PvSt W W B g n c w.heap.size l) (hx : x < n) (hy : y < n) (hz : z < n) => show Calls Try.prog 104 #[.slice (some ⟨g, 0, none⟩) n c, .int .i64 X, .int .i64 Y, .int .i64 Z, .pointer (some ⟨w.heap.size, 0, none⟩)] W _ from by
    subst hX hY hZ
    exact median_any g B n c w.heap.size x y z l W hW hx hy hz hn)
  have HA := hide (fun (W : World) (x : Nat) (X : Int) (hX : X = x) (hW : PvSt W W B g n c w.heap.size l) (h0 : 0 < x) (hx : x + 1 < n) => show Calls Try.prog 103 #[.slice (some ⟨g, 0, none⟩) n c, .int .i64 X, .pointer (some ⟨w.heap.size, 0, none⟩)] W _ from by
    subst hX
    exact medianAdj_any g B n c w.heap.size x l W hW h0 hx hn)
  go_enter Try.func91, Try.ntmps91
  go_upto_if 32 with fail
  go_cut [11] (fun s11 wx => ∃ q : Nat, a ≤ q ∧ q < b ∧ s11 = .int .i64 (q : Int) ∧ PvSt (w.alloc (.cells #[.int .i64 0] 3)) wx B g n c w.heap.size l)
  case first =>
    by_cases h50 : 50 ≤ L
    · have hg50 : decide ((50 : Int) ≤ (L : Int)) = true := by simp; omega
      have hf12 : 12 ≤ f := by omega
      go_wp2_with fail
      refine (HA.out _ (a + f) _ (by omega) HW0.out (by omega) (by omega)).mono ?_
      rintro e w1 ⟨i1, hi1, rfl, hp⟩
      have HP1 := hide hp
      clear hp
      go_wp2_with fail
      refine (HA.out _ (a + f * 2) _ (by omega) ⟨HP1.out.own, HP1.out.box, World.grownBy.refl _ _⟩ (by omega) (by omega)).mono ?_
      rintro e w2 ⟨i2, hi2, rfl, hp⟩
      have HP2 := hide (HP1.out.trans hp)
      clear hp HP1
      go_wp2_with fail
      refine (HA.out _ (a + f * 3) _ (by omega) ⟨HP2.out.own, HP2.out.box, World.grownBy.refl _ _⟩ (by omega) (by omega)).mono ?_
      rintro e w3 ⟨i3, hi3, rfl, hp⟩
      have HP3 := hide (HP2.out.trans hp)
      clear hp HP2
      go_wp2_with fail
      refine (HM.out _ i1 i2 i3 _ _ _ rfl rfl rfl ⟨HP3.out.own, HP3.out.box, World.grownBy.refl _ _⟩ (by omega) (by omega) (by omega)).mono ?_
      rintro e w4 ⟨q, hq, rfl, hp⟩
      have HP4 := hide (HP3.out.trans hp)
      have hLL := HL.out
      have hqq : a ≤ q ∧ q < b := by omega
      clear hp HP3 hLL
      go_wp2_with fail
      go_meet
      exact ⟨q, hqq.1, hqq.2, rfl, HP4.out⟩
    · have hg50 : decide ((50 : Int) ≤ (L : Int)) = false := by simp; omega
      go_wp2_with fail
      refine (HM.out _ (a + f) (a + f * 2) (a + f * 3) _ _ _ (by omega) (by omega) (by omega) HW0.out (by omega) (by omega) (by omega)).mono ?_
      rintro e w4 ⟨q, hq, rfl, hp⟩
      have HP4 := hide hp
      have hLL := HL.out
      have hqq : a ≤ q ∧ q < b := by omega
      clear hp hLL
      go_wp2_with fail
      go_meet
      exact ⟨q, hqq.1, hqq.2, rfl, HP4.out⟩
  case rest =>
    obtain ⟨q, hq1, hq2, rfl, hp⟩ := hcut
    obtain ⟨k, hk⟩ := hp.box
    obtain ⟨ck, fk⟩ := hk.c1
    have HP := hide hp
    clear hp hk HM HA HW0
    by_cases k0 : k = 0
    · have d0 : (k == 0) = true := by simp [k0]
      clear k0
      go_wp2_with fail
      go_ret2
      exact ⟨q, 1, hq1, hq2, by omega, rfl, HP.out.own, HP.out.below HB0.out⟩
    · have d0 : (k == 0) = false := by simp [k0]
      clear k0
      by_cases k12 : k = 12
      · have d12 : (k == 12) = true := by simp [k12]
        clear k12
        go_wp2_with fail
        go_ret2
        exact ⟨q, 2, hq1, hq2, by omega, rfl, HP.out.own, HP.out.below HB0.out⟩
      · have d12 : (k == 12) = false := by simp [k12]
        clear k12
        go_wp2_with fail
        go_ret2
        exact ⟨q, 0, hq1, hq2, by omega, rfl, HP.out.own, HP.out.below HB0.out⟩
end Go.Proofs.Ytchcpeenpijekaa
