/- Pieces, joined: WrdT, StmI. -/
import Derived.Test.YtchcpeenpijekaaQ06
import Derived.Test.YtchcpeenpijekaaQ21
import Derived.Deep.CutBlock
import Derived.Deep.DeepCutAuto
import Derived.Test.YtchcpeenpijekaaQ08
import Derived.Test.YtchcpeenpijekaaQ19
import Derived.RegionTactic
import Derived.ChangeAlike
import Derived.BigRegion
import Derived.Deep.LoopGhost

/- The contracts of Touched, the program's and the reference's. -/
namespace Go.Proofs.Ytchcpeenpijekaa
open Go.RowKit
set_option linter.unusedVariables false

theorem below_drewN2 {B : Nat} {a w : World} (h : Below B a w) (n : Nat) : Below B a (w.drewN n) := ⟨h.os, h.tape, h.output, h.size, h.block⟩
def TouchQ (o : Option (Nat × Nat)) (w : World) (e : Ending) (w' : World) : Prop := e = .returned (.tuple #[.agg #[.int .i64 (tfst o : Nat), .int .i64 (tsnd o : Nat)], .bool o.isSome]) ∧ Below w.heap.size w w'

set_option maxRecDepth 100000 in
set_option maxHeartbeats 4000000 in
theorem touched_any (S : Option Addr) (n c : Nat) (s : List Int) (at_ : Int) (w : World) (h : Runes w S n s) (hn : n ≤ 1000000) (o : Option (Nat × Nat)) (ho : touchL (spansS s) at_ = o) :
    Calls Try.prog 39 #[.slice S n c, .int .i64 at_] w (TouchQ o w) := by
  obtain ⟨B0, hB0⟩ : ∃ B0, w.heap.size = B0 := ⟨_, rfl⟩
  have HX0 := hide (Box.newAt hB0 61 #[.int .i64 0, .int .i64 0])
  have HB0 := hide ((Below.refl w.heap.size w).alloc (Nat.le_refl _) (.cells #[.int .i64 0, .int .i64 0] 61))
  have HS := hide (h.alloc (.cells #[.int .i64 0, .int .i64 0] 61))
  have HO := hide ho
  have HLE := hide (fun p hp => ((spans_ok s).word p hp).1)
  have HN := hide (spans_len (s := s))
  have HLN := hide h.len
  have HZ := hide hB0
  clear h ho hB0
  go_enter Try.func39, Try.ntmps39
  go_wp2_with (go_at_call 34; (with_reducible refine (spans_any S n c s _ HS.out hn).mono ?_); rintro e w1 ⟨A, m, d, rfl, hO, hb⟩)
  rw [HZ.out]
  have HL := hide hO
  have HX1 := hide (HX0.out.below hb)
  have HB1 := hide (HB0.out.trans (hb.mono HB0.out.size))
  clear hO hb HS HX0 HB0
  have hm : (spansS s).length = m := HL.out.len
  have HM := hide hm
  have hmn : m ≤ 1000000 := by have h1 := HN.out; have h2 := HLN.out; omega
  clear hm
  go_wp2_with fail
  go_loopw [11] (fun s11 wr => ∃ i : Nat, i ≤ m ∧ s11 = .int .i64 i ∧ Hid (Below w1.heap.size w1 wr) ∧ Hid (touchL ((spansS s).drop i) at_ = o)) (fun s11 _ => m - (intOf s11).toNat)
  case atStart => exact ⟨0, Nat.zero_le _, rfl, Below.refl _ _, by rw [List.drop_zero]; exact HO.out⟩
  case round =>
    obtain ⟨i, hi, rfl, HB, HT⟩ := hrel
    by_cases hlt : i < m
    · obtain ⟨p, hp⟩ : ∃ p, (spansS s)[i]? = some p := ⟨_, List.getElem?_eq_getElem (by rw [HM.out]; exact hlt)⟩
      obtain ⟨g, rfl, h0, h1⟩ := (SpO.at_ (RowG.below HL.out HB.out) hp)
      have i0 : (0 : Int) ≤ (i : Int) := by omega
      have i1 : (i : Int) < (m : Int) := by omega
      have HP := hide hp
      obtain ⟨xb, hxb⟩ : ∃ xb, wr.heap.size = xb := ⟨_, rfl⟩
      have HXB := hide (Box.newAt hxb 61 #[.int .i64 (p.1 : Nat), .int .i64 (p.2 : Nat)])
      have HB2 := hide (HB.out.alloc HB.out.size (.cells #[.int .i64 (p.1 : Nat), .int .i64 (p.2 : Nat)] 61))
      clear hp HB
      go_upto_region 4 with fail
      generalize wr.alloc (.cells #[.int .i64 (p.1 : Nat), .int .i64 (p.2 : Nat)] 61) = W1 at HXB HB2 ⊢
      clear h0 h1 hxb
      obtain ⟨⟨x0, x1⟩, -⟩ := HXB.out.c2
      obtain ⟨⟨r0, r1⟩, z0, z1⟩ := (HX1.out.below HB2.out).c2
      by_cases c1 : (p.1 : Int) ≤ at_
      · by_cases c2 : at_ ≤ (p.2 : Int)
        · have HE := hide (show some p = o from by
            rw [← HT.out, touch_here HP.out (by simp; exact ⟨c1, c2⟩)])
          go_wp2_with fail
          have hX2 := ((HX1.out.below HB2.out).set 0 (.int .i64 (p.1 : Nat))).set 1 (.int .i64 (p.2 : Nat))
          obtain ⟨⟨q0, q1⟩, _⟩ := hX2.c2
          refine bodyPost_ret (v := .tuple #[.agg #[.int .i64 (p.1 : Nat), .int .i64 (p.2 : Nat)], .bool true]) (by simp [results, Try.results39, go_sem, q0, q1]) rfl ⟨by rw [← HE.out]; rfl, ?_⟩
          have hz := HZ.out
          exact ((HB1.out.trans (HB2.out.mono HB1.out.size)).setCell (p := ⟨B0, 0, none⟩) (by simp [hz]) _).setCell (p := ⟨B0, 1, none⟩) (by simp [hz]) _
        · have HE := hide (show touchL ((spansS s).drop (i + 1)) at_ = o from by
            rw [← HT.out, touch_next HP.out (by simp; intro _; omega)])
          have c3 : decide (at_ ≤ (p.2 : Int)) = false := by simp; omega
          go_wp2_with fail
          go_roundw
          case rel => exact ⟨i + 1, by omega, by go_num, HB2.out, HE.out⟩
          case measure => simp [intOf]; omega
      · have HE := hide (show touchL ((spansS s).drop (i + 1)) at_ = o from by
          rw [← HT.out, touch_next HP.out (by simp; intro h; omega)])
        have c3 : decide ((p.1 : Int) ≤ at_) = false := by simp; omega
        go_wp2_with fail
        go_roundw
        case rel => exact ⟨i + 1, by omega, by go_num, HB2.out, HE.out⟩
        case measure => simp [intOf]; omega
    · have HE := hide (show o = none from by
        rw [← HT.out, List.drop_eq_nil_of_le (by rw [HM.out]; omega)]; rfl)
      obtain ⟨⟨r0, r1⟩, z0, z1⟩ := (HX1.out.below HB.out).c2
      go_wp2_with fail
      have hX2 := ((HX1.out.below HB.out).set 0 (.int .i64 0)).set 1 (.int .i64 0)
      obtain ⟨⟨q0, q1⟩, _⟩ := hX2.c2
      refine bodyPost_ret (v := .tuple #[.agg #[.int .i64 0, .int .i64 0], .bool false]) (by simp [results, Try.results39, go_sem, q0, q1]) rfl ⟨by rw [HE.out]; rfl, ?_⟩
      have hz := HZ.out
      exact ((HB1.out.trans (HB.out.mono HB1.out.size)).setCell (p := ⟨B0, 0, none⟩) (by simp [hz]) _).setCell (p := ⟨B0, 1, none⟩) (by simp [hz]) _

set_option maxRecDepth 100000 in
set_option maxHeartbeats 4000000 in
theorem rtouched_any (S : Option Addr) (n c : Nat) (s : List Int) (at_ : Int) (w : World) (h : Runes w S n s) (hn : n ≤ 1000000) (o : Option (Nat × Nat)) (ho : touchL (spansS s) at_ = o) :
    Calls Try.prog 56 #[.slice S n c, .int .i64 at_] w (TouchQ o w) := by
  obtain ⟨B0, hB0⟩ : ∃ B0, w.heap.size = B0 := ⟨_, rfl⟩
  have HX0 := hide (Box.newAt hB0 61 #[.int .i64 0, .int .i64 0])
  have HB0 := hide ((Below.refl w.heap.size w).alloc (Nat.le_refl _) (.cells #[.int .i64 0, .int .i64 0] 61))
  have HS := hide (h.alloc (.cells #[.int .i64 0, .int .i64 0] 61))
  have HO := hide ho
  have HN := hide (spans_len (s := s))
  have HLN := hide h.len
  have HZ := hide hB0
  clear h ho hB0
  go_enter Try.func56, Try.ntmps56
  go_wp2_with (go_at_call 35; (with_reducible refine (rspans_any S n c s _ HS.out hn).mono ?_); rintro e w1 ⟨A, m, d, rfl, hO, hb⟩)
  rw [HZ.out]
  have HL := hide hO
  have HX1 := hide (HX0.out.below hb)
  have HB1 := hide (HB0.out.trans (hb.mono HB0.out.size))
  clear hO hb HS HX0 HB0
  have hm : (spansS s).length = m := HL.out.len
  have HM := hide hm
  have hmn : m ≤ 1000000 := by have h1 := HN.out; have h2 := HLN.out; omega
  clear hm
  go_wp2_with fail
  go_loop [7] (fun s7 => ∃ i : Nat, i ≤ m ∧ s7 = .int .i64 i ∧ Hid (touchL ((spansS s).drop i) at_ = o)) (fun s7 => m - (intOf s7).toNat)
  case atStart => exact ⟨0, Nat.zero_le _, rfl, by rw [List.drop_zero]; exact HO.out⟩
  case round =>
    obtain ⟨i, hi, rfl, HT⟩ := hrel
    obtain ⟨⟨r0, r1⟩, z0, z1⟩ := HX1.out.c2
    by_cases hlt : i < m
    · obtain ⟨p, hp⟩ : ∃ p, (spansS s)[i]? = some p := ⟨_, List.getElem?_eq_getElem (by rw [HM.out]; exact hlt)⟩
      obtain ⟨g, rfl, h0, h1⟩ := (SpO.at_ HL.out hp)
      have i0 : (0 : Int) ≤ (i : Int) := by omega
      have i1 : (i : Int) < (m : Int) := by omega
      have HP := hide hp
      clear hp
      by_cases c1 : (p.1 : Int) ≤ at_
      · by_cases c2 : at_ ≤ (p.2 : Int)
        · have HE := hide (show some p = o from by
            rw [← HT.out, touch_here HP.out (by simp; exact ⟨c1, c2⟩)])
          go_wp2_with fail
          have hX2 := (HX1.out.set 0 (.int .i64 (p.1 : Nat))).set 1 (.int .i64 (p.2 : Nat))
          obtain ⟨⟨q0, q1⟩, _⟩ := hX2.c2
          refine bodyPost_ret (v := .tuple #[.agg #[.int .i64 (p.1 : Nat), .int .i64 (p.2 : Nat)], .bool true]) (by simp [results, Try.results56, go_sem, q0, q1]) rfl ⟨by rw [← HE.out]; rfl, ?_⟩
          have hz := HZ.out
          exact (HB1.out.setCell (p := ⟨B0, 0, none⟩) (by simp [hz]) _).setCell (p := ⟨B0, 1, none⟩) (by simp [hz]) _
        · have HE := hide (show touchL ((spansS s).drop (i + 1)) at_ = o from by
            rw [← HT.out, touch_next HP.out (by simp; intro _; omega)])
          have c3 : decide (at_ ≤ (p.2 : Int)) = false := by simp; omega
          go_wp2_with fail
          go_round
          case rel => exact ⟨i + 1, by omega, by go_num, HE.out⟩
          case measure => simp [intOf]; omega
      · have HE := hide (show touchL ((spansS s).drop (i + 1)) at_ = o from by
          rw [← HT.out, touch_next HP.out (by simp; intro h; omega)])
        have c3 : decide ((p.1 : Int) ≤ at_) = false := by simp; omega
        go_wp2_with fail
        go_round
        case rel => exact ⟨i + 1, by omega, by go_num, HE.out⟩
        case measure => simp [intOf]; omega
    · have HE := hide (show o = none from by
        rw [← HT.out, List.drop_eq_nil_of_le (by rw [HM.out]; omega)]; rfl)
      go_wp2_with fail
      have hX2 := (HX1.out.set 0 (.int .i64 0)).set 1 (.int .i64 0)
      obtain ⟨⟨q0, q1⟩, _⟩ := hX2.c2
      refine bodyPost_ret (v := .tuple #[.agg #[.int .i64 0, .int .i64 0], .bool false]) (by simp [results, Try.results56, go_sem, q0, q1]) rfl ⟨by rw [HE.out]; rfl, ?_⟩
      have hz := HZ.out
      exact (HB1.out.setCell (p := ⟨B0, 0, none⟩) (by simp [hz]) _).setCell (p := ⟨B0, 1, none⟩) (by simp [hz]) _
end Go.Proofs.Ytchcpeenpijekaa

/- Go's slices.insertionSortCmpFunc, swapRangeCmpFunc  at items, by tabs.Order's test. -/
namespace Go.Proofs.Ytchcpeenpijekaa
open Go.RowKit
set_option linter.unusedVariables false
namespace Stm

/-- A row of items of the call's own: item x stands for f x. -/
abbrev RowI (f : Int → IV) (w : World) (B : Nat) (A : Option Addr) (n c : Nat) (l : List Int) : Prop := RowG w 49 2 B A n c (l.map fun x => (f x).cells)
section
variable {f : Int → IV}
theorem RowI.len {w : World} {B n c : Nat} {A : Option Addr} {l : List Int} (h : RowI f w B A n c l) : l.length = n := by have := h.cnt; simpa using this
theorem itms_at {l : List Int} {j : Nat} (h : j < l.length) : (l.map fun x => (f x).cells)[j]? = some (f (nth l j)).cells := by simp [h, nth_eq]
theorem RowI.at_ {w : World} {B n c g : Nat} {l : List Int} (h : RowI f w B (some ⟨g, 0, none⟩) n c l) {j : Nat} (hj : j < n) : w.cell? ⟨g, j * 2, none⟩ = some (.slice (f (nth l j)).A (f (nth l j)).n (f (nth l j)).c) ∧ w.cell? ⟨g, j * 2 + 1, none⟩ = some (.int .i64 ((f (nth l j)).k : Nat)) ∧ w.frozen? ⟨g, j * 2, none⟩ = false ∧ w.frozen? ⟨g, j * 2 + 1, none⟩ = false := by
  have hv := itms_at (f := f) (l := l) (j := j) (by rw [h.len]; exact hj)
  obtain ⟨g1, e, h1, h2⟩ := h.cell (i := 0) hv (by omega) rfl
  injection e with e
  injection e with e
  subst e
  obtain ⟨g2, e, h3, h4⟩ := h.cell (i := 1) hv (by omega) rfl
  injection e with e
  injection e with e
  subst e
  rw [Nat.add_zero] at h1 h2
  exact ⟨h1, h3, h2, h4⟩
theorem RowI.put {w : World} {B n c g : Nat} {l : List Int} (h : RowI f w B (some ⟨g, 0, none⟩) n c l) {j : Nat} (hj : j < n) (x : Int) : RowI f ((w.setCell ⟨g, j * 2, none⟩ (.slice (f x).A (f x).n (f x).c)).setCell ⟨g, j * 2 + 1, none⟩ (.int .i64 ((f x).k : Nat))) B (some ⟨g, 0, none⟩) n c (l.set j x) := by
  have hv := itms_at (f := f) (l := l) (j := j) (by rw [h.len]; exact hj)
  have h1 := RowG.set h (i := 0) (u := .slice (f x).A (f x).n (f x).c) hv (by omega) rfl
  have hj' : j < (l.map fun x => (f x).cells).length := (List.getElem?_eq_some_iff.1 hv).1
  have h2 := RowG.set h1 (j := j) (i := 1) (v := (f (nth l j)).cells.set 0 (.slice (f x).A (f x).n (f x).c)) (u := .int .i64 ((f x).k : Nat)) (by rw [List.getElem?_set_self hj']) (by omega) rfl
  rw [Nat.add_zero, List.set_set] at h2
  have e : (l.map fun x => (f x).cells).set j (((f (nth l j)).cells.set 0 (.slice (f x).A (f x).n (f x).c)).set 1 (.int .i64 ((f x).k : Nat))) = (l.set j x).map fun x => (f x).cells := by rw [List.map_set]; rfl
  rw [e] at h2
  exact h2
theorem RowI.swap {w : World} {B n c g : Nat} {l : List Int} (h : RowI f w B (some ⟨g, 0, none⟩) n c l) {i j : Nat} (hi : i < n) (hj : j < n) : RowI f ((((w.setCell ⟨g, i * 2, none⟩ (.slice (f (nth l j)).A (f (nth l j)).n (f (nth l j)).c)).setCell ⟨g, i * 2 + 1, none⟩ (.int .i64 ((f (nth l j)).k : Nat))).setCell ⟨g, j * 2, none⟩ (.slice (f (nth l i)).A (f (nth l i)).n (f (nth l i)).c)).setCell ⟨g, j * 2 + 1, none⟩ (.int .i64 ((f (nth l i)).k : Nat))) B (some ⟨g, 0, none⟩) n c (swapL l i j) :=
  (h.put hi _).put hj _
end

/-- What the sort asks of its test: a call on two of the elements answers a number that is below 0 just if lt says so; R is what it needs, and goes on. -/
structure Cmp (f : Int → IV) (g : Nat) (lt : Int → Int → Bool) (R : World → Prop) (P : Int → Prop) : Prop where
  call : ∀ x y W, R W → P x → P y → Calls Try.prog 62 #[.agg #[.slice (f x).A (f x).n (f x).c, .int .i64 ((f x).k : Nat)], .agg #[.slice (f y).A (f y).n (f y).c, .int .i64 ((f y).k : Nat)]] W fun e W' => ∃ v : Int, e = .returned (.int .i64 v) ∧ decide (v < 0) = lt x y ∧ Below W.heap.size W W'
  goes : ∀ W W', R W → W.grownBy W' (some g) → R W'

set_option maxRecDepth 100000 in
set_option maxHeartbeats 4000000 in
theorem swapRange_any (f : Int → IV) (g : Nat) (B n c a b k : Nat) (l : List Int) (F : Value) (w : World) (h : RowI f w B (some ⟨g, 0, none⟩) n c l) (hab : a + k ≤ b) (hbn : b + k ≤ n) (hn : n ≤ 1000000) :
    Calls Try.prog 99 #[.slice (some ⟨g, 0, none⟩) n c, .int .i64 (a : Int), .int .i64 (b : Int), .int .i64 (k : Int), F] w fun e w' => e = .returned (.tuple #[]) ∧ w.grownBy w' (some g) ∧ ∃ l', RowI f w' B (some ⟨g, 0, none⟩) n c l' ∧
      (∀ i, i < k → nth l' (a + i) = nth l (b + i) ∧ nth l' (b + i) = nth l (a + i)) ∧ (∀ i, (i < a ∨ a + k ≤ i) → (i < b ∨ b + k ≤ i) → nth l' i = nth l i) := by
  have HR := hide h
  clear h
  go_enter Try.func99, Try.ntmps99
  go_wp2_with fail
  go_loopw [10] (fun i wr => ∃ (j : Nat) (l' : List Int), j ≤ k ∧ i = .int .i64 j ∧ w.grownBy wr (some g) ∧ Hid (RowI f wr B (some ⟨g, 0, none⟩) n c l') ∧
    Hid (∀ i, i < j → nth l' (a + i) = nth l (b + i) ∧ nth l' (b + i) = nth l (a + i)) ∧ Hid (∀ i, (i < a ∨ a + j ≤ i) → (i < b ∨ b + j ≤ i) → nth l' i = nth l i)) (fun i _ => k - (intOf i).toNat)
  case atStart => exact ⟨0, l, Nat.zero_le _, rfl, World.grownBy.refl w _, HR.out, (fun i hi => absurd hi (by omega)), fun _ _ _ => rfl⟩
  case round =>
    obtain ⟨j, l', hj, rfl, hgr, HL, H1, H2⟩ := hrel
    have HG := hide hgr
    clear hgr
    by_cases hlt : j < k
    · obtain ⟨ca, caz, fa, faz⟩ := HL.out.at_ (j := a + j) (by omega)
      obtain ⟨cb, cbz, fb, fbz⟩ := HL.out.at_ (j := b + j) (by omega)
      have HX := hide (HL.out.swap (i := a + j) (j := b + j) (by omega) (by omega))
      have hlen := HL.out.len
      have s0 : (0 : Int) ≤ (a : Int) + (j : Int) := by omega
      have s1 : (a : Int) + (j : Int) < (n : Int) := by omega
      have s2 : (0 : Int) ≤ (b : Int) + (j : Int) := by omega
      have s3 : (b : Int) + (j : Int) < (n : Int) := by omega
      have s4 : ((a : Int) + (j : Int)).toNat = a + j := by omega
      have s5 : ((b : Int) + (j : Int)).toNat = b + j := by omega
      have s6 : IntKind.i64.wrap ((a : Int) + (j : Int)) = (a : Int) + (j : Int) := IntWalk.i64_in _ (by omega)
      have s7 : IntKind.i64.wrap ((b : Int) + (j : Int)) = (b : Int) + (j : Int) := IntWalk.i64_in _ (by omega)
      have hne : a + j ≠ b + j := by omega
      go_wp2_with fail
      go_region
      go_wp2_with fail
      have HX2 := hide (show RowI f ((((wr.setCell ⟨g, (a + j) * 2, none⟩ (.slice (f (nth l' (b + j))).A (f (nth l' (b + j))).n (f (nth l' (b + j))).c)).setCell ⟨g, (a + j) * 2 + 1, none⟩ (.int .i64 ((f (nth l' (b + j))).k : Nat))).setCell ⟨g, (b + j) * 2, none⟩ (.slice (f (nth l' (a + j))).A (f (nth l' (a + j))).n (f (nth l' (a + j))).c)).setCell ⟨g, (b + j) * 2 + 1, none⟩ (.int .i64 ((f (nth l' (a + j))).k : Nat))).drew B (some ⟨g, 0, none⟩) n c (swapL l' (a + j) (b + j)) from RowG.drewN HX.out 1)
      have HG2 := hide (grown_drewN (grown_set (grown_set (grown_set (grown_set HG.out ((a + j) * 2) (.slice (f (nth l' (b + j))).A (f (nth l' (b + j))).n (f (nth l' (b + j))).c)) ((a + j) * 2 + 1) (.int .i64 ((f (nth l' (b + j))).k : Nat))) ((b + j) * 2) (.slice (f (nth l' (a + j))).A (f (nth l' (a + j))).n (f (nth l' (a + j))).c)) ((b + j) * 2 + 1) (.int .i64 ((f (nth l' (a + j))).k : Nat))) 1)
      have HN := hide (fun q => swapL_nth (l := l') (i := a + j) (j := b + j) (by omega) (by omega) q)
      go_roundw
      case rel => exact ⟨j + 1, _, by omega, by go_num, HG2.out, HX2.out, (fun i hi => by
        by_cases e : i = j
        · subst e
          rw [HN.out, HN.out, if_neg (by omega), if_pos rfl, if_pos rfl]
          exact ⟨H2.out (b + i) (by omega) (by omega), H2.out (a + i) (by omega) (by omega)⟩
        · rw [HN.out, HN.out, if_neg (by omega), if_neg (by omega), if_neg (by omega), if_neg (by omega)]
          exact H1.out i (by omega)), (fun i h1 h2 => by
        rw [HN.out, if_neg (by omega), if_neg (by omega)]
        exact H2.out i (by omega) (by omega))⟩
      case measure => simp [intOf]; omega
    · obtain rfl : j = k := by omega
      go_wp2_with fail
      go_end0
      exact ⟨rfl, HG.out, l', HL.out, H1.out, H2.out⟩

set_option maxRecDepth 100000 in
set_option maxHeartbeats 4000000 in
theorem insertion_any (f : Int → IV) (g : Nat) (lt : Int → Int → Bool) (hw : Weak lt) (R : World → Prop) (P : Int → Prop) (hc : Cmp f g lt R P) (B n c a b : Nat) (l : List Int) (w : World) (h : RowI f w B (some ⟨g, 0, none⟩) n c l) (hR : R w) (hP : ∀ x ∈ l, P x)
    (hab : a ≤ b) (hbn : b ≤ n) (hn : n ≤ 1000000) (hup : ∀ i j, a ≤ i → i < j → j < b → nth l i < nth l j) :
    Calls Try.prog 82 #[.slice (some ⟨g, 0, none⟩) n c, .int .i64 (a : Int), .int .i64 (b : Int), .func (.func 62) #[] #[]] w fun e w' => e = .returned (.tuple #[]) ∧ w.grownBy w' (some g) ∧ ∃ l', RowI f w' B (some ⟨g, 0, none⟩) n c l' ∧ Sub a b l l' ∧ Srt lt l' a b := by
  have HR := hide h
  have HRR := hide hR
  have HC := hide hc
  have HP := hide hP
  have HUP := hide hup
  have eg := Try.call62
  clear h hR hc hP hup
  go_enter Try.func82, Try.ntmps82
  go_wp2_with fail
  go_loopg [8] (b - a) (fun g1 vi wr => ∃ (i : Nat) (l1 : List Int), vi = .int .i64 i ∧ a < i ∧ i ≤ b + 1 ∧ b + 1 - i ≤ g1 + 1 ∧ w.grownBy wr (some g) ∧ Hid (RowI f wr B (some ⟨g, 0, none⟩) n c l1) ∧ Hid (Sub a (min i b) l l1) ∧ Hid (Srt lt l1 a (min i b)))
  case atStart => exact ⟨a + 1, l, by go_num, by omega, by omega, by omega, World.grownBy.refl w _, HR.out, Sub.refl _ _ _, fun x y h1 h2 h3 => by omega⟩
  case round =>
    obtain ⟨gO, rfl⟩ : ∃ gO : Nat, gO = gk := ⟨_, rfl⟩
    obtain ⟨i, l1, rfl, hai, hib, hg1, hgr, HL, HS, HT⟩ := hrel
    have HG := hide hgr
    clear hgr
    by_cases hlt : i < b
    · have hmin : min i b = i := by omega
      rw [hmin] at HS HT
      clear hmin
      have hlen := HL.out.len
      have hl0 := HR.out.len
      -- the elements ahead have lower numbers
      have HLOW := hide (fun (k : Nat) (h1 : a ≤ k) (h2 : k < i) => show nth l1 k < nth l1 i from by
        obtain ⟨u, q1, q2, e⟩ := HS.out.in_ k h1 h2
        rw [e, HS.out.out i (by omega)]
        exact HUP.out u i q1 q2 hlt)
      have HPI := hide (fun (k : Nat) (h1 : k < n) => show P (nth l1 k) from by
        by_cases e : a ≤ k ∧ k < i
        · obtain ⟨u, q1, q2, e⟩ := HS.out.in_ k e.1 e.2
          rw [e]
          exact HP.out _ (nth_mem (by omega))
        · rw [HS.out.out k (by omega)]
          exact HP.out _ (nth_mem (by omega)))
      go_wp2_with fail
      go_loopg [9] i (fun g2 vj wr2 => ∃ (j : Nat) (l2 : List Int), vj = .int .i64 j ∧ a ≤ j ∧ j ≤ i ∧ j ≤ g2 ∧ w.grownBy wr2 (some g) ∧ Hid (RowI f wr2 B (some ⟨g, 0, none⟩) n c l2) ∧ Hid (Down l1 l2 i j) ∧ Hid (∀ k, j ≤ k → k < i → LtP lt (nth l1 i) (nth l1 k)))
      case atStart => exact ⟨i, l1, rfl, by omega, Nat.le_refl _, Nat.le_refl _, HG.out, HL.out, Down.start _ _, fun k h1 h2 => by omega⟩
      case round =>
        obtain ⟨j, l2, rfl, haj, hji, hg2, hgr2, HL2, HD, HK⟩ := hrel
        have HG2 := hide hgr2
        clear hgr2
        -- where it stands at last
        have HOUT := hide (fun (hst : j = a ∨ lt (nth l1 i) (nth l1 (j - 1)) = false) => show Sub a (min (i + 1) b) l l2 ∧ Srt lt l2 a (min (i + 1) b) from by
          have hd := HD.out
          rw [show min (i + 1) b = i + 1 by omega]
          refine ⟨(HS.out.wider (Nat.le_refl _) (by omega)).trans (hd.sub haj hji (by omega)), hd.srt hw haj hji HT.out HK.out fun k h1 h2 => ?_⟩
          rcases hst with e | e
          · omega
          · have h3 : LtP lt (nth l1 (j - 1)) (nth l1 i) := (LtP.up (HLOW.out (j - 1) (by omega) (by omega))).2 e
            by_cases ek : k = j - 1
            · rw [ek]; exact h3
            · exact (HT.out k (j - 1) h1 (by omega) (by omega)).tr hw h3)
        by_cases hja : a < j
        · obtain ⟨p, hp⟩ : ∃ p, j = p + 1 := ⟨j - 1, by omega⟩
          have HJP := hide hp
          obtain ⟨cj, cjz, fj, fjz⟩ := HL2.out.at_ (j := j) (by omega)
          obtain ⟨cp, cpz, fp, fpz⟩ := HL2.out.at_ (j := p) (by omega)
          rw [HD.out.at_] at cj cjz
          rw [HD.out.lo p (by omega)] at cp cpz
          have HCALL := hide (fun W (hb : Below wr.heap.size wr W) => HC.out.call (nth l1 i) (nth l1 p) W (HC.out.goes _ _ (HC.out.goes _ _ HRR.out HG2.out) ⟨hb.os, hb.tape, hb.output, hb.size, fun u hu _ => hb.block u hu⟩) (HPI.out i (by omega)) (HPI.out p (by omega)))
          have hji1 : j - 1 = p := by omega
          rw [hji1] at HOUT
          have e1 : IntKind.i64.wrap ((j : Int) - 1) = (p : Int) := by rw [IntWalk.i64_in _ (by omega)]; omega
          have p0 : (0 : Int) ≤ (j : Int) := by omega
          have p1 : (j : Int) < (n : Int) := by omega
          have p2 : (0 : Int) ≤ (p : Int) := by omega
          have p3 : (p : Int) < (n : Int) := by omega
          have p4 : (a : Int) < (j : Int) := by omega
          have p5 : decide (a < j) = true := by simp; omega
          have hjn : j < n := by omega
          have hpn : p < n := by omega
          have hpi : p + 1 ≤ i := by omega
          have hil : i < l1.length := by omega
          have hjp : j ≠ p := by omega
          clear hp hji1
          go_wp2_with fail
          go_region_held3 (fun w' => w'.cell? ⟨g, j * 2, none⟩ = some (.slice (f (nth l1 i)).A (f (nth l1 i)).n (f (nth l1 i)).c) ∧ w'.cell? ⟨g, j * 2 + 1, none⟩ = some (.int .i64 ((f (nth l1 i)).k : Nat)) ∧ w'.cell? ⟨g, p * 2, none⟩ = some (.slice (f (nth l1 p)).A (f (nth l1 p)).n (f (nth l1 p)).c) ∧ w'.cell? ⟨g, p * 2 + 1, none⟩ = some (.int .i64 ((f (nth l1 p)).k : Nat))) (first | go_keep)
            (first
             | (go_at_call 62; (with_reducible refine (HCALL.out _ (Below.refl _ _).drew).mono ?_); rintro e w5 ⟨v, rfl, hv, hb5⟩; have HL5 := hide (show RowI f w5 B (some ⟨g, 0, none⟩) n c l2 from RowG.below (RowG.drewN HL2.out 1) hb5); have HG5 := hide (show w.grownBy w5 (some g) from (grown_drewN HG2.out 1).trans ⟨hb5.os, hb5.tape, hb5.output, hb5.size, fun u hu _ => hb5.block u hu⟩); have HV := hide hv; clear hv hb5; obtain ⟨k1, k1z, k3, k3z⟩ := HL5.out.at_ (j := j) hjn; obtain ⟨k2, k2z, k4, k4z⟩ := HL5.out.at_ (j := p) hpn; rw [HD.out.at_] at k1 k1z; rw [HD.out.lo p (.inl (by have := HJP.out; clear e1; omega))] at k2 k2z))
          cases hlt2 : lt (nth l1 i) (nth l1 p)
          · have hv := HV.out
            rw [hlt2] at hv
            have hv2 : ¬ (v < 0) := by simpa using hv
            have HO := hide (HOUT.out (.inr hlt2))
            have hmin : min (i + 1) b = i + 1 := by clear e1; omega
            rw [hmin] at HO
            clear hv hlt2 hmin
            go_wp2_with fail
            clear e1
            go_roundg (b - (i + 1))
            case measure => omega
            case rel => exact ⟨i + 1, l2, by go_num, by omega, by omega, by omega, HG5.out, HL5.out, by rw [show min (i + 1) b = i + 1 by omega]; exact HO.out.1, by rw [show min (i + 1) b = i + 1 by omega]; exact HO.out.2⟩
          · have hv := HV.out
            rw [hlt2] at hv
            have hv2 : v < 0 := by simpa using hv
            have HLT := hide hlt2
            have HX := hide (HL5.out.swap (i := j) (j := p) hjn hpn)
            have hd := HD.out
            rw [HJP.out] at hd
            have HD2 := hide (hd.step hpi hil)
            rw [← HJP.out] at HD2
            have ej : nth l2 j = nth l1 i := HD.out.at_
            have ep : nth l2 p = nth l1 p := HD.out.lo p (.inl (by have := HJP.out; clear e1; omega))
            rw [ej, ep] at HX
            clear hv hlt2 ej ep hd
            go_wp2_with fail
            go_region
            go_wp2_with fail
            have HX2 := hide (show RowI f ((((w5.setCell ⟨g, j * 2, none⟩ (.slice (f (nth l1 p)).A (f (nth l1 p)).n (f (nth l1 p)).c)).setCell ⟨g, j * 2 + 1, none⟩ (.int .i64 ((f (nth l1 p)).k : Nat))).setCell ⟨g, p * 2, none⟩ (.slice (f (nth l1 i)).A (f (nth l1 i)).n (f (nth l1 i)).c)).setCell ⟨g, p * 2 + 1, none⟩ (.int .i64 ((f (nth l1 i)).k : Nat))).drew B (some ⟨g, 0, none⟩) n c (swapL l2 j p) from RowG.drewN HX.out 1)
            have HGX := hide (grown_drewN (grown_set (grown_set (grown_set (grown_set HG5.out (j * 2) (.slice (f (nth l1 p)).A (f (nth l1 p)).n (f (nth l1 p)).c)) (j * 2 + 1) (.int .i64 ((f (nth l1 p)).k : Nat))) (p * 2) (.slice (f (nth l1 i)).A (f (nth l1 i)).n (f (nth l1 i)).c)) (p * 2 + 1) (.int .i64 ((f (nth l1 i)).k : Nat))) 1)
            clear e1
            go_roundg p
            case measure => have := HJP.out; omega
            case rel => exact ⟨p, swapL l2 j p, rfl, by have := HJP.out; omega, by omega, by have := HJP.out; omega, HGX.out, HX2.out, HD2.out, fun k h1 h2 => by
              by_cases e : k = p
              · rw [e]; exact .inl HLT.out
              · exact HK.out k (by have := HJP.out; omega) h2⟩
        · have d1 : decide (a < j) = false := by simp; omega
          have d2 : ¬ ((a : Int) < (j : Int)) := by omega
          have HO := hide (HOUT.out (.inl (by omega)))
          go_wp2_with fail
          go_quiet (fail)
          go_wp2_with fail
          go_roundg (b - (i + 1))
          case measure => omega
          case rel => exact ⟨i + 1, l2, by go_num, by omega, by omega, by omega, grown_drewN HG2.out _, RowG.drewN HL2.out _, HO.out.1, HO.out.2⟩
    · have hmin : min i b = b := by omega
      rw [hmin] at HS HT
      clear hmin
      go_wp2_with fail
      go_end0
      exact ⟨rfl, HG.out, l1, HL.out, HS.out, HT.out⟩
end Stm
end Go.Proofs.Ytchcpeenpijekaa
