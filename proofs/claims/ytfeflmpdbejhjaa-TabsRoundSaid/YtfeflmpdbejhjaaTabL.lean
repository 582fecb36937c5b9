/- The laws' helpers of layer 18: standishkeep.Index, few, same, known. -/
import Derived.Test.YtfeflmpdbejhjaaTabR
namespace Go.Proofs.Ytfeflmpdbejhjaa
open Go.RowKit
set_option linter.unusedVariables false

theorem and_of (k m : Nat) (x : Int) (hm : m = 4294967295 ∨ m = 7 ∨ m = 3) : 0 ≤ bits .and .i64 x (m : Int) ∧ bits .and .i64 x (m : Int) ≤ (m : Int) := by
  have h : bits .and .i64 x (m : Int) = IntKind.i64.wrap ((BitVec.ofInt 64 x &&& BitVec.ofInt 64 (m : Int)).toNat : Int) := rfl
  have hb : (BitVec.ofInt 64 x &&& BitVec.ofInt 64 (m : Int)).toNat ≤ m := by
    rw [BitVec.toNat_and]
    refine Nat.le_trans Nat.and_le_right ?_
    rcases hm with rfl | rfl | rfl <;> decide
  rw [h, IntKind.wrap_i64]
  omega
theorem and_low (k : Int) : 0 ≤ bits .and .i64 k 4294967295 ∧ bits .and .i64 k 4294967295 ≤ 4294967295 := and_of 0 4294967295 k (.inl rfl)
theorem and_7 (k : Int) : 0 ≤ bits .and .i64 k 7 ∧ bits .and .i64 k 7 ≤ 7 := and_of 0 7 k (.inr (.inl rfl))
theorem and_3 (k : Int) : 0 ≤ bits .and .i64 k 3 ∧ bits .and .i64 k 3 ≤ 3 := and_of 0 3 k (.inr (.inr rfl))
/-- Index: a number from 0 to below n, of any number k. -/
def idxN (k : Int) (n : Nat) : Nat := ((bits .and .i64 k 4294967295) % (n : Int)).toNat
theorem idxN_lt {k : Int} {n : Nat} (h : 0 < n) : idxN k n < n := by
  have h1 := and_low k
  have h2 : (bits .and .i64 k 4294967295) % (n : Int) < n := Int.emod_lt_of_pos _ (by omega)
  have h3 : 0 ≤ (bits .and .i64 k 4294967295) % (n : Int) := Int.emod_nonneg _ (by omega)
  unfold idxN
  omega
set_option maxHeartbeats 400000 in
theorem index_any (k n : Int) (w : World) (h : 0 < n) (hn : n ≤ 9223372036854775807) :
    Calls Try.prog 8 #[.int .i64 k, .int .i64 n] w fun e w' => e = .returned (.int .i64 (idxN k n.toNat)) ∧ w = w' := by
  obtain ⟨n, rfl⟩ := Int.eq_ofNat_of_zero_le (show 0 ≤ n by omega)
  have h1 := and_low k
  have h2 := h1.1
  have hnz : ((n : Int) == 0) = false := by simp; omega
  go_enter Try.func8, Try.ntmps8
  go_wp2
  go_ret
  refine ⟨retI ?_, rfl⟩
  unfold idxN
  rw [Int.toNat_of_nonneg (Int.emod_nonneg _ (by omega))]
  simp

theorem fieldT : RowT 22 33 11 128 := ⟨Try.underlying22, ⟨.agg #[.int .i64 0, .int .i64 0, .int .i64 0, .int .i64 0, .int .i64 0, .int .i64 0, .slice none 0 0, .slice none 0 0, .slice none 0 0, .bool false, .bool false], by kernel_rfl, by kernel_rfl⟩, by omega⟩
theorem FV.one (v : FV) : v.cells.length = 11 ∧ ∀ u ∈ v.cells, u.oneCell' = true := ⟨rfl, fun u hu => by
  simp only [FV.cells, List.mem_cons, List.mem_nil_iff, or_false] at hu
  rcases hu with rfl | rfl | rfl | rfl | rfl | rfl | rfl | rfl | rfl | rfl | rfl <;> rfl⟩
def WF (v : FV) : Prop := (-9223372036854775808 ≤ v.kind ∧ v.kind ≤ 9223372036854775807) ∧ (-9223372036854775808 ≤ v.num ∧ v.num ≤ 9223372036854775807)
/-- A row of fields of the call's own. -/
def fcells (us : Nat → FV) (n : Nat) : List (List Value) := (List.range n).map fun j => (us j).cells
theorem fcells_succ (us : Nat → FV) (n : Nat) : fcells us (n + 1) = fcells us n ++ [(us n).cells] := by simp [fcells, List.range_succ]
theorem fcells_each (us : Nat → FV) (n : Nat) : Each 11 (fcells us n) := fun v hv => by
  obtain ⟨j, _, rfl⟩ := List.mem_map.1 hv
  exact (us j).one
abbrev RowF (w : World) (B : Nat) (A : Option Addr) (n c : Nat) (us : Nat → FV) : Prop := RowG w 33 11 B A n c (fcells us n)
theorem RowF.read {w : World} {B n c : Nat} {A : Option Addr} {us : Nat → FV} (h : RowF w B A n c us) (hwf : ∀ j, j < n → WF (us j)) : Flds w A n us :=
  ⟨fun j hj => by
    have hv : (fcells us n)[j]? = some (us j).cells := by simp [fcells, hj]
    have hg : ∀ i, i < 11 → ∃ g, A = some ⟨g, 0, none⟩ ∧ w.cell? ⟨g, j * 11 + i, none⟩ = (us j).cells[i]? := fun i hi => by
      have hi2 : i < (us j).cells.length := by rw [(us j).one.1]; exact hi
      obtain ⟨g, h1, h2, _⟩ := h.cell hv hi (List.getElem?_eq_getElem hi2)
      exact ⟨g, h1, h2.trans (List.getElem?_eq_getElem hi2).symm⟩
    obtain ⟨g, e, _⟩ := hg 0 (by omega)
    refine ⟨g, 0, e, fun i hi => ?_⟩
    obtain ⟨g', e', h2⟩ := hg i hi
    rw [e] at e'
    injection e' with e'
    injection e' with e1
    subst e1
    rw [Nat.zero_add]
    exact h2, hwf⟩
def fewV (v : FV) : FV := ⟨bits .and .i64 v.kind 3, bits .and .i64 v.num 7 - 1, 0, 0, 0, 0, none, 0, 0, none, 0, 0, none, 0, 0, false, false⟩
theorem fewV_wf (v : FV) : WF (fewV v) := by
  have h1 := and_7 v.num
  have h2 := and_3 v.kind
  unfold WF fewV
  simp only
  omega
def fewU (us : Nat → FV) (j : Nat) : FV := fewV (us j)

set_option maxRecDepth 100000 in
set_option maxHeartbeats 4000000 in
theorem few_any (A : Option Addr) (n c : Nat) (us : Nat → FV) (w : World) (h : Flds w A n us) (hn : n ≤ 9223372036854775807) :
    Calls Try.prog 6 #[.slice A n c] w fun e w' => ∃ A' m c', e = .returned (.slice A' m c') ∧ m = min n 40 ∧ RowF w' w.heap.size A' m c' (fewU us) ∧ Below w.heap.size w w' := by
  have HF := hide h
  clear h
  go_enter Try.func6, Try.ntmps6
  go_wp2_with fail
  go_loopw [3, 4] (fun v i wr => ∃ (k c' : Nat) (A' : Option Addr), k ≤ n ∧ k ≤ 40 ∧ i = .int .i64 (k : Int) ∧ v = .slice A' k c' ∧ RowF wr w.heap.size A' k c' (fewU us) ∧ Below w.heap.size w wr) (fun _ i _ => n - (intOf i).toNat)
  case atStart => exact ⟨0, 0, none, Nat.zero_le _, Nat.zero_le _, rfl, rfl, RowG.nil _ _ _ _, Below.refl _ _⟩
  case round =>
    obtain ⟨k, c', A', hk, hk40, rfl, rfl, hr, hb⟩ := hrel
    have HR := hide hr
    have HB := hide hb
    have HF1 := hide (HF.out.below hb)
    clear hr hb
    by_cases hlt : k < n
    · by_cases h40 : k < 40
      · obtain ⟨b, o, rfl, c0, c1, _⟩ := HF1.out.c11 hlt
        have i0 : (0 : Int) ≤ (k : Int) := by omega
        have i1 : (k : Int) < (n : Int) := by omega
        have i2 : (k : Int) < 40 := by omega
        have g1 := and_7 (us k).num
        have v1 : IntKind.i64.wrap (bits .and .i64 (us k).num 7 - 1) = bits .and .i64 (us k).num 7 - 1 := by rw [IntWalk.i64_in _ (by omega)]
        have HZ := hide HB.out.size
        go_wp2_with fail
        go_region_held3 (fun w' => w'.cell? ⟨b, o + k * 11, none⟩ = some (.int .i64 (us k).kind) ∧ w'.cell? ⟨b, o + k * 11 + 1, none⟩ = some (.int .i64 (us k).num)) (first | go_keep)
          (first
           | (refine step_appG fieldT (by rfl) (.tmp 15) (.tmp 30) (by rfl) w.heap.size (by rfl) (by first | exact RowG.drewN (HR.out.alloc _) 1 | exact RowG.alloc (RowG.drewN HR.out 1) _) (m := 1) (d := 1) (by rfl) (us := [(fewU us k).cells]) (by first | exact news_box (cs := (fewU us k).cells.toArray) (Box.drewN (Box.new wr _ _) 1) | exact news_box (cs := (fewU us k).cells.toArray) (Box.new _ _ _)) (Each.one (fewU us k).one.1 (fewU us k).one.2) rfl (by omega) (by omega) (by omega) (by have := HZ.out; simp; omega) ?_
              intro A2 c2 w2 hr2 hg2 hb2 hor
              have hbw : Below w.heap.size w w2 := (by first | exact (below_drewN (HB.out.alloc HB.out.size _) 1).trans hb2 | exact ((below_drewN HB.out 1).alloc HB.out.size _).trans hb2)
              have HBW := hide hbw
              obtain ⟨b3, o3, e3, s0, s1, _⟩ := (HF.out.below hbw).c11 hlt
              injection e3 with e3
              injection e3 with e4 e5
              subst e4 e5
              clear hbw))
        all_goals go_wp2_with fail
        all_goals go_roundw
        case rel => exact ⟨k + 1, c2, some ⟨A2, 0, none⟩, by omega, by omega, by go_num, rfl, by
          show RowG _ _ _ _ _ _ _ _
          rw [fcells_succ]
          exact hr2, HBW.out⟩
        case measure => simp [intOf]; omega
      · go_wp2_with fail
        go_ret
        exact ⟨A', k, c', rfl, by omega, HR.out, HB.out⟩
    · go_wp2_with fail
      go_ret
      exact ⟨A', k, c', rfl, by omega, HR.out, HB.out⟩

set_option maxRecDepth 100000 in
set_option maxHeartbeats 8000000 in
theorem same18_any (A : Option Addr) (n c : Nat) (us : Nat → FV) (a : Int) (w : World) (h : Flds w A n us) (hn : n ≤ 1000000) :
    Calls Try.prog 7 #[.slice A n c, .int .i64 a] w fun e w' => e = .returned (.bool true) ∧ Below w.heap.size w w' := by
  have HO := hide (fun (W : World) (hb : Below w.heap.size w W) => order_any A n c us W (h.below hb) hn)
  have HP := hide (fun (W : World) (hb : Below w.heap.size w W) => rorder_any A n c us W (h.below hb) hn)
  have HN1 := hide (fun (W : World) (hb : Below w.heap.size w W) => next_any A n c us a W (h.below hb) hn)
  have HN2 := hide (fun (W : World) (hb : Below w.heap.size w W) => prev_any A n c us a W (h.below hb) hn)
  have HR1 := hide (fun (W : World) (hb : Below w.heap.size w W) => rbeside_any A n c us a 1 W (h.below hb) hn (by omega))
  have HR2 := hide (fun (W : World) (hb : Below w.heap.size w W) => rbeside_any A n c us a (-1) W (h.below hb) hn (by omega))
  have hol := ordR_len us n
  clear h
  generalize ordR us n = o at HO HP HN1 HN2 HR1 HR2 hol
  generalize bsdS o a 1 = x at HN1 HR1
  generalize bsdS o a (-1) = y at HN2 HR2
  obtain ⟨x1, x2⟩ := x
  obtain ⟨y1, y2⟩ := y
  have dx : (x1 == x1) = true := by simp
  have dy : (y1 == y1) = true := by simp
  have dx2 : (x2 == x2) = true := by simp
  have dy2 : (y2 == y2) = true := by simp
  go_enter Try.func7, Try.ntmps7
  go_wp2_with fail
  refine (HO.out _ (Below.refl _ _)).mono ?_
  rintro e w1 ⟨A1, m1, c1, rfl, hr1, hb1⟩
  have H1 := hide hr1
  have B1 := hide hb1
  have hm1 := RowI.len hr1
  clear hr1 hb1
  go_wp2_with fail
  refine (HN1.out _ B1.out).mono ?_
  rintro e w2 ⟨rfl, hb2⟩
  have B2 := hide (B1.out.trans (hb2.mono B1.out.size))
  have H2 := hide (RowG.below H1.out hb2)
  clear hb2
  go_wp2_with fail
  refine (HR1.out _ B2.out).mono ?_
  rintro e w3 ⟨rfl, hb3⟩
  have B3 := hide (B2.out.trans (hb3.mono B2.out.size))
  have H3 := hide (RowG.below H2.out hb3)
  clear hb3
  go_wp2_with fail
  refine (HN2.out _ B3.out).mono ?_
  rintro e w4 ⟨rfl, hb4⟩
  have B4 := hide (B3.out.trans (hb4.mono B3.out.size))
  have H4 := hide (RowG.below H3.out hb4)
  clear hb4
  go_wp2_with fail
  refine (HR2.out _ B4.out).mono ?_
  rintro e w5 ⟨rfl, hb5⟩
  have B5 := hide (B4.out.trans (hb5.mono B4.out.size))
  have H5 := hide (RowG.below H4.out hb5)
  clear hb5 H1 H2 H3 H4
  go_wp2_with fail
  refine (HP.out _ B5.out).mono ?_
  rintro e w6 ⟨A6, m6, c6, rfl, hr6, hb6⟩
  have B6 := hide (B5.out.trans (hb6.mono B5.out.size))
  have H6 := hide (RowG.below H5.out hb6)
  have hm6 := RowI.len hr6
  have HV6 := hide (RowI.read hr6)
  clear hb6 hr6 H5
  go_wp2_with fail
  refine (sameInts_any A1 A6 m1 c1 m6 c6 o o w6 (RowI.read H6.out) HV6.out (by omega) (by omega)).mono ?_
  rintro e w7 ⟨rfl, q7, rfl⟩
  rw [show decide (o = o) = true by simp]
  have B7 := hide (below_drewN B6.out q7)
  have H7 := hide (RowG.drewN H6.out q7)
  generalize hw7 : w6.drewN q7 = w7 at B7 H7 ⊢
  clear hw7 HV6 H6
  go_wp2_with fail
  go_loopw [15, 68] (fun _ i wr => ∃ (k : Nat) (l : List Int), k ≤ m1 ∧ i = .int .i64 (k : Int) ∧ RowI wr w.heap.size A1 m1 c1 l ∧ Below w.heap.size w wr) (fun _ i _ => m1 - (intOf i).toNat)
  case atStart => exact ⟨0, o, Nat.zero_le _, rfl, H7.out, B7.out⟩
  case round =>
    obtain ⟨k, l, hk, rfl, hr, hb⟩ := hrel
    have HR := hide hr
    have HB := hide hb
    clear hr hb H7
    by_cases hlt : k < m1
    · rcases RowG.form HR.out with ⟨_, h0, _⟩ | ⟨g, rfl, hg1, hg2⟩
      · omega
      have h0 : (0 : Int) ≤ (k : Int) := by omega
      have h1 : (k : Int) < (m1 : Int) := by omega
      obtain ⟨hc, hf⟩ := RowI.at_ HR.out hlt
      have HS := hide (RowI.put HR.out hlt (-9))
      have HBS := hide (HB.out.setCell (p := ⟨g, k, none⟩) hg1 (.int .i64 (-9)))
      go_wp2_with fail
      go_roundw
      case rel => exact ⟨k + 1, _, by omega, by go_num, HS.out, HBS.out⟩
      case measure => simp [intOf]; omega
    · go_wp2_with fail
      refine (HO.out _ HB.out).mono ?_
      rintro e w8 ⟨A8, m8, c8, rfl, hr8, hb8⟩
      have H8 := hide hr8
      have B8 := hide (HB.out.trans (hb8.mono HB.out.size))
      have hm8 := RowI.len hr8
      clear hr8 hb8
      go_wp2_with fail
      refine (HP.out _ B8.out).mono ?_
      rintro e w9 ⟨A9, m9, c9, rfl, hr9, hb9⟩
      have H9 := hide hr9
      have H89 := hide (RowG.below H8.out hb9)
      have B9 := hide (B8.out.trans (hb9.mono B8.out.size))
      have hm9 := RowI.len hr9
      clear hr9 hb9
      go_wp2_with fail
      refine (sameInts_any A8 A9 m8 c8 m9 c9 o o w9 (RowI.read H89.out) (RowI.read H9.out) (by omega) (by omega)).mono ?_
      rintro e w10 ⟨rfl, q10, rfl⟩
      rw [show decide (o = o) = true by simp]
      have B10 := hide (below_drewN B9.out q10)
      go_wp2_with fail
      go_ret
      exact ⟨rfl, B10.out⟩

def kV (k n : Int) : FV := ⟨k, n, 0, 0, 0, 0, none, 0, 0, none, 0, 0, none, 0, 0, false, false⟩
def kF (j : Nat) : FV := if j = 0 then kV 0 0 else if j = 1 then kV 0 2 else if j = 2 then kV 1 1 else kV 2 1
theorem kF_flds {w : World} {g : Nat} (h : Box w g 33 ((kF 0).cells ++ (kF 1).cells ++ (kF 2).cells ++ (kF 3).cells).toArray) : Flds w (some ⟨g, 0, none⟩) 4 kF :=
  ⟨fun j hj => ⟨g, 0, rfl, fun i hi => by
    rw [h.cell]
    have hj4 : j = 0 ∨ j = 1 ∨ j = 2 ∨ j = 3 := by omega
    have hi11 : i = 0 ∨ i = 1 ∨ i = 2 ∨ i = 3 ∨ i = 4 ∨ i = 5 ∨ i = 6 ∨ i = 7 ∨ i = 8 ∨ i = 9 ∨ i = 10 := by omega
    rcases hj4 with rfl | rfl | rfl | rfl <;> rcases hi11 with rfl | rfl | rfl | rfl | rfl | rfl | rfl | rfl | rfl | rfl | rfl <;> rfl⟩, fun j hj => by
    have hj4 : j = 0 ∨ j = 1 ∨ j = 2 ∨ j = 3 := by omega
    rcases hj4 with rfl | rfl | rfl | rfl <;> (unfold kF kV; simp)⟩
theorem kF_ord : ordR kF 4 = [2, 1, 0] := by decide
theorem IntV.box3 {w : World} {g : Nat} {x y z : Int} (h : Box w g 3 #[.int .i64 x, .int .i64 y, .int .i64 z]) : IntV w (some ⟨g, 0, none⟩) 3 [x, y, z] :=
  ⟨rfl, fun j hj => by
    refine ⟨g, 0, rfl, ?_⟩
    rw [Nat.zero_add, h.cell]
    have hj4 : j = 0 ∨ j = 1 ∨ j = 2 := by omega
    rcases hj4 with rfl | rfl | rfl <;> rfl⟩
set_option maxRecDepth 100000 in
set_option maxHeartbeats 8000000 in
theorem known18_any (w : World) : Calls Try.prog 9 #[] w fun e w' => e = .returned (.bool true) ∧ Below w.heap.size w w' := by
  have hf : Flds (w.alloc (.cells #[.int .i64 0, .int .i64 0, .int .i64 0, .int .i64 0, .int .i64 0, .int .i64 0, .slice none 0 0, .slice none 0 0, .slice none 0 0, .bool false, .bool false, .int .i64 0, .int .i64 2, .int .i64 0, .int .i64 0, .int .i64 0, .int .i64 0, .slice none 0 0, .slice none 0 0, .slice none 0 0, .bool false, .bool false, .int .i64 1, .int .i64 1, .int .i64 0, .int .i64 0, .int .i64 0, .int .i64 0, .slice none 0 0, .slice none 0 0, .slice none 0 0, .bool false, .bool false, .int .i64 2, .int .i64 1, .int .i64 0, .int .i64 0, .int .i64 0, .int .i64 0, .slice none 0 0, .slice none 0 0, .slice none 0 0, .bool false, .bool false] 33)) (some ⟨w.heap.size, 0, none⟩) 4 kF := kF_flds (Box.new w _ _)
  have hb0 : Below w.heap.size w (w.alloc (.cells #[.int .i64 0, .int .i64 0, .int .i64 0, .int .i64 0, .int .i64 0, .int .i64 0, .slice none 0 0, .slice none 0 0, .slice none 0 0, .bool false, .bool false, .int .i64 0, .int .i64 2, .int .i64 0, .int .i64 0, .int .i64 0, .int .i64 0, .slice none 0 0, .slice none 0 0, .slice none 0 0, .bool false, .bool false, .int .i64 1, .int .i64 1, .int .i64 0, .int .i64 0, .int .i64 0, .int .i64 0, .slice none 0 0, .slice none 0 0, .slice none 0 0, .bool false, .bool false, .int .i64 2, .int .i64 1, .int .i64 0, .int .i64 0, .int .i64 0, .int .i64 0, .slice none 0 0, .slice none 0 0, .slice none 0 0, .bool false, .bool false] 33)) := (Below.refl _ _).alloc (Nat.le_refl _) _
  go_enter Try.func9, Try.ntmps9
  obtain ⟨g, hg⟩ : ∃ g, w.heap.size = g := ⟨_, rfl⟩
  rw [hg] at hf
  go_wp2_with fail
  generalize w.alloc (.cells #[.int .i64 0, .int .i64 0, .int .i64 0, .int .i64 0, .int .i64 0, .int .i64 0, .slice none 0 0, .slice none 0 0, .slice none 0 0, .bool false, .bool false, .int .i64 0, .int .i64 2, .int .i64 0, .int .i64 0, .int .i64 0, .int .i64 0, .slice none 0 0, .slice none 0 0, .slice none 0 0, .bool false, .bool false, .int .i64 1, .int .i64 1, .int .i64 0, .int .i64 0, .int .i64 0, .int .i64 0, .slice none 0 0, .slice none 0 0, .slice none 0 0, .bool false, .bool false, .int .i64 2, .int .i64 1, .int .i64 0, .int .i64 0, .int .i64 0, .int .i64 0, .slice none 0 0, .slice none 0 0, .slice none 0 0, .bool false, .bool false] 33) = W1 at hf hb0 ⊢
  have B1 := hide hb0
  have HO := hide (show ∀ (W : World) (hb : Below W1.heap.size W1 W), Calls Try.prog 10 #[.slice (some ⟨g, 0, none⟩) 4 4] W fun e w' => ∃ A' m c', e = .returned (.slice A' m c') ∧ RowI w' W.heap.size A' m c' [2, 1, 0] ∧ Below W.heap.size W w' from fun W hb => by
    have := order_any (some ⟨g, 0, none⟩) 4 4 kF W (hf.below hb) (by omega)
    rwa [kF_ord] at this)
  have HN := hide (show ∀ (W : World) (hb : Below W1.heap.size W1 W), Calls Try.prog 11 #[.slice (some ⟨g, 0, none⟩) 4 4, .int .i64 2] W fun e w' => e = .returned (.tuple #[.int .i64 1, .bool true]) ∧ Below W.heap.size W w' from fun W hb => by
    have := next_any (some ⟨g, 0, none⟩) 4 4 kF 2 W (hf.below hb) (by omega)
    rwa [kF_ord, show bsdS [2, 1, 0] 2 1 = (1, true) by decide] at this)
  have HP := hide (show ∀ (W : World) (hb : Below W1.heap.size W1 W), Calls Try.prog 12 #[.slice (some ⟨g, 0, none⟩) 4 4, .int .i64 0] W fun e w' => e = .returned (.tuple #[.int .i64 1, .bool true]) ∧ Below W.heap.size W w' from fun W hb => by
    have := prev_any (some ⟨g, 0, none⟩) 4 4 kF 0 W (hf.below hb) (by omega)
    rwa [kF_ord, show bsdS [2, 1, 0] 0 (-1) = (1, true) by decide] at this)
  have HM := hide (show ∀ (W : World) (hb : Below W1.heap.size W1 W), Calls Try.prog 11 #[.slice (some ⟨g, 0, none⟩) 4 4, .int .i64 0] W fun e w' => e = .returned (.tuple #[.int .i64 0, .bool false]) ∧ Below W.heap.size W w' from fun W hb => by
    have := next_any (some ⟨g, 0, none⟩) 4 4 kF 0 W (hf.below hb) (by omega)
    rwa [kF_ord, show bsdS [2, 1, 0] 0 1 = (0, false) by decide] at this)
  clear hf hb0 hg
  refine (HN.out _ (Below.refl _ _)).mono ?_
  rintro e w2 ⟨rfl, hb2⟩
  have B2 := hide hb2
  clear hb2
  go_wp2_with fail
  refine (HP.out _ B2.out).mono ?_
  rintro e w3 ⟨rfl, hb3⟩
  have B3 := hide (B2.out.trans (hb3.mono B2.out.size))
  clear hb3
  go_wp2_with fail
  refine (HM.out _ B3.out).mono ?_
  rintro e w4 ⟨rfl, hb4⟩
  have B4 := hide (B3.out.trans (hb4.mono B3.out.size))
  clear hb4
  go_wp2_with fail
  refine (HO.out _ B4.out).mono ?_
  rintro e w5 ⟨A5, m5, c5, rfl, hr5, hb5⟩
  have B5 := hide (B4.out.trans (hb5.mono B4.out.size))
  have H5 := hide (RowI.read (RowG.alloc hr5 (.cells #[.int .i64 2, .int .i64 1, .int .i64 0] 3)))
  have H6 := hide (IntV.box3 (Box.new w5 3 #[.int .i64 2, .int .i64 1, .int .i64 0]))
  have B6 := hide (B5.out.alloc B5.out.size (.cells #[.int .i64 2, .int .i64 1, .int .i64 0] 3))
  have hm5 : m5 = 3 := (RowI.len hr5).symm
  subst hm5
  clear hr5 hb5
  go_wp2_with fail
  refine (sameInts_any A5 _ 3 c5 3 3 [2, 1, 0] [2, 1, 0] _ H5.out H6.out (by omega) (by omega)).mono ?_
  rintro e w7 ⟨rfl, q7, rfl⟩
  have B7 := hide (below_drewN B6.out q7)
  go_wp2_with fail
  refine (order_any none 0 0 kF _ ⟨fun j hj => absurd hj (by omega), fun j hj => absurd hj (by omega)⟩ (by omega)).mono ?_
  rintro e w8 ⟨A8, m8, c8, rfl, hr8, hb8⟩
  have hm8 : m8 = 0 := (RowI.len hr8).symm
  subst hm8
  have B8 := hide (B7.out.trans (hb8.mono B7.out.size))
  clear hr8 hb8
  go_wp2_with fail
  go_ret
  exact ⟨rfl, B1.out.trans (B8.out.mono B1.out.size)⟩
end Go.Proofs.Ytfeflmpdbejhjaa
