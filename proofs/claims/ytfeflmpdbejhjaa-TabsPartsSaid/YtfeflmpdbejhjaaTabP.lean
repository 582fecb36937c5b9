/- The law TabsParts: its function answers true. -/
import Derived.Test.YtfeflmpdbejhjaaTabF
namespace Go.Proofs.Ytfeflmpdbejhjaa
open Go.RowKit
set_option linter.unusedVariables false

def mirV (x : Int) : FV := ⟨2, x, 0, 0, 0, 0, none, 0, 0, none, 0, 0, none, 0, 0, false, false⟩
theorem mirV_no (x : Int) : homeS (mirV x) = false := by unfold homeS mirV; simp
theorem more_wf {us : Nat → FV} {k n : Nat} {v : FV} (hk : k ≤ n) (h : ∀ j, j < n → WF (us j)) (hv : WF v) : ∀ j, j < n + 1 → WF (moreU us k v j) := fun j hj => by
  unfold moreU
  split
  · exact h j (by omega)
  · split
    · exact hv
    · exact h (j - 1) (by omega)

set_option maxRecDepth 100000 in
set_option maxHeartbeats 8000000 in
theorem tabsParts_any (A : Option Addr) (n c : Nat) (us0 : Nat → FV) (a x : Int) (w : World) (h : Flds w A n us0) (hnc : n ≤ c) (hc : c ≤ 9223372036854775807) :
    Calls Try.prog 5 #[.slice A n c, .int .i64 a, .int .i64 x] w fun e w' => e = .returned (.bool true) ∧ Below w.heap.size w w' := by
  have HF := hide h
  clear h
  go_enter Try.func5, Try.ntmps5
  go_wp2_with fail
  refine (few_any A n c us0 w HF.out (by omega)).mono ?_
  rintro e w1 ⟨A1, m, c1, rfl, hm1, hr1, hb1⟩
  have B1 := hide hb1
  have HF1 := hide (RowF.read hr1 fun j hj => fewV_wf (us0 j))
  have hcap := RowG.cap hr1
  have hm : m ≤ 40 := by omega
  clear hr1 hb1 hm1 HF
  generalize fewU us0 = us at HF1
  have v1 : IntKind.i64.wrap ((m : Int) + 1) = (m : Int) + 1 := by rw [IntWalk.i64_in _ (by omega)]
  go_wp2_with fail
  refine (index_any a _ w1 (by omega) (by omega)).mono ?_
  rintro e w2 ⟨rfl, rfl⟩
  have hklt := idxN_lt (k := a) (n := ((m : Int) + 1).toNat) (by omega)
  generalize idxN a ((m : Int) + 1).toNat = k at hklt ⊢
  have hk : k ≤ m := by omega
  clear hklt v1
  go_upto_region 3 with fail
  have hsl1 : ∀ W, (Instr.slice 22 (.slice A1 m c1) none (some (.int .i64 (k : Int))) none).run Try.prog W = .ok (.slice A1 k c1) W := fun W => run_subF_h A1 m c1 k (by omega) W
  have hsl2 := run_subF_l A1 m c1 k hk
  have HT := hide (fun (W : World) (hb : Below w1.heap.size w1 W) => (HF1.out.below hb).take hk)
  have HD := hide (fun (W : World) (hb : Below w1.heap.size w1 W) => (HF1.out.below hb).sub hk hcap.1)
  have hx7 := and_7 x
  go_cut [8] (fun s wx => ∃ A2 c2, s = .slice A2 (m + 1) c2 ∧ RowF wx w1.heap.size A2 (m + 1) c2 (moreU us k (mirV (bits .and .i64 x 7))) ∧ Below w1.heap.size w1 wx)
  case first =>
    go_region_held3 (fun _ => True) (first | trivial | go_keep) (first
      | (refine step_appF0 (by rfl) (.const (.slice none 0 0)) (.tmp 21) (by rfl) (by rfl) (by rfl) (HT.out _ (by first | exact below_drewN (Below.refl _ _) 1 | exact below_drewN ((Below.refl _ _).alloc (Nat.le_refl _) _) 1)) (by omega) ?_; intro A3 c3 w3 hr3 hb3)
      | (refine step_appG fieldT (by rfl) (.tmp 22) (.tmp 26) (by rfl) w1.heap.size (by rfl) (RowG.alloc (RowG.mono hr3 (by simp)) _) (m := 1) (d := 1) (by rfl) (us := [(mirV (bits .and .i64 x 7)).cells]) (news_box (cs := (mirV (bits .and .i64 x 7)).cells.toArray) (Box.new _ _ _)) (Each.one (mirV (bits .and .i64 x 7)).one.1 (mirV (bits .and .i64 x 7)).one.2) rfl (by omega) (by omega) (by omega) (by have := hb3.size; simp at this ⊢; omega) ?_; intro A4 c4 w4 hr4 hg4 hb4 hor4)
      | (refine step_appG fieldT (by rfl) (.tmp 22) (.tmp 26) (by rfl) w1.heap.size (by rfl) (RowG.mono hr3 (by simp)) (m := 1) (d := 1) (by rfl) (us := [(mirV (bits .and .i64 x 7)).cells]) (news_box (cs := (mirV (bits .and .i64 x 7)).cells.toArray) (Box.below (Box.drewN (Box.new _ _ _) 1) hb3)) (Each.one (mirV (bits .and .i64 x 7)).one.1 (mirV (bits .and .i64 x 7)).one.2) rfl (by omega) (by omega) (by omega) (by have := hb3.size; simp at this ⊢; omega) ?_; intro A4 c4 w4 hr4 hg4 hb4 hor4)
      | (refine step_appF (by rfl) (.tmp 27) (.tmp 30) (by rfl) w1.heap.size (by rfl) hr4 (by rfl) (HD.out _ (by
          first
          | exact ((((below_drewN (Below.refl _ _) 1).trans (hb3.mono (Nat.le_refl _))).alloc hb3.size _)).trans hb4
          | exact ((below_drewN ((Below.refl _ _).alloc (Nat.le_refl _) _) 1).trans (hb3.mono ((Below.refl _ _).alloc (Nat.le_refl _) _).size)).trans hb4)) (by omega) (by have := hb3.size; have := hb4.size; simp at *; omega) ?_; intro A5 c5 w5 hr5 hb5))
    all_goals have hbw : Below w1.heap.size w1 w5 := (by first | exact ((((below_drewN (Below.refl _ _) 1).trans (hb3.mono (Nat.le_refl _))).alloc hb3.size _).trans hb4).trans hb5 | exact (((below_drewN ((Below.refl _ _).alloc (Nat.le_refl _) _) 1).trans (hb3.mono ((Below.refl _ _).alloc (Nat.le_refl _) _).size)).trans hb4).trans hb5)
    all_goals have HQ := hide (And.intro hr5 hbw)
    all_goals clear hr5 hbw hb3 hb4 hb5 hr3 hr4 hg4 hor4
    all_goals go_wp2_with fail
    all_goals go_meet
    all_goals exact ⟨A5, c5, by rw [show k + 1 + (m - k) = m + 1 by omega], by
      have := HQ.out.1
      rw [fcells_more us (mirV (bits .and .i64 x 7)) hk, show k + 1 + (m - k) = m + 1 by omega] at this
      exact this, HQ.out.2⟩
  case rest =>
    obtain ⟨A2, c2, rfl, hr2, hb2⟩ := hcut
    generalize wc = w3 at *
    have B3 := hide hb2
    have HF3 := hide (RowF.read hr2 (more_wf hk (fun j hj => HF1.out.wf j hj) (v := mirV (bits .and .i64 x 7)) (by unfold WF mirV; simp only; omega)))
    have HO := hide (order_any A1 m c1 us w3 (HF1.out.below B3.out) (by omega))
    have HORD := hide (ordR_more us (mirV_no (bits .and .i64 x 7)) hk)
    clear hr2 hb2 hsl1 hsl2 HT HD
    have hol := ordR_len us m
    have HMEM := hide (show ∀ j, j < (ordR us m).length → ∃ i : Nat, i < m ∧ nth (ordR us m) j = (i : Int) from fun j hj => by
      obtain ⟨i, h1, _, h3⟩ := (ordR_mem us m _).1 (nth_mem hj)
      exact ⟨i, h1, h3⟩)
    generalize hoo : ordR us m = o at HO HORD HMEM hol
    clear hoo
    go_wp2_with fail
    refine HO.out.mono ?_
    rintro e w4 ⟨A4, m4, c4, rfl, hr4, hb4⟩
    have hm4 := RowI.len hr4
    have HV := hide (RowI.read hr4)
    have B4 := hide hb4
    have HZ := hide hb4.size
    clear hr4 hb4 HO
    go_wp2_with fail
    go_loopw [9, 35] (fun v i wr => ∃ (k9 c9 : Nat) (A9 : Option Addr), k9 ≤ m4 ∧ i = .int .i64 (k9 : Int) ∧ v = .slice A9 k9 c9 ∧ RowI wr w4.heap.size A9 k9 c9 ((o.take k9).map (shI k)) ∧ Below w4.heap.size w4 wr) (fun _ i _ => m4 - (intOf i).toNat)
    case atStart => exact ⟨0, 0, none, Nat.zero_le _, rfl, rfl, by rw [List.take_zero]; exact RowI.nil _ _, Below.refl _ _⟩
    case round =>
      obtain ⟨k9, c9, A9, hk9, rfl, rfl, hr, hb⟩ := hrel
      have HR := hide hr
      have HB := hide hb
      have HV9 := hide (HV.out.below hb)
      clear hr hb
      by_cases hlt : k9 < m4
      · obtain ⟨bb, bo, rfl, hc9⟩ := HV9.out.at_ k9 hlt
        obtain ⟨i, hi, hni⟩ := HMEM.out k9 (by omega)
        have HT9 := hide (show (o.take (k9 + 1)).map (shI k) = (o.take k9).map (shI k) ++ [shI k (i : Int)] by rw [take_snoc (by omega), List.map_append, hni]; rfl)
        rw [hni] at hc9
        clear hni
        have i0 : (0 : Int) ≤ (k9 : Int) := by omega
        have i1 : (k9 : Int) < (m4 : Int) := by omega
        have hsz := HB.out.size
        by_cases hki : k ≤ i
        · have d1 : (k : Int) ≤ (i : Int) := by omega
          have v2 : IntKind.i64.wrap ((i : Int) + 1) = (i : Int) + 1 := by rw [IntWalk.i64_in _ (by omega)]
          have HE := hide (show shI k (i : Int) = (i : Int) + 1 by unfold shI; rw [if_pos d1])
          go_wp2_with (refine wpList_appI rfl (.tmp 44) (.tmp 46) rfl w4.heap.size rfl (HR.out.alloc _) rfl (IntV.box (Box.new _ _ _)) (by omega) (by simp; omega) ?_; intro A2' c2' w2' hr2' hg2' hb2' hor')
          go_roundw
          case rel => exact ⟨k9 + 1, c2', A2', by omega, by go_num, rfl, by rw [HT9.out, HE.out]; exact hr2', (HB.out.alloc hsz _).trans hb2'⟩
          case measure => simp [intOf]; omega
        · have d1 : ¬ (k : Int) ≤ (i : Int) := by omega
          have HE := hide (show shI k (i : Int) = (i : Int) by unfold shI; rw [if_neg d1])
          go_wp2_with (refine wpList_appI rfl (.tmp 44) (.tmp 46) rfl w4.heap.size rfl (HR.out.alloc _) rfl (IntV.box (Box.new _ _ _)) (by omega) (by simp; omega) ?_; intro A2' c2' w2' hr2' hg2' hb2' hor')
          go_roundw
          case rel => exact ⟨k9 + 1, c2', A2', by omega, by go_num, rfl, by rw [HT9.out, HE.out]; exact hr2', (HB.out.alloc hsz _).trans hb2'⟩
          case measure => simp [intOf]; omega
      · obtain rfl : k9 = m4 := by omega
        have HR' := hide (show RowI wr w4.heap.size A9 k9 c9 (o.map (shI k)) by
          have := HR.out
          rwa [List.take_of_length_le (by omega)] at this)
        have HB5 := hide (B3.out.trans ((B4.out.mono B3.out.size).trans (HB.out.mono (Nat.le_trans B3.out.size HZ.out))))
        have HO2 := hide (order_any A2 (m + 1) c2 (moreU us k (mirV (bits .and .i64 x 7))) wr ((HF3.out.below B4.out).below HB.out ) (by omega))
        clear HR
        go_wp2_with fail
        refine HO2.out.mono ?_
        rintro e w6 ⟨A6, m6, c6, rfl, hr6, hb6⟩
        rw [HORD.out] at hr6
        have hm6 := RowI.len hr6
        rw [List.length_map] at hm6
        have H6 := hide (RowI.read hr6)
        have H7 := hide (RowI.read (RowG.below HR'.out hb6))
        have HB6 := hide (HB5.out.trans (hb6.mono HB5.out.size))
        clear hr6 hb6
        go_wp2_with fail
        refine (sameInts_any A6 A9 m6 c6 k9 c9 (o.map (shI k)) (o.map (shI k)) w6 H6.out H7.out (by omega) (by omega)).mono ?_
        rintro e w7 ⟨rfl, q7, rfl⟩
        rw [show decide (o.map (shI k) = o.map (shI k)) = true by simp]
        have HB7 := hide (below_drewN HB6.out q7)
        go_wp2_with fail
        refine (known18_any _).mono ?_
        rintro e w8 ⟨rfl, hb8⟩
        have HB8 := hide (HB7.out.trans (hb8.mono HB7.out.size))
        clear hb8
        go_wp2_with fail
        go_ret
        exact ⟨rfl, B1.out.trans (HB8.out.mono B1.out.size)⟩
end Go.Proofs.Ytfeflmpdbejhjaa
