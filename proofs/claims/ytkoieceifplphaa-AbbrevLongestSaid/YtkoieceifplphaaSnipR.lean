/- The reference's answers of layer 23: word, Ahead, MayTable. -/
import Derived.Test.YtkoieceifplphaaSnipN
namespace Go.Proofs.Ytkoieceifplphaa
open Go.RowKit
set_option linter.unusedVariables false

theorem rword_any (r : Int) (w : World) : Calls Try.prog 64 #[.int .i32 r] w fun e w' => e = .returned (.bool (wrdS r)) ∧ w = w' := by
  go_enter Try.func64, Try.ntmps64
  go_wp2_with fail
  refine (rclass_any _ _).mono ?_
  rintro e w' ⟨rfl, rfl⟩
  go_wp2
  go_ret
  exact ⟨retB (by unfold wrdS; first | rfl | simp), rfl⟩

set_option maxRecDepth 100000 in
set_option maxHeartbeats 2000000 in
theorem rahead_any (S : Option Addr) (k d : Nat) (at_ : Int) (s : List Int) (w : World) (h : Runes w S k s) (hk : k ≤ 9223372036854775807) :
    Calls Try.prog 65 #[.slice S k d, .int .i64 at_] w fun e w' => e = .returned (.int .i64 (aheadS s at_ : Int)) ∧ w = w' := by
  have HL := hide h.len
  by_cases h0 : at_ < 0
  · have HE := hide (show aheadS s at_ = 0 by unfold aheadS; rw [if_neg (by omega)])
    have d0 : ¬ ((0 : Int) ≤ at_) := by omega
    go_enter Try.func65, Try.ntmps65
    go_wp2_with fail
    go_loop [5] (fun n => n = .int .i64 0) (fun _ => 0)
    case atStart => rfl
    case round =>
      subst hrel
      go_wp2_with fail
      go_ret
      exact ⟨retI (by rw [HE.out]; rfl), rfl⟩
  by_cases h1 : (k : Int) < at_
  · have HE := hide (show aheadS s at_ = 0 by unfold aheadS; rw [HL.out, if_neg (by omega)])
    have d0 : (0 : Int) ≤ at_ := by omega
    have d1 : ¬ (at_ ≤ (k : Int)) := by omega
    clear h0
    go_enter Try.func65, Try.ntmps65
    go_wp2_with fail
    go_loop [5] (fun n => n = .int .i64 0) (fun _ => 0)
    case atStart => rfl
    case round =>
      subst hrel
      go_wp2_with fail
      go_ret
      exact ⟨retI (by rw [HE.out]; rfl), rfl⟩
  obtain ⟨a, rfl⟩ : ∃ a : Nat, at_ = a := ⟨at_.toNat, by omega⟩
  have hak : a ≤ k := by omega
  have HE := hide (show aheadS s (a : Int) = aheadN s a by unfold aheadS; rw [HL.out, if_pos (by omega)]; rfl)
  clear h0 h1
  have d0 : (0 : Int) ≤ (a : Int) := by omega
  have d1 : (a : Int) ≤ (k : Int) := by omega
  go_enter Try.func65, Try.ntmps65
  go_wp2_with fail
  go_loop [5] (fun n => ∃ j : Nat, j ≤ a ∧ n = .int .i64 j ∧ Hid (j + aheadN s (a - j) = aheadN s a)) (fun n => a - (intOf n).toNat)
  case atStart => exact ⟨0, Nat.zero_le _, rfl, by show 0 + aheadN s (a - 0) = _; rw [Nat.zero_add, Nat.sub_zero]⟩
  case round =>
    obtain ⟨j, hj, rfl, hst⟩ := hrel
    by_cases hja : j < a
    · obtain ⟨i, hi⟩ : ∃ i, a - j = i + 1 := ⟨a - j - 1, by omega⟩
      obtain ⟨b, o, rfl, hc⟩ := h.at_ i (by omega)
      have i0 : (0 : Int) ≤ (i : Int) := by omega
      have i1 : (i : Int) < (k : Int) := by omega
      have i2 : (1 : Int) ≤ (a : Int) := by omega
      have v3 : (a : Int) - 1 - (j : Int) = (i : Int) := by omega
      have HI := hide hi
      have hst2 := hst.out
      rw [hi] at hst2
      have e : aheadN s (i + 1) = if wrdS (nth s i) = true then aheadN s i + 1 else 0 := rfl
      rw [e] at hst2
      clear e hi hst
      generalize nth s i = r at hc hst2
      cases hw : wrdS r
      · rw [hw] at hst2
        have HS := hide hst2
        have HW := hide hw
        clear hst2 hw
        go_wp2_with fail
        refine (rword_any _ _).mono ?_
        rw [HW.out]
        rintro e w' ⟨rfl, rfl⟩
        go_wp2_with fail
        go_ret
        exact ⟨retI (by rw [HE.out]; have := HS.out; simp at this; omega), rfl⟩
      · rw [hw] at hst2
        have HS := hide hst2
        have HW := hide hw
        clear hst2 hw
        go_wp2_with fail
        refine (rword_any _ _).mono ?_
        rw [HW.out]
        rintro e w' ⟨rfl, rfl⟩
        go_wp2_with fail
        go_round
        case rel => exact ⟨j + 1, by omega, by go_num, by
          have := HS.out
          simp at this
          have hi := HI.out
          show j + 1 + aheadN s (a - (j + 1)) = _
          rw [show a - (j + 1) = i by omega]
          omega⟩
        case measure => simp [intOf]; omega
    · have hj' : j = a := by omega
      have HJ := hide hj'
      clear hj'
      go_wp2_with fail
      go_ret
      exact ⟨retI (by rw [HE.out]; have := hst.out; rw [HJ.out, Nat.sub_self] at this; simp [aheadN] at this; have := HJ.out; omega), rfl⟩

set_option maxRecDepth 100000 in
set_option maxHeartbeats 4000000 in
theorem rmaytab_any (A : Option Addr) (n c : Nat) (us : Nat → SNV) (l : List Snp) (w : World) (h : Snips w A n us l) (hn : n ≤ 9223372036854775807) :
    Calls Try.prog 41 #[.slice A n c] w fun e w' => e = .returned (.bool (tabT l)) ∧ Below w.heap.size w w' := by
  have H := hide h
  have HL := hide h.len
  clear h
  go_enter Try.func41, Try.ntmps41
  go_wp2_with fail
  go_loopw [3] (fun i wx => ∃ j : Nat, j ≤ n ∧ i = .int .i64 j ∧ Below w.heap.size w wx ∧ Hid (∀ (a : Nat) (x : Snp), a < j → l[a]? = some x → rowT x = true)) (fun i _ => n - (intOf i).toNat)
  case atStart => exact ⟨0, Nat.zero_le _, rfl, Below.refl _ _, fun a x ha => absurd ha (by omega)⟩
  case round =>
    obtain ⟨j, hj, rfl, hbel, hal⟩ := hrel
    have HW := hide hbel
    have H1 := hide (H.out.below hbel)
    clear hbel
    by_cases hlt : j < n
    · obtain ⟨ab, ao, rfl, c0, c1⟩ := H1.out.at_ j hlt
      obtain ⟨x, hx, hr⟩ := H1.out.rd j hlt
      have HX := hide hx
      have hcap := hr.cap
      have hcapB := hr.capB
      have j0 : (0 : Int) ≤ (j : Int) := by omega
      have j1 : (j : Int) < (n : Int) := by omega
      have hbl : Below wr.heap.size wr (wr.alloc (.cells #[.slice (us j).T (us j).n (us j).c, .slice (us j).B (us j).m (us j).d] 36)) := (Below.refl _ _).alloc (Nat.le_refl _) _
      obtain ⟨⟨l0, l1⟩, _⟩ := (Box.new wr 36 #[.slice (us j).T (us j).n (us j).c, .slice (us j).B (us j).m (us j).d]).c2
      have M1 := hide (refMay_any (us j).T (us j).n (us j).c x.trig _ (hr.trig.below hbl) (by omega))
      have M2 := hide (refMay_any (us j).B (us j).m (us j).d x.body _ (hr.body.below hbl) (by omega))
      have hrow : rowT x = (decide (1 ≤ (us j).n) && decide ((us j).n ≤ 20) && mayS x.trig && decide ((us j).m ≤ 600) && mayS x.body) := by unfold rowT; rw [hr.trig.len, hr.body.len]
      have HB := hide (HW.out.alloc HW.out.size (.cells #[.slice (us j).T (us j).n (us j).c, .slice (us j).B (us j).m (us j).d] 36))
      have HNO := hide (fun (e : rowT x = false) => show tabT l = false by
        unfold tabT
        have : l.all rowT = false := by
          rw [List.all_eq_false]
          exact ⟨x, List.mem_of_getElem? HX.out, by simp [e]⟩
        rw [this, Bool.and_false])
      have HROW := hide hrow
      clear hx hr hbl hrow
      generalize mayS x.trig = m1 at M1 HROW
      generalize mayS x.body = m2 at M2 HROW
      by_cases a1 : 1 ≤ (us j).n
      · have d1 : ¬ (((us j).n : Int) < 1) := by omega
        by_cases a2 : (us j).n ≤ 20
        · have d2 : ¬ ((20 : Int) < ((us j).n : Int)) := by omega
          cases m1
          · go_wp2_with fail
            refine M1.out.mono ?_
            rintro e w' ⟨rfl, rfl⟩
            go_wp2_with fail
            go_ret
            exact ⟨retB (HNO.out (by rw [HROW.out]; simp)).symm, HB.out⟩
          · by_cases a4 : (us j).m ≤ 600
            · have d4 : ¬ ((600 : Int) < ((us j).m : Int)) := by omega
              cases m2
              · go_wp2_with fail
                refine M1.out.mono ?_
                rintro e w' ⟨rfl, rfl⟩
                go_wp2_with fail
                refine M2.out.mono ?_
                rintro e w' ⟨rfl, rfl⟩
                go_wp2_with fail
                go_ret
                exact ⟨retB (HNO.out (by rw [HROW.out]; simp)).symm, HB.out⟩
              · have HY := hide (show rowT x = true by rw [HROW.out]; simp [a1, a2, a4])
                go_wp2_with fail
                refine M1.out.mono ?_
                rintro e w' ⟨rfl, rfl⟩
                go_wp2_with fail
                refine M2.out.mono ?_
                rintro e w' ⟨rfl, rfl⟩
                go_wp2_with fail
                go_roundw
                case rel => exact ⟨j + 1, by omega, by go_num, HB.out, fun a y ha hy => by
                  rcases Nat.lt_succ_iff_lt_or_eq.1 ha with h1 | h1
                  · exact hal.out a y h1 hy
                  · subst h1
                    rw [HX.out] at hy
                    rw [← Option.some.inj hy]; exact HY.out⟩
                case measure => simp [intOf]; omega
            · have d4 : (600 : Int) < ((us j).m : Int) := by omega
              go_wp2_with fail
              refine M1.out.mono ?_
              rintro e w' ⟨rfl, rfl⟩
              go_wp2_with fail
              go_ret
              exact ⟨retB (HNO.out (by rw [HROW.out]; simp [a4])).symm, HB.out⟩
        · have d2 : (20 : Int) < ((us j).n : Int) := by omega
          go_wp2_with fail
          go_ret
          exact ⟨retB (HNO.out (by rw [HROW.out]; simp [a2])).symm, HB.out⟩
      · have d1 : ((us j).n : Int) < 1 := by omega
        go_wp2_with fail
        go_ret
        exact ⟨retB (HNO.out (by rw [HROW.out]; simp [a1])).symm, HB.out⟩
    · have HT := hide (show tabT l = decide (n ≤ 20) by
        unfold tabT
        have : l.all rowT = true := by
          rw [List.all_eq_true]
          intro x hx
          obtain ⟨a, ha⟩ := List.mem_iff_getElem?.1 hx
          exact hal.out a x (by have := (List.getElem?_eq_some_iff.1 ha).1; rw [HL.out] at this; omega) ha
        rw [this, Bool.and_true, HL.out])
      by_cases h20 : n ≤ 20
      · have d1 : (n : Int) ≤ 20 := by omega
        go_wp2_with fail
        go_ret
        exact ⟨retB (by rw [HT.out]; simp [h20]), HW.out⟩
      · have d1 : ¬ ((n : Int) ≤ 20) := by omega
        go_wp2_with fail
        go_ret
        exact ⟨retB (by rw [HT.out]; simp [h20]), HW.out⟩
end Go.Proofs.Ytkoieceifplphaa
