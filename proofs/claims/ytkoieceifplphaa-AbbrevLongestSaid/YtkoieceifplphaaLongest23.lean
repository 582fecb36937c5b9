/- The walk of standishlaw23's AbbrevLongest: it answers true. -/
import Derived.Test.YtkoieceifplphaaTells23
namespace Go.Proofs.Ytkoieceifplphaa
open Go.RowKit
set_option linter.unusedVariables false

/-- What is best stands there; nothing that stands there is better. -/
theorem bestN_spec (l : List Snp) (s : List Int) (a : Nat) : ∀ j, (∀ i : Nat, bestN l s a j = (i : Int) → ∃ x, l[i]? = some x ∧ stdS x.trig s a = true) ∧
    (∀ (i : Nat) (x : Snp), i < j → l[i]? = some x → stdS x.trig s a = true → 0 ≤ bestN l s a j ∧ x.trig.length ≤ trigLen l (bestN l s a j) ∧ (x.trig.length = trigLen l (bestN l s a j) → bestN l s a j ≤ i))
  | 0 => ⟨fun i h => by simp [bestN] at h, fun i x h => absurd h (by omega)⟩
  | j + 1 => by
    obtain ⟨h1, h2⟩ := bestN_spec l s a j
    have hb := bestN_lt l s a j
    cases hx : l[j]? with
    | none =>
      have e : bestN l s a (j + 1) = bestN l s a j := by
        conv => lhs; unfold bestN
        rw [hx]
      rw [e]
      refine ⟨h1, fun i x hi hl hs => h2 i x ?_ hl hs⟩
      have : i ≠ j := fun e => by subst e; rw [hx] at hl; cases hl
      omega
    | some y =>
      have e : bestN l s a (j + 1) = if stdS y.trig s a = true ∧ (bestN l s a j < 0 ∨ trigLen l (bestN l s a j) < y.trig.length) then (j : Int) else bestN l s a j := by
        conv => lhs; unfold bestN
        rw [hx]
      by_cases hc : stdS y.trig s a = true ∧ (bestN l s a j < 0 ∨ trigLen l (bestN l s a j) < y.trig.length)
      · rw [if_pos hc] at e
        rw [e]
        have et : trigLen l (j : Int) = y.trig.length := by unfold trigLen; rw [Int.toNat_natCast, hx]
        refine ⟨fun i hi => ?_, fun i x hi hl hs => ?_⟩
        · obtain rfl : j = i := by omega
          exact ⟨y, hx, hc.1⟩
        · rw [et]
          by_cases hij : i = j
          · subst hij
            rw [hx] at hl
            rw [← Option.some.inj hl]
            exact ⟨by omega, Nat.le_refl _, fun _ => Int.le_refl _⟩
          · obtain ⟨q1, q2, q3⟩ := h2 i x (by omega) hl hs
            rcases hc.2 with hc | hc
            · omega
            · exact ⟨by omega, by omega, fun q => by omega⟩
      · rw [if_neg hc] at e
        rw [e]
        refine ⟨h1, fun i x hi hl hs => ?_⟩
        by_cases hij : i = j
        · subst hij
          rw [hx] at hl
          obtain rfl := Option.some.inj hl
          have hn : ¬ (bestN l s a i < 0 ∨ trigLen l (bestN l s a i) < y.trig.length) := fun q => hc ⟨hs, q⟩
          exact ⟨by omega, by omega, fun q => by omega⟩
        · exact h2 i x (by omega) hl hs
theorem TabI.may {g : Nat} {Z : Option Addr} {m c : Nat} {z : List Int} {w0 w : World} {A : Option Addr} {k cap : Nat} {us : Nat → SNV} {l : List Snp} (h : TabI g Z m c z w0 w A k cap us l) (hk : k ≤ 20) : tabT l = true := by
  unfold tabT
  rw [h.len, decide_eq_true hk, Bool.true_and, List.all_eq_true]
  intro x hx
  obtain ⟨j, hj⟩ := List.mem_iff_getElem?.1 hx
  obtain ⟨y, h1, _, h3⟩ := h.rd j (by have := (List.getElem?_eq_some_iff.1 hj).1; rw [h.len] at this; exact this)
  rw [hj] at h1
  rw [Option.some.inj h1]
  exact h3

set_option maxRecDepth 100000 in
set_option maxHeartbeats 8000000 in
theorem longest23_any (Z : Option Addr) (m cz : Nat) (at_ : Int) (z : List Int) (w : World) (hZ : IntsR w Z m z) (hm : m ≤ 35184372088832) :
    Calls Try.prog 5 #[.slice Z m cz, .int .i64 at_] w fun e w' => e = .returned (.bool true) ∧ Below w.heap.size w w' := by
  have HT := hide (Tap.new (c := cz) hZ)
  have HB0 := hide ((Below.refl w.heap.size w).alloc (Nat.le_refl _) (.cells #[.slice Z m cz, .int .i64 0] 28))
  have HSZ := hide (show (w.alloc (.cells #[.slice Z m cz, .int .i64 0] 28)).heap.size = w.heap.size + 1 by simp)
  clear hZ
  go_enter Try.func5, Try.ntmps5
  go_wp2_with fail
  refine (ttable_any w.heap.size Z m cz z 10 _ HT.out hm (by omega)).mono ?_
  rintro e w1 ⟨A, n, c, us, l, rfl, hn, hti⟩
  have hc := hti.row.cap
  have hmt := hti.may (by omega)
  have HL := hide hti.len
  have HTI := hide hti
  clear hti HT
  go_wp2_with fail
  refine (text_any 30 w.heap.size Z m cz z w1 HTI.out.tap (by omega) hm).mono ?_
  rintro e w4 ⟨S, k, d, s, rfl, hk30, hou, _, htp, hg2⟩
  have HTS := hide (HTI.out.keep hg2 (fun b hb => by injection hb with hb; exact hb.symm) htp).snips
  have HU := hide hou.runes
  have hsl := hou.len
  obtain ⟨hk, hd⟩ := hou.cap
  have HB2 := hide (show Below w.heap.size w w4 from grown_below (HTI.out.gr.trans hg2) HB0.out (Nat.le_refl _) (by rw [HSZ.out]; omega))
  clear hou htp hg2 HTI HSZ
  have ik : idxN at_ (k + 1) < k + 1 := idxN_lt (by omega)
  have HIX := hide (fun W => index_any at_ ((k : Int) + 1) W (by omega) (by omega))
  rw [show ((k : Int) + 1).toNat = k + 1 by omega] at HIX
  generalize idxN at_ (k + 1) = a at ik HIX
  have hak : a ≤ k := by omega
  have HF := hide (show findS l s (a : Int) = bestN l s a n by unfold findS; rw [hsl, if_pos ⟨by omega, hmt⟩, HL.out]; rfl)
  have HSP := hide (bestN_spec l s a n)
  have hblt := bestN_lt l s a n
  clear hmt hsl
  go_wp2_with fail
  refine (HIX.out _).mono ?_
  rintro e w' ⟨rfl, rfl⟩
  go_wp2_with fail
  refine (afind_any A S n c k d (a : Int) us l s _ HTS.out HU.out (by omega) hk hd).mono ?_
  rw [HF.out]
  clear HF HIX
  by_cases hb : 0 ≤ bestN l s a n
  · obtain ⟨i, hi⟩ : ∃ i : Nat, bestN l s a n = (i : Int) := ⟨(bestN l s a n).toNat, by omega⟩
    obtain ⟨y, hy1, hy2⟩ := HSP.out.1 i hi
    have hin : i < n := by omega
    obtain ⟨ni, hni⟩ : ∃ ni, (us i).n = ni := ⟨_, rfl⟩
    have HNI := hide hni
    have hyl : y.trig.length = ni := by
      obtain ⟨z', q1, q2⟩ := HTS.out.rd i hin
      rw [hy1] at q1
      rw [Option.some.inj q1, q2.trig.len, hni]
    have HI := hide hy1
    have HYS := hide hy2
    have HMAX := hide (fun (j : Nat) (x : Snp) (h1 : l[j]? = some x) (h2 : stdS x.trig s a = true) => show x.trig.length ≤ ni ∧ (x.trig.length = ni → i ≤ j) from by
      have h3 := HSP.out.2 j x (by rw [← HL.out]; exact (List.getElem?_eq_some_iff.1 h1).1) h1 h2
      have h4 : trigLen l (i : Int) = ni := by unfold trigLen; rw [Int.toNat_natCast, hy1]; exact hyl
      rw [hi, h4] at h3
      exact ⟨h3.2.1, fun e => by have := h3.2.2 e; omega⟩)
    rw [hi, show max (i : Int) 0 = (i : Int) by omega, show decide (0 ≤ (i : Int)) = true by simp]
    clear hi hy1 hy2 hni hyl HSP hb hblt
    rintro e w5 ⟨rfl, hb5⟩
    have HB5 := hide hb5
    clear hb5
    have i0 : ¬ ((i : Int) < 0) := by omega
    have i1 : ¬ ((n : Int) ≤ (i : Int)) := by omega
    have i2 : decide (n ≤ i) = false := by simp; omega
    go_wp2_with fail
    go_loopw [11, 47] (fun _ i wx => ∃ j : Nat, j ≤ n ∧ i = .int .i64 j ∧ Below w4.heap.size w4 wx) (fun _ i _ => n - (intOf i).toNat)
    case atStart => exact ⟨0, Nat.zero_le _, rfl, HB5.out⟩
    case round =>
      obtain ⟨j, hj, rfl, hbel⟩ := hrel
      have HW := hide hbel
      have H1 := hide (HTS.out.below hbel)
      have HS1 := hide (HU.out.below hbel)
      clear hbel
      by_cases hlt : j < n
      · obtain ⟨ab, ao, rfl, c0, c1⟩ := H1.out.at_ j hlt
        obtain ⟨x, hx, hr⟩ := H1.out.rd j hlt
        have hxt := hr.cap
        have HX := hide hx
        have j0 : (0 : Int) ≤ (j : Int) := by omega
        have j1 : (j : Int) < (n : Int) := by omega
        have hbl : Below wr.heap.size wr (wr.alloc (.cells #[.slice (us j).T (us j).n (us j).c, .slice (us j).B (us j).m (us j).d] 36)) := (Below.refl _ _).alloc (Nat.le_refl _) _
        obtain ⟨⟨x0, x1⟩, _⟩ := (Box.new wr 36 #[.slice (us j).T (us j).n (us j).c, .slice (us j).B (us j).m (us j).d]).c2
        have hstd : stdS x.trig s a = (decide ((us j).n ≤ a) && sameS ((s.drop (a - (us j).n)).take (us j).n) x.trig && (decide (a = (us j).n) || !wrdS (nth s (a - (us j).n - 1)))) := by unfold stdS; rw [hr.trig.len]
        have HBEST := hide (fun (j' : Nat) (x' : Snp) (h1 : l[j']? = some x') (h2 : stdS x'.trig s a = true) => show (us j').n ≤ ni ∧ ((us j').n = ni → i ≤ j') from by
          have h3 := HMAX.out j' x' h1 h2
          obtain ⟨z, h4, h5⟩ := H1.out.rd j' (by rw [← HL.out]; exact (List.getElem?_eq_some_iff.1 h1).1)
          rw [h1] at h4
          rw [Option.some.inj h4] at h3
          rw [h5.trig.len] at h3
          exact h3)
        obtain ⟨ib, io, hie, i0, i1⟩ := (H1.out.below hbl).at_ i (by omega)
        injection hie with hie
        injection hie with hie1 hie2
        subst hie1 hie2
        rw [HNI.out] at i0
        have r0 : (0 : Int) ≤ (i : Int) := by omega
        have r1 : (i : Int) < (n : Int) := by omega
        have HSTD0 := hide hstd
        have HR := hide (hr.trig.below hbl)
        have HS2 := hide (HS1.out.below hbl)
        have HBL := hide (HW.out.trans (hbl.mono HW.out.size))
        clear hx hr hstd hbl
        by_cases hna : (us j).n ≤ a
        · obtain ⟨f, hf⟩ : ∃ f, a - (us j).n = f := ⟨_, rfl⟩
          have v1 : IntKind.i64.wrap ((a : Int) - ((us j).n : Int)) = (f : Int) := by rw [IntWalk.i64_in _ (by omega)]; omega
          have f0 : (0 : Int) ≤ (f : Int) := by omega
          have hsl := run_sub_lh S k d f (us j).n (by omega)
          have hsl' : ∀ W, (Instr.slice 23 (.slice S k d) (some (.int .i64 (f : Int))) (some (.int .i64 (a : Int))) none).run Try.prog W = .ok (.slice (sub S d f) (us j).n (d - f)) W := fun W => by
            rw [show (a : Int) = (f : Int) + ((us j).n : Int) by omega]
            exact hsl W
          have HM := hide (fun q => refSame_any (sub S d f) (us j).T (us j).n (d - f) (us j).n (us j).c ((s.drop f).take (us j).n) x.trig _ ((HS2.out.mid (by omega) hk).drewN q) (HR.out.drewN q) (by omega) (by omega))
          have HFA := hide (show a = f + (us j).n by omega)
          have hfk : f ≤ k := by omega
          have hstd := HSTD0.out
          rw [hf, decide_eq_true hna, Bool.true_and] at hstd
          have HSTD := hide hstd
          have d1 : ((us j).n : Int) ≤ (a : Int) := by omega
          have d2 : decide ((us j).n ≤ a) = true := by simp [hna]
          clear hsl hf hna hstd HSTD0
          generalize hsm : sameS ((s.drop f).take (us j).n) x.trig = sm at HM HSTD
          clear hsm
          cases sm
          · have HST := hide (show stdS x.trig s a = false by rw [HSTD.out]; simp)
            have hji : j ≠ i := fun e => by
              subst e
              have h2 := HI.out
              rw [HX.out] at h2
              have h1 := HYS.out
              rw [← Option.some.inj h2, HST.out] at h1
              cases h1
            have e1 : ((j : Int) == (i : Int)) = false := by simp; omega
            clear hji
            go_wp2_with fail
            go_quiet (first
              | (go_at_call 22; exact Calls.quiet_of (HM.out _))
              | (go_at_call 23; exact Calls.quiet_of_same ((rclass_any _ _).mono fun _ _ h => ⟨h.1, h.2.symm⟩)))
            go_wp2_with fail
            go_roundw
            case rel => exact ⟨j + 1, by omega, by go_num, below_drewN1 HBL.out _⟩
            case measure => simp [intOf]; omega
          · by_cases hf0 : (us j).n = a
            · have g1 : (((us j).n : Int) == (a : Int)) = true := by simp; omega
              have HST := hide (show stdS x.trig s a = true by rw [HSTD.out]; have := HFA.out; simp; left; omega)
              clear hf0
              obtain ⟨hle, htie⟩ := HBEST.out j x HX.out HST.out
              have q1 : ¬ ((ni : Int) < ((us j).n : Int)) := by omega
              have q2 : decide (ni < (us j).n) = false := by simp; omega
              by_cases hji : j = i
              · have e1 : ((j : Int) == (i : Int)) = true := by simp; omega
                have q5 : ¬ ((j : Int) < (i : Int)) := by omega
                have q6 : decide (j < i) = false := by simp; omega
                by_cases hnn : (us j).n = ni
                · have q4 : (((us j).n : Int) == (ni : Int)) = true := by simp; omega
                  clear hji hnn hle htie
                  go_wp2_with fail
                  go_quiet (first
                    | (go_at_call 22; exact Calls.quiet_of (HM.out _))
                    | (go_at_call 23; exact Calls.quiet_of_same ((rclass_any _ _).mono fun _ _ h => ⟨h.1, h.2.symm⟩)))
                  go_wp2_with fail
                  go_roundw
                  case rel => exact ⟨j + 1, by omega, by go_num, below_drewN1 HBL.out _⟩
                  case measure => simp [intOf]; omega
                · have q4 : (((us j).n : Int) == (ni : Int)) = false := by simp; omega
                  clear hji hnn hle htie
                  go_wp2_with fail
                  go_quiet (first
                    | (go_at_call 22; exact Calls.quiet_of (HM.out _))
                    | (go_at_call 23; exact Calls.quiet_of_same ((rclass_any _ _).mono fun _ _ h => ⟨h.1, h.2.symm⟩)))
                  go_wp2_with fail
                  go_roundw
                  case rel => exact ⟨j + 1, by omega, by go_num, below_drewN1 HBL.out _⟩
                  case measure => simp [intOf]; omega
              · have e1 : ((j : Int) == (i : Int)) = false := by simp; omega
                by_cases hnn : (us j).n = ni
                · have q3 := htie hnn
                  have q4 : (((us j).n : Int) == (ni : Int)) = true := by simp; omega
                  have q5 : ¬ ((j : Int) < (i : Int)) := by omega
                  have q6 : decide (j < i) = false := by simp; omega
                  clear hji hnn hle htie
                  go_wp2_with fail
                  go_quiet (first
                    | (go_at_call 22; exact Calls.quiet_of (HM.out _))
                    | (go_at_call 23; exact Calls.quiet_of_same ((rclass_any _ _).mono fun _ _ h => ⟨h.1, h.2.symm⟩)))
                  go_wp2_with fail
                  go_roundw
                  case rel => exact ⟨j + 1, by omega, by go_num, below_drewN1 HBL.out _⟩
                  case measure => simp [intOf]; omega
                · have q4 : (((us j).n : Int) == (ni : Int)) = false := by simp; omega
                  clear hji hnn hle htie
                  go_wp2_with fail
                  go_quiet (first
                    | (go_at_call 22; exact Calls.quiet_of (HM.out _))
                    | (go_at_call 23; exact Calls.quiet_of_same ((rclass_any _ _).mono fun _ _ h => ⟨h.1, h.2.symm⟩)))
                  go_wp2_with fail
                  go_roundw
                  case rel => exact ⟨j + 1, by omega, by go_num, below_drewN1 HBL.out _⟩
                  case measure => simp [intOf]; omega
            · have g1 : (((us j).n : Int) == (a : Int)) = false := by simp; omega
              obtain ⟨y, hy⟩ : ∃ y, f = y + 1 := ⟨f - 1, by have := HFA.out; omega⟩
              obtain ⟨sb, so, hS0, hc0⟩ := HS2.out.at_ y (by omega)
              have y0 : (0 : Int) ≤ (y : Int) := by omega
              have y1 : (y : Int) < (k : Int) := by omega
              have v3 : IntKind.i64.wrap ((f : Int) - 1) = (y : Int) := by rw [IntWalk.i64_in _ (by omega)]; omega
              have hwn : wrdS (nth s (f - 1)) = wrdS (nth s y) := by rw [hy]; rfl
              have HWN := hide hwn
              clear hy hwn
              generalize nth s y = r at hc0 HWN
              subst hS0
              cases hw : wrdS r
              · have HWR := hide hw
                have hcl : (clsS r != 3) = true := by unfold wrdS at hw; simpa using hw
                clear hw
                have HST := hide (show stdS x.trig s a = true by rw [HSTD.out]; rw [HWN.out, HWR.out]; simp)
                obtain ⟨hle, htie⟩ := HBEST.out j x HX.out HST.out
                have q1 : ¬ ((ni : Int) < ((us j).n : Int)) := by omega
                have q2 : decide (ni < (us j).n) = false := by simp; omega
                by_cases hji : j = i
                · have e1 : ((j : Int) == (i : Int)) = true := by simp; omega
                  have q5 : ¬ ((j : Int) < (i : Int)) := by omega
                  have q6 : decide (j < i) = false := by simp; omega
                  by_cases hnn : (us j).n = ni
                  · have q4 : (((us j).n : Int) == (ni : Int)) = true := by simp; omega
                    clear hji hnn hle htie
                    go_wp2_with fail
                    go_quiet (first
                      | (go_at_call 22; exact Calls.quiet_of (HM.out _))
                      | (go_at_call 23; exact Calls.quiet_of_same ((rclass_any _ _).mono fun _ _ h => ⟨h.1, h.2.symm⟩)))
                    go_wp2_with fail
                    go_roundw
                    case rel => exact ⟨j + 1, by omega, by go_num, below_drewN1 HBL.out _⟩
                    case measure => simp [intOf]; omega
                  · have q4 : (((us j).n : Int) == (ni : Int)) = false := by simp; omega
                    clear hji hnn hle htie
                    go_wp2_with fail
                    go_quiet (first
                      | (go_at_call 22; exact Calls.quiet_of (HM.out _))
                      | (go_at_call 23; exact Calls.quiet_of_same ((rclass_any _ _).mono fun _ _ h => ⟨h.1, h.2.symm⟩)))
                    go_wp2_with fail
                    go_roundw
                    case rel => exact ⟨j + 1, by omega, by go_num, below_drewN1 HBL.out _⟩
                    case measure => simp [intOf]; omega
                · have e1 : ((j : Int) == (i : Int)) = false := by simp; omega
                  by_cases hnn : (us j).n = ni
                  · have q3 := htie hnn
                    have q4 : (((us j).n : Int) == (ni : Int)) = true := by simp; omega
                    have q5 : ¬ ((j : Int) < (i : Int)) := by omega
                    have q6 : decide (j < i) = false := by simp; omega
                    clear hji hnn hle htie
                    go_wp2_with fail
                    go_quiet (first
                      | (go_at_call 22; exact Calls.quiet_of (HM.out _))
                      | (go_at_call 23; exact Calls.quiet_of_same ((rclass_any _ _).mono fun _ _ h => ⟨h.1, h.2.symm⟩)))
                    go_wp2_with fail
                    go_roundw
                    case rel => exact ⟨j + 1, by omega, by go_num, below_drewN1 HBL.out _⟩
                    case measure => simp [intOf]; omega
                  · have q4 : (((us j).n : Int) == (ni : Int)) = false := by simp; omega
                    clear hji hnn hle htie
                    go_wp2_with fail
                    go_quiet (first
                      | (go_at_call 22; exact Calls.quiet_of (HM.out _))
                      | (go_at_call 23; exact Calls.quiet_of_same ((rclass_any _ _).mono fun _ _ h => ⟨h.1, h.2.symm⟩)))
                    go_wp2_with fail
                    go_roundw
                    case rel => exact ⟨j + 1, by omega, by go_num, below_drewN1 HBL.out _⟩
                    case measure => simp [intOf]; omega
              · have HWR := hide hw
                have hcl : (clsS r != 3) = false := by unfold wrdS at hw; simpa using hw
                clear hw
                have HST := hide (show stdS x.trig s a = false by rw [HSTD.out]; rw [HWN.out, HWR.out]; have := HFA.out; simp; omega)
                have hji : j ≠ i := fun e => by
                  subst e
                  have h2 := HI.out
                  rw [HX.out] at h2
                  have h1 := HYS.out
                  rw [← Option.some.inj h2, HST.out] at h1
                  cases h1
                have e1 : ((j : Int) == (i : Int)) = false := by simp; omega
                clear hji
                go_wp2_with fail
                go_quiet (first
                  | (go_at_call 22; exact Calls.quiet_of (HM.out _))
                  | (go_at_call 23; exact Calls.quiet_of_same ((rclass_any _ _).mono fun _ _ h => ⟨h.1, h.2.symm⟩)))
                go_wp2_with fail
                go_roundw
                case rel => exact ⟨j + 1, by omega, by go_num, below_drewN1 HBL.out _⟩
                case measure => simp [intOf]; omega
        · have HSTD := HSTD0
          have HM : Hid True := trivial
          have d1 : ¬ (((us j).n : Int) ≤ (a : Int)) := by omega
          have d2 : decide ((us j).n ≤ a) = false := by simp; omega
          have HST := hide (show stdS x.trig s a = false by rw [HSTD.out]; rw [d2]; rfl)
          have hji : j ≠ i := fun e => by
            subst e
            have h2 := HI.out
            rw [HX.out] at h2
            have h1 := HYS.out
            rw [← Option.some.inj h2, HST.out] at h1
            cases h1
          have e1 : ((j : Int) == (i : Int)) = false := by simp; omega
          clear hji
          go_wp2_with fail
          go_quiet (first
            | (go_at_call 22; fail)
            | (go_at_call 23; exact Calls.quiet_of_same ((rclass_any _ _).mono fun _ _ h => ⟨h.1, h.2.symm⟩)))
          go_wp2_with fail
          go_roundw
          case rel => exact ⟨j + 1, by omega, by go_num, below_drewN1 HBL.out _⟩
          case measure => simp [intOf]; omega
      · go_wp2_with fail
        refine (known23_any _).mono ?_
        rintro e w6 ⟨rfl, hb6⟩
        have HB6 := hide (HW.out.trans (hb6.mono HW.out.size))
        clear hb6
        go_wp2_with fail
        go_ret
        exact ⟨rfl, HB2.out.trans (HB6.out.mono HB2.out.size)⟩
  · have hbm : bestN l s a n = -1 := by omega
    have HNO := hide (fun (j : Nat) (x : Snp) (h1 : l[j]? = some x) => show stdS x.trig s a = false from by
      cases hs : stdS x.trig s a
      · rfl
      · have h3 := HSP.out.2 j x (by rw [← HL.out]; exact (List.getElem?_eq_some_iff.1 h1).1) h1 hs
        omega)
    rw [hbm, show max (-1 : Int) 0 = 0 by decide, show decide (0 ≤ (-1 : Int)) = false by decide]
    clear hbm HSP hb hblt
    rintro e w5 ⟨rfl, hb5⟩
    have HB5 := hide hb5
    clear hb5
    go_wp2_with fail
    go_loopw [11, 47] (fun _ i wx => ∃ j : Nat, j ≤ n ∧ i = .int .i64 j ∧ Below w4.heap.size w4 wx) (fun _ i _ => n - (intOf i).toNat)
    case atStart => exact ⟨0, Nat.zero_le _, rfl, HB5.out⟩
    case round =>
      obtain ⟨j, hj, rfl, hbel⟩ := hrel
      have HW := hide hbel
      have H1 := hide (HTS.out.below hbel)
      have HS1 := hide (HU.out.below hbel)
      clear hbel
      by_cases hlt : j < n
      · obtain ⟨ab, ao, rfl, c0, c1⟩ := H1.out.at_ j hlt
        obtain ⟨x, hx, hr⟩ := H1.out.rd j hlt
        have hxt := hr.cap
        have HX := hide hx
        have j0 : (0 : Int) ≤ (j : Int) := by omega
        have j1 : (j : Int) < (n : Int) := by omega
        have hbl : Below wr.heap.size wr (wr.alloc (.cells #[.slice (us j).T (us j).n (us j).c, .slice (us j).B (us j).m (us j).d] 36)) := (Below.refl _ _).alloc (Nat.le_refl _) _
        obtain ⟨⟨x0, x1⟩, _⟩ := (Box.new wr 36 #[.slice (us j).T (us j).n (us j).c, .slice (us j).B (us j).m (us j).d]).c2
        have hstd : stdS x.trig s a = (decide ((us j).n ≤ a) && sameS ((s.drop (a - (us j).n)).take (us j).n) x.trig && (decide (a = (us j).n) || !wrdS (nth s (a - (us j).n - 1)))) := by unfold stdS; rw [hr.trig.len]
        have HSTD0 := hide hstd
        have HR := hide (hr.trig.below hbl)
        have HS2 := hide (HS1.out.below hbl)
        have HBL := hide (HW.out.trans (hbl.mono HW.out.size))
        clear hx hr hstd hbl
        by_cases hna : (us j).n ≤ a
        · obtain ⟨f, hf⟩ : ∃ f, a - (us j).n = f := ⟨_, rfl⟩
          have v1 : IntKind.i64.wrap ((a : Int) - ((us j).n : Int)) = (f : Int) := by rw [IntWalk.i64_in _ (by omega)]; omega
          have f0 : (0 : Int) ≤ (f : Int) := by omega
          have hsl := run_sub_lh S k d f (us j).n (by omega)
          have hsl' : ∀ W, (Instr.slice 23 (.slice S k d) (some (.int .i64 (f : Int))) (some (.int .i64 (a : Int))) none).run Try.prog W = .ok (.slice (sub S d f) (us j).n (d - f)) W := fun W => by
            rw [show (a : Int) = (f : Int) + ((us j).n : Int) by omega]
            exact hsl W
          have HM := hide (fun q => refSame_any (sub S d f) (us j).T (us j).n (d - f) (us j).n (us j).c ((s.drop f).take (us j).n) x.trig _ ((HS2.out.mid (by omega) hk).drewN q) (HR.out.drewN q) (by omega) (by omega))
          have HFA := hide (show a = f + (us j).n by omega)
          have hfk : f ≤ k := by omega
          have hstd := HSTD0.out
          rw [hf, decide_eq_true hna, Bool.true_and] at hstd
          have HSTD := hide hstd
          have d1 : ((us j).n : Int) ≤ (a : Int) := by omega
          have d2 : decide ((us j).n ≤ a) = true := by simp [hna]
          clear hsl hf hna hstd HSTD0
          generalize hsm : sameS ((s.drop f).take (us j).n) x.trig = sm at HM HSTD
          clear hsm
          cases sm
          · have HST := hide (show stdS x.trig s a = false by rw [HSTD.out]; simp)
            go_wp2_with fail
            go_quiet (first
              | (go_at_call 22; exact Calls.quiet_of (HM.out _))
              | (go_at_call 23; exact Calls.quiet_of_same ((rclass_any _ _).mono fun _ _ h => ⟨h.1, h.2.symm⟩)))
            go_wp2_with fail
            go_roundw
            case rel => exact ⟨j + 1, by omega, by go_num, below_drewN1 HBL.out _⟩
            case measure => simp [intOf]; omega
          · by_cases hf0 : (us j).n = a
            · have g1 : (((us j).n : Int) == (a : Int)) = true := by simp; omega
              have HST := hide (show stdS x.trig s a = true by rw [HSTD.out]; have := HFA.out; simp; left; omega)
              clear hf0
              exact absurd HST.out (by rw [HNO.out j x HX.out]; simp)
            · have g1 : (((us j).n : Int) == (a : Int)) = false := by simp; omega
              obtain ⟨y, hy⟩ : ∃ y, f = y + 1 := ⟨f - 1, by have := HFA.out; omega⟩
              obtain ⟨sb, so, hS0, hc0⟩ := HS2.out.at_ y (by omega)
              have y0 : (0 : Int) ≤ (y : Int) := by omega
              have y1 : (y : Int) < (k : Int) := by omega
              have v3 : IntKind.i64.wrap ((f : Int) - 1) = (y : Int) := by rw [IntWalk.i64_in _ (by omega)]; omega
              have hwn : wrdS (nth s (f - 1)) = wrdS (nth s y) := by rw [hy]; rfl
              have HWN := hide hwn
              clear hy hwn
              generalize nth s y = r at hc0 HWN
              subst hS0
              cases hw : wrdS r
              · have HWR := hide hw
                have hcl : (clsS r != 3) = true := by unfold wrdS at hw; simpa using hw
                clear hw
                have HST := hide (show stdS x.trig s a = true by rw [HSTD.out]; rw [HWN.out, HWR.out]; simp)
                exact absurd HST.out (by rw [HNO.out j x HX.out]; simp)
              · have HWR := hide hw
                have hcl : (clsS r != 3) = false := by unfold wrdS at hw; simpa using hw
                clear hw
                have HST := hide (show stdS x.trig s a = false by rw [HSTD.out]; rw [HWN.out, HWR.out]; have := HFA.out; simp; omega)
                go_wp2_with fail
                go_quiet (first
                  | (go_at_call 22; exact Calls.quiet_of (HM.out _))
                  | (go_at_call 23; exact Calls.quiet_of_same ((rclass_any _ _).mono fun _ _ h => ⟨h.1, h.2.symm⟩)))
                go_wp2_with fail
                go_roundw
                case rel => exact ⟨j + 1, by omega, by go_num, below_drewN1 HBL.out _⟩
                case measure => simp [intOf]; omega
        · have HSTD := HSTD0
          have HM : Hid True := trivial
          have d1 : ¬ (((us j).n : Int) ≤ (a : Int)) := by omega
          have d2 : decide ((us j).n ≤ a) = false := by simp; omega
          have HST := hide (show stdS x.trig s a = false by rw [HSTD.out]; rw [d2]; rfl)
          go_wp2_with fail
          go_quiet (first
            | (go_at_call 22; fail)
            | (go_at_call 23; exact Calls.quiet_of_same ((rclass_any _ _).mono fun _ _ h => ⟨h.1, h.2.symm⟩)))
          go_wp2_with fail
          go_roundw
          case rel => exact ⟨j + 1, by omega, by go_num, below_drewN1 HBL.out _⟩
          case measure => simp [intOf]; omega
      · go_wp2_with fail
        refine (known23_any _).mono ?_
        rintro e w6 ⟨rfl, hb6⟩
        have HB6 := hide (HW.out.trans (hb6.mono HW.out.size))
        clear hb6
        go_wp2_with fail
        go_ret
        exact ⟨rfl, HB2.out.trans (HB6.out.mono HB2.out.size)⟩
end Go.Proofs.Ytkoieceifplphaa
