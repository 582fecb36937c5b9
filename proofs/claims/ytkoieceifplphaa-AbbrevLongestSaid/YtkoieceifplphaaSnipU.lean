/- The reference's Find. -/
import Derived.Test.YtkoieceifplphaaSnipS
namespace Go.Proofs.Ytkoieceifplphaa
open Go.RowKit
set_option linter.unusedVariables false

set_option maxRecDepth 100000 in
set_option maxHeartbeats 8000000 in
theorem rfind_any (A S : Option Addr) (n c k d : Nat) (at_ : Int) (us : Nat → SNV) (l : List Snp) (s : List Int) (w : World) (h : Snips w A n us l) (hS : Runes w S k s) (hn : n ≤ 9223372036854775807) (hk : k ≤ d) (hd : d ≤ 9223372036854775807) :
    Calls Try.prog 39 #[.slice A n c, .slice S k d, .int .i64 at_] w fun e w' => e = .returned (.tuple #[.int .i64 (max (findS l s at_) 0), .bool (decide (0 ≤ findS l s at_))]) ∧ Below w.heap.size w w' := by
  have H := hide h
  have HS := hide hS
  have HLS := hide hS.len
  have HL := hide h.len
  have hno : ¬ ((0 ≤ at_ ∧ at_ ≤ (k : Int)) ∧ tabT l = true) → findS l s at_ = -1 := fun hc => by unfold findS; rw [HLS.out, if_neg hc]
  have HMT := hide (rmaytab_any A n c us l w h hn)
  clear h hS
  cases hm : tabT l
  · rw [hno (by rw [hm]; simp)]
    rw [hm] at HMT
    clear hno hm
    go_enter Try.func39, Try.ntmps39
    go_wp2_with fail
    refine HMT.out.mono ?_
    rintro e w1 ⟨rfl, hb1⟩
    have HB1 := hide hb1
    clear hb1
    go_wp2_with fail
    go_ret2
    exact ⟨rfl, HB1.out⟩
  rw [hm] at HMT
  by_cases h0 : at_ < 0
  · rw [hno (by omega)]
    clear hno hm
    go_enter Try.func39, Try.ntmps39
    go_wp2_with fail
    refine HMT.out.mono ?_
    rintro e w1 ⟨rfl, hb1⟩
    have HB1 := hide hb1
    clear hb1
    go_wp2_with fail
    go_ret2
    exact ⟨rfl, HB1.out⟩
  by_cases h1 : (k : Int) < at_
  · rw [hno (by omega)]
    clear hno hm
    go_enter Try.func39, Try.ntmps39
    go_wp2_with fail
    refine HMT.out.mono ?_
    rintro e w1 ⟨rfl, hb1⟩
    have HB1 := hide hb1
    clear hb1
    go_wp2_with fail
    go_ret2
    exact ⟨rfl, HB1.out⟩
  obtain ⟨a, rfl⟩ : ∃ a : Nat, at_ = a := ⟨at_.toNat, by omega⟩
  have hak : a ≤ k := by omega
  have HF := hide (show findS l s (a : Int) = bestN l s a n by unfold findS; rw [HLS.out, if_pos ⟨by omega, hm⟩, HL.out]; rfl)
  clear hno hm h0 h1
  have h0 : decide ((a : Int) < 0) = false := by simp
  have h2 : decide (k < a) = false := by simp; omega
  rw [HF.out]
  go_enter Try.func39, Try.ntmps39
  go_wp2_with fail
  refine HMT.out.mono ?_
  rintro e w1 ⟨rfl, hb1⟩
  have HB1 := hide hb1
  clear hb1 HMT
  go_wp2_with fail
  go_loopw [8, 9] (fun b i wx => ∃ j : Nat, j ≤ n ∧ i = .int .i64 j ∧ b = .int .i64 (bestN l s a j) ∧ Below w.heap.size w wx) (fun _ i _ => n - (intOf i).toNat)
  case atStart => exact ⟨0, Nat.zero_le _, rfl, rfl, HB1.out⟩
  case round =>
    obtain ⟨j, hj, rfl, rfl, hbel⟩ := hrel
    have HW := hide hbel
    have H1 := hide (H.out.below hbel)
    have HS1 := hide (HS.out.below hbel)
    clear hbel
    by_cases hlt : j < n
    · obtain ⟨ab, ao, rfl, c0, c1⟩ := H1.out.at_ j hlt
      obtain ⟨x, hx, hr⟩ := H1.out.rd j hlt
      have hxt := hr.cap
      have hbn := bestN_lt l s a j
      have hstep : bestN l s a (j + 1) = if stdS x.trig s a = true ∧ (bestN l s a j < 0 ∨ trigLen l (bestN l s a j) < x.trig.length) then (j : Int) else bestN l s a j := by
        conv => lhs; unfold bestN
        rw [hx]
      have hstd : stdS x.trig s a = (decide ((us j).n ≤ a) && sameS ((s.drop (a - (us j).n)).take (us j).n) x.trig && (decide (a = (us j).n) || !wrdS (nth s (a - (us j).n - 1)))) := by unfold stdS; rw [hr.trig.len]
      rw [hr.trig.len] at hstep
      have hb0 : ∀ i : Nat, bestN l s a j = (i : Int) → trigLen l (bestN l s a j) = (us i).n ∧ i < j := fun i hi => by
        refine ⟨?_, by omega⟩
        obtain ⟨y, hy, hry⟩ := H1.out.rd i (by omega)
        unfold trigLen
        rw [hi, Int.toNat_natCast, hy]
        exact hry.trig.len
      have HSTEP := hide hstep
      have HSTD := hide hstd
      have HB0 := hide hb0
      have HR := hide hr.trig
      clear hx hr hstep hstd hb0
      have j0 : (0 : Int) ≤ (j : Int) := by omega
      have j1 : (j : Int) < (n : Int) := by omega
      generalize hbb : bestN l s a j = b at hbn HSTEP HB0
      have HBB := hide hbb
      clear hbb
      by_cases hna : (us j).n ≤ a
      · obtain ⟨f, hf⟩ : ∃ f, a - (us j).n = f := ⟨_, rfl⟩
        have v1 : IntKind.i64.wrap ((a : Int) - ((us j).n : Int)) = (f : Int) := by rw [IntWalk.i64_in _ (by omega)]; omega
        have v2 : (a : Int) - ((us j).n : Int) = (f : Int) := by omega
        have f0 : (0 : Int) ≤ (f : Int) := by omega
        have f1 : ¬ ((f : Int) < 0) := by omega
        have hsl := run_sub_lh S k d f (us j).n (by omega)
        have hsl' : ∀ W, (Instr.slice 23 (.slice S k d) (some (.int .i64 (f : Int))) (some (.int .i64 (a : Int))) none).run Try.prog W = .ok (.slice (sub S d f) (us j).n (d - f)) W := fun W => by
          rw [show (a : Int) = (f : Int) + ((us j).n : Int) by omega]
          exact hsl W
        have HM := hide (refSame_any (sub S d f) (us j).T (us j).n (d - f) (us j).n (us j).c ((s.drop f).take (us j).n) x.trig wr (HS1.out.mid (by omega) hk) HR.out (by omega) (by omega))
        have HFA := hide (show a = f + (us j).n by omega)
        have hfk : f ≤ k := by omega
        have hstd := HSTD.out
        rw [hf, decide_eq_true hna, Bool.true_and] at hstd
        have HSTD2 := hide hstd
        clear hsl hf hna hstd HSTD
        generalize hsm : sameS ((s.drop f).take (us j).n) x.trig = sm at HM HSTD2
        clear hsm
        cases sm
        · have HS2 := hide (show bestN l s a (j + 1) = b by
            rw [HSTEP.out, if_neg (fun h => by rw [HSTD2.out] at h; simp at h)])
          go_wp2_with fail
          refine HM.out.mono ?_
          rintro e w2 ⟨rfl, q, rfl⟩
          go_wp2_with fail
          go_roundw
          case rel => exact ⟨j + 1, by omega, by go_num, by rw [HS2.out], below_drewN1 HW.out _⟩
          case measure => simp [intOf]; omega
        · by_cases hf0 : f = 0
          · have f2 : ¬ ((0 : Int) < (f : Int)) := by omega
            have hst : stdS x.trig s a = true := by rw [HSTD2.out]; simp only [Bool.true_and, Bool.or_eq_true, decide_eq_true_eq]; have := HFA.out; left; omega
            clear hf0
            by_cases hb0 : b < 0
            · have HS2 := hide (show bestN l s a (j + 1) = (j : Int) by rw [HSTEP.out, if_pos ⟨hst, .inl hb0⟩])
              have d0 : decide (b < 0) = true := by simp [hb0]
              clear hst
              go_wp2_with fail
              refine HM.out.mono ?_
              rintro e w2 ⟨rfl, q, rfl⟩
              go_wp2_with fail
              go_roundw
              case rel => exact ⟨j + 1, by omega, by go_num, by rw [HS2.out], below_drewN1 HW.out _⟩
              case measure => simp [intOf]; omega
            · obtain ⟨i, rfl⟩ : ∃ i : Nat, b = i := ⟨b.toNat, by omega⟩
              obtain ⟨htl, hij⟩ := HB0.out i rfl
              obtain ⟨ib, io, hie, i0, i1⟩ := H1.out.at_ i (by omega)
              injection hie with hie
              injection hie with hie1 hie2
              subst hie1 hie2
              have d0 : decide ((i : Int) < 0) = false := by simp
              have r0 : (0 : Int) ≤ (i : Int) := by omega
              have r1 : (i : Int) < (n : Int) := by omega
              by_cases hg : (us i).n < (us j).n
              · have HS2 := hide (show bestN l s a (j + 1) = (j : Int) by rw [HSTEP.out, if_pos ⟨hst, .inr (by rw [htl]; exact hg)⟩])
                have d1 : decide ((us i).n < (us j).n) = true := by simp [hg]
                have d2 : ((us i).n : Int) < ((us j).n : Int) := by omega
                clear hst htl hij hb0 hg
                go_wp2_with fail
                refine HM.out.mono ?_
                rintro e w2 ⟨rfl, q, rfl⟩
                go_wp2_with fail
                go_roundw
                case rel => exact ⟨j + 1, by omega, by go_num, by rw [HS2.out], below_drewN1 HW.out _⟩
                case measure => simp [intOf]; omega
              · have HS2 := hide (show bestN l s a (j + 1) = (i : Int) by rw [HSTEP.out, if_neg (fun h => by rcases h.2 with h1 | h1; exact hb0 h1; rw [htl] at h1; exact hg h1)])
                have d1 : decide ((us i).n < (us j).n) = false := by simp [hg]
                have d2 : ¬ (((us i).n : Int) < ((us j).n : Int)) := by omega
                clear hst htl hij hb0 hg
                go_wp2_with fail
                refine HM.out.mono ?_
                rintro e w2 ⟨rfl, q, rfl⟩
                go_wp2_with fail
                go_roundw
                case rel => exact ⟨j + 1, by omega, by go_num, by rw [HS2.out], below_drewN1 HW.out _⟩
                case measure => simp [intOf]; omega
          · obtain ⟨y, hy⟩ : ∃ y, f = y + 1 := ⟨f - 1, by omega⟩
            have HY := hide hy
            have f2 : (0 : Int) < (f : Int) := by omega
            obtain ⟨sb, so, hS0, hc0⟩ := HS1.out.at_ y (by omega)
            have y0 : (0 : Int) ≤ (y : Int) := by omega
            have y1 : (y : Int) < (k : Int) := by omega
            have v3 : IntKind.i64.wrap ((f : Int) - 1) = (y : Int) := by rw [IntWalk.i64_in _ (by omega)]; omega
            have v4 : (f : Int) - 1 = (y : Int) := by omega
            have HC0 := hide (fun q => (show (wr.drewN q).cell? ⟨sb, so + y, none⟩ = some (.int .i32 (nth s y)) from hc0))
            have hwn : wrdS (nth s (f - 1)) = wrdS (nth s y) := by rw [hy]; rfl
            have HWN := hide hwn
            clear hy hwn hc0
            generalize nth s y = r at HC0 HWN
            subst hS0
            cases hw : wrdS r
            · have HWR := hide hw
              clear hw
              have hst : stdS x.trig s a = true := by rw [HSTD2.out]; simp only [Bool.true_and, Bool.or_eq_true, decide_eq_true_eq]; right; rw [HWN.out, HWR.out]; rfl
              by_cases hb0 : b < 0
              · have HS2 := hide (show bestN l s a (j + 1) = (j : Int) by rw [HSTEP.out, if_pos ⟨hst, .inl hb0⟩])
                have d0 : decide (b < 0) = true := by simp [hb0]
                clear hst
                go_wp2_with fail
                refine HM.out.mono ?_
                rintro e w2 ⟨rfl, q, rfl⟩
                have hc1 := HC0.out q
                go_wp2_with fail
                refine (rword_any _ _).mono ?_
                rw [HWR.out]
                rintro e w3 ⟨rfl, rfl⟩
                go_wp2_with fail
                go_roundw
                case rel => exact ⟨j + 1, by omega, by go_num, by rw [HS2.out], below_drewN1 HW.out _⟩
                case measure => simp [intOf]; omega
              · obtain ⟨i, rfl⟩ : ∃ i : Nat, b = i := ⟨b.toNat, by omega⟩
                obtain ⟨htl, hij⟩ := HB0.out i rfl
                obtain ⟨ib, io, hie, i0, i1⟩ := H1.out.at_ i (by omega)
                injection hie with hie
                injection hie with hie1 hie2
                subst hie1 hie2
                have d0 : decide ((i : Int) < 0) = false := by simp
                have r0 : (0 : Int) ≤ (i : Int) := by omega
                have r1 : (i : Int) < (n : Int) := by omega
                by_cases hg : (us i).n < (us j).n
                · have HS2 := hide (show bestN l s a (j + 1) = (j : Int) by rw [HSTEP.out, if_pos ⟨hst, .inr (by rw [htl]; exact hg)⟩])
                  have d1 : decide ((us i).n < (us j).n) = true := by simp [hg]
                  have d2 : ((us i).n : Int) < ((us j).n : Int) := by omega
                  clear hst htl hij hb0 hg
                  go_wp2_with fail
                  refine HM.out.mono ?_
                  rintro e w2 ⟨rfl, q, rfl⟩
                  have hc1 := HC0.out q
                  go_wp2_with fail
                  refine (rword_any _ _).mono ?_
                  rw [HWR.out]
                  rintro e w3 ⟨rfl, rfl⟩
                  go_wp2_with fail
                  go_roundw
                  case rel => exact ⟨j + 1, by omega, by go_num, by rw [HS2.out], below_drewN1 HW.out _⟩
                  case measure => simp [intOf]; omega
                · have HS2 := hide (show bestN l s a (j + 1) = (i : Int) by rw [HSTEP.out, if_neg (fun h => by rcases h.2 with h1 | h1; exact hb0 h1; rw [htl] at h1; exact hg h1)])
                  have d1 : decide ((us i).n < (us j).n) = false := by simp [hg]
                  have d2 : ¬ (((us i).n : Int) < ((us j).n : Int)) := by omega
                  clear hst htl hij hb0 hg
                  go_wp2_with fail
                  refine HM.out.mono ?_
                  rintro e w2 ⟨rfl, q, rfl⟩
                  have hc1 := HC0.out q
                  go_wp2_with fail
                  refine (rword_any _ _).mono ?_
                  rw [HWR.out]
                  rintro e w3 ⟨rfl, rfl⟩
                  go_wp2_with fail
                  go_roundw
                  case rel => exact ⟨j + 1, by omega, by go_num, by rw [HS2.out], below_drewN1 HW.out _⟩
                  case measure => simp [intOf]; omega
            · have HWR := hide hw
              clear hw
              have HS2 := hide (show bestN l s a (j + 1) = b by
                rw [HSTEP.out, if_neg (fun h => by
                  have h1 := h.1
                  rw [HSTD2.out, HWN.out, HWR.out] at h1
                  have := HFA.out
                  simp at h1
                  omega)])
              go_wp2_with fail
              refine HM.out.mono ?_
              rintro e w2 ⟨rfl, q, rfl⟩
              have hc1 := HC0.out q
              go_wp2_with fail
              refine (rword_any _ _).mono ?_
              rw [HWR.out]
              rintro e w3 ⟨rfl, rfl⟩
              go_wp2_with fail
              go_roundw
              case rel => exact ⟨j + 1, by omega, by go_num, by rw [HS2.out], below_drewN1 HW.out _⟩
              case measure => simp [intOf]; omega

      · have v1 : IntKind.i64.wrap ((a : Int) - ((us j).n : Int)) = (a : Int) - ((us j).n : Int) := by rw [IntWalk.i64_in _ (by omega)]
        have v2 : (a : Int) - ((us j).n : Int) < 0 := by omega
        have v3 : (a : Int) < ((us j).n : Int) := by omega
        have HS2 := hide (show bestN l s a (j + 1) = b by rw [HSTEP.out, if_neg (fun h => by rw [HSTD.out] at h; simp [hna] at h)])
        go_wp2_with fail
        go_roundw
        case rel => exact ⟨j + 1, by omega, by go_num, by rw [HS2.out], HW.out⟩
        case measure => simp [intOf]; omega
    · have e : j = n := by omega
      have hlo := (bestN_lt l s a j).1
      have HE := hide (show bestN l s a n = bestN l s a j by rw [e])
      clear e
      generalize bestN l s a j = b at hlo HE
      by_cases hz : 0 ≤ b
      · have hd0 : decide (0 ≤ b) = true := by simp [hz]
        have hd1 : decide (b < 0) = false := by simp [hz]
        go_wp2_with fail
        go_ret2
        exact ⟨by rw [HE.out, show max b 0 = b by omega]; simp [hz], HW.out⟩
      · have hd0 : decide (0 ≤ b) = false := by simp; omega
        have hd1 : decide (b < 0) = true := by simp; omega
        go_wp2_with fail
        go_ret2
        exact ⟨by rw [HE.out, show max b 0 = 0 by omega]; simp; omega, HW.out⟩
end Go.Proofs.Ytkoieceifplphaa
