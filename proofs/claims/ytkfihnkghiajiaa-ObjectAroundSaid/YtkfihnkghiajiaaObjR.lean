/- Contracts of layer 25's functions on quotes: both quoted. -/
import Derived.Test.YtkfihnkghiajiaaObjQ
namespace Go.Proofs.Ytkfihnkghiajiaa
open Go.RowKit
set_option linter.unusedVariables false

set_option maxRecDepth 100000 in
set_option maxHeartbeats 4000000 in
theorem quoted_any (S : Option Addr) (k d at_ : Nat) (m : Int) (around : Bool) (s : List Int) (w : World) (F T : Nat) (ok : Bool) (hS : Runes w S k s) (hk : k ≤ 35184372088000) (ha : at_ < k) (hd : k ≤ d) (hd2 : d ≤ 9223372036854775807)
    (hF : F = spF (quoteS s at_ m around)) (hT : T = spT (quoteS s at_ m around)) (hok : ok = (quoteS s at_ m around).isSome) :
    Calls Try.prog 55 #[.slice S k d, .int .i64 at_, .int .i32 m, .bool around] w fun e w' =>
      e = .returned (.tuple #[.agg #[.int .i64 F, .int .i64 T], .bool ok]) ∧ Below w.heap.size w w' := by
  have HL := hide hS.len
  have hll := line_law (s := s) (at_ := at_) (by rw [hS.len]; omega)
  have hle := lineE_le s (at_ := at_) (by rw [hS.len]; omega)
  rw [hS.len] at hle
  have HF := hide hF
  have HT := hide hT
  have HO := hide hok
  have HX0 := hide (Box.new w 47 #[.int .i64 0, .int .i64 0])
  have HB0 := hide ((Below.refl _ w).alloc (Nat.le_refl _) (.cells #[.int .i64 0, .int .i64 0] 47))
  have HSZ := hide (hS.alloc (.cells #[.int .i64 0, .int .i64 0] 47))
  obtain ⟨B, hB⟩ : ∃ B, lineB s at_ = B := ⟨_, rfl⟩
  obtain ⟨E, hE⟩ : ∃ E, lineE s at_ = E := ⟨_, rfl⟩
  obtain ⟨cc, hcc⟩ : ∃ cc, colS (s.take at_) = cc := ⟨_, rfl⟩
  obtain ⟨rr, hrr⟩ : ∃ rr, cntL (s.take at_) = rr := ⟨_, rfl⟩
  have hrk : rr ≤ k := by
    have h1 := cntL_le (s.take at_)
    rw [hrr, List.length_take] at h1
    omega
  have HPL := hide (fun W (hW : Runes W S k s) => place_any S k d (at_ : Int) s W hW (by omega) hd hd2 (by omega))
  have hpl : placeS s (at_ : Int) = ((rr : Int), (cc : Int), 0) := by
    unfold placeS
    rw [HL.out, if_pos ⟨by omega, by omega⟩, Int.toNat_natCast, hrr, hcc]
  rw [hpl] at HPL
  have HWD := hide (fun W (hW : Runes W S k s) => width_any S k d (rr : Int) s W hW (by omega) hd hd2 (by omega))
  rw [hrr, hcc, hB, hE] at hll
  rw [hll.2.1] at HWD
  rw [hE] at hle
  obtain ⟨hbc, _, hbe⟩ := hll
  have hq : quoteL m at_ none B ((s.drop B).take (E - B)) = quoteL m at_ none (lineB s at_) ((s.drop (lineB s at_)).take (lineE s at_ - lineB s at_)) := by rw [hB, hE]
  have HQ := hide hq
  have e1 : (at_ : Int) - (cc : Int) = (B : Int) := by omega
  clear hF hT hok hS hB hE hcc hrr hpl hq
  go_enter Try.func55, Try.ntmps55
  go_wp2_with fail
  refine (HPL.out _ HSZ.out).mono ?_
  rintro e w' ⟨rfl, rfl⟩
  go_wp2_with fail
  refine (HWD.out _ HSZ.out).mono ?_
  rintro e w' ⟨rfl, rfl⟩
  generalize hW0 : (w.alloc (.cells #[.int .i64 0, .int .i64 0] 47)) = W0 at HX0 HB0 HSZ ⊢
  clear hW0
  obtain ⟨⟨x0, x1⟩, z0, z1⟩ := HX0.out.c2
  go_wp2_with fail
  go_loop [15, 16] (fun fs is => ∃ (i : Nat) (f : Option Nat), B ≤ i ∧ i ≤ E ∧ is = .int .i64 i ∧ fs = .int .i64 (placeN f) ∧ (∀ a, f = some a → a < i) ∧ Hid (quoteL m at_ f i ((s.drop i).take (E - i)) = quoteL m at_ none B ((s.drop B).take (E - B)))) (fun fs is => E - (intOf is).toNat)
  case atStart => exact ⟨B, none, Nat.le_refl _, hbe, rfl, rfl, (fun a h => by cases h), rfl⟩
  case round =>
    obtain ⟨i, f, hbi, hie, rfl, rfl, hfi, hst⟩ := hrel
    have HFI := hide hfi
    clear hfi
    by_cases hlt : i < E
    · obtain ⟨ab', ao', rfl, hc⟩ := HSZ.out.at_ i (by omega)
      have h0 : (0 : Int) ≤ (i : Int) := by omega
      have h0' : (i : Int) < (k : Int) := by omega
      have HQS := hide (quote_step (m := m) (at_ := at_) (f := f) (i := i) (e := E) (s := s) hlt (by rw [HL.out]; omega))
      by_cases hs : nth s i = m
      · have e2 : (nth s i != m) = false := by simpa using hs
        have HS2 := hide hs
        clear hs
        cases f with
        | none =>
          have e3 : placeN none = -1 := rfl
          rw [e3]
          clear e3
          go_wp2_with fail
          go_round
          case rel => exact ⟨i + 1, some i, by omega, by omega, by go_num, by first | rfl | go_num, (fun a h => by cases h; omega), by
            have h1 := hst.out
            rw [HQS.out, if_pos HS2.out] at h1
            exact h1⟩
          case measure => simp [intOf]; omega
        | some a =>
          have hai := HFI.out a rfl
          have e3 : placeN (some a) = (a : Int) := rfl
          rw [e3]
          clear e3
          by_cases hat : at_ ≤ i
          · have HR := hide (show quoteL m at_ none (lineB s at_) ((s.drop (lineB s at_)).take (lineE s at_ - lineB s at_)) = some (a, i) by
              have h1 := hst.out
              rw [HQS.out, if_pos HS2.out] at h1
              rw [← HQ.out, ← h1]
              exact if_pos hat)
            have hw := quoteS_some (around := around) HR.out
            rw [hw] at HF HT HO
            clear hw
            have hok : ok = true := by
              have := HO.out
              revert this
              split <;> exact id
            subst hok
            have hb := hide (fun W => both_any a i around W F T (by omega) (by omega) (by have := HF.out; cases around <;> (simp [spF] at this; subst this; simp)) (by have := HT.out; cases around <;> (simp [spT] at this; subst this; simp)))
            go_wp2_with fail
            refine (hb.out _).mono ?_
            rintro e w1 ⟨rfl, hb1⟩
            have HX1 := hide (HX0.out.below (hb1))
            have HB1 := hide (HB0.out.trans (hb1.mono HB0.out.size))
            clear hb1 x0 x1 z0 z1
            obtain ⟨⟨x0, x1⟩, z0, z1⟩ := HX1.out.c2
            go_wp2_with fail
            obtain ⟨⟨r0, r1⟩, _⟩ := ((HX1.out.set 0 (.int .i64 F)).set 1 (.int .i64 T)).c2
            exact bodyPost_ret (v := .tuple #[.agg #[.int .i64 F, .int .i64 T], .bool true]) (by simp [results, Try.results55, go_sem, r0, r1]) rfl
              ⟨rfl, (HB1.out.setCell (p := ⟨w.heap.size, 0, none⟩) (Nat.le_refl _) _).setCell (p := ⟨w.heap.size, 1, none⟩) (Nat.le_refl _) _⟩
          · go_wp2_with fail
            go_round
            case rel => exact ⟨i + 1, none, by omega, by omega, by go_num, rfl, (fun a h => by cases h), by
              have h1 := hst.out
              rw [HQS.out, if_pos HS2.out] at h1
              rw [← h1]
              exact (if_neg hat).symm⟩
            case measure => simp [intOf]; omega
      · have e2 : (nth s i != m) = true := by simpa using hs
        have HS2 := hide hs
        clear hs
        go_wp2_with fail
        go_round
        case rel => exact ⟨i + 1, f, by omega, by omega, by go_num, rfl, (fun a h => by have := HFI.out a h; omega), by
          have h1 := hst.out
          rw [HQS.out, if_neg HS2.out] at h1
          exact h1⟩
        case measure => simp [intOf]; omega
    · have hn := quoteS_none (around := around) (show quoteL m at_ none (lineB s at_) ((s.drop (lineB s at_)).take (lineE s at_ - lineB s at_)) = none by
        rw [← HQ.out, ← hst.out]
        exact quote_end (by omega))
      rw [hn] at HF HT HO
      obtain rfl : F = 0 := HF.out
      obtain rfl : T = 0 := HT.out
      obtain rfl : ok = false := HO.out
      clear hn
      go_wp2_with fail
      obtain ⟨⟨r0, r1⟩, _⟩ := ((HX0.out.set 0 (.int .i64 0)).set 1 (.int .i64 0)).c2
      exact bodyPost_ret (v := .tuple #[.agg #[.int .i64 0, .int .i64 0], .bool false]) (by simp [results, Try.results55, go_sem, r0, r1]) rfl
        ⟨rfl, (HB0.out.setCell (p := ⟨w.heap.size, 0, none⟩) (Nat.le_refl _) _).setCell (p := ⟨w.heap.size, 1, none⟩) (Nat.le_refl _) _⟩

set_option maxRecDepth 100000 in
set_option maxHeartbeats 4000000 in
theorem rquoted_any (S : Option Addr) (k d at_ : Nat) (m : Int) (around : Bool) (s : List Int) (w : World) (F T : Nat) (ok : Bool) (hS : Runes w S k s) (hk : k ≤ 35184372088000) (ha : at_ < k) (hd : k ≤ d) (hd2 : d ≤ 9223372036854775807)
    (hF : F = spF (quoteS s at_ m around)) (hT : T = spT (quoteS s at_ m around)) (hok : ok = (quoteS s at_ m around).isSome) :
    Calls Try.prog 62 #[.slice S k d, .int .i64 at_, .int .i32 m, .bool around] w fun e w' =>
      e = .returned (.tuple #[.agg #[.int .i64 F, .int .i64 T], .bool ok]) ∧ Below w.heap.size w w' := by
  have HL := hide hS.len
  have hll := line_law (s := s) (at_ := at_) (by rw [hS.len]; omega)
  have hle := lineE_le s (at_ := at_) (by rw [hS.len]; omega)
  rw [hS.len] at hle
  have HF := hide hF
  have HT := hide hT
  have HO := hide hok
  have HX0 := hide (Box.new w 47 #[.int .i64 0, .int .i64 0])
  have HB0 := hide ((Below.refl _ w).alloc (Nat.le_refl _) (.cells #[.int .i64 0, .int .i64 0] 47))
  have HSZ := hide (hS.alloc (.cells #[.int .i64 0, .int .i64 0] 47))
  obtain ⟨B, hB⟩ : ∃ B, lineB s at_ = B := ⟨_, rfl⟩
  obtain ⟨E, hE⟩ : ∃ E, lineE s at_ = E := ⟨_, rfl⟩
  rw [hB, hE] at hll
  rw [hE] at hle
  have hbc : B ≤ at_ := by omega
  have hbe : B ≤ E := hll.2.2
  have HBD := hide (fun W (hW : Runes W S k s) => bounds_any S k d at_ s W B E hW (by omega) (by omega) hB.symm hE.symm)
  have hq : quoteL m at_ none B ((s.drop B).take (E - B)) = quoteL m at_ none (lineB s at_) ((s.drop (lineB s at_)).take (lineE s at_ - lineB s at_)) := by rw [hB, hE]
  have HQ := hide hq
  clear hF hT hok hS hB hE hq hll
  go_enter Try.func62, Try.ntmps62
  go_wp2_with fail
  refine (HBD.out _ HSZ.out).mono ?_
  rintro e w' ⟨rfl, rfl⟩
  generalize hW0 : (w.alloc (.cells #[.int .i64 0, .int .i64 0] 47)) = W0 at HX0 HB0 HSZ ⊢
  clear hW0
  obtain ⟨⟨x0, x1⟩, z0, z1⟩ := HX0.out.c2
  go_wp2_with fail
  go_loop [10, 12] (fun is fs => ∃ (i : Nat) (f : Option Nat), B ≤ i ∧ i ≤ E ∧ is = .int .i64 i ∧ fs = .int .i64 (placeN f) ∧ (∀ a, f = some a → a < i) ∧ Hid (quoteL m at_ f i ((s.drop i).take (E - i)) = quoteL m at_ none B ((s.drop B).take (E - B)))) (fun is fs => E - (intOf is).toNat)
  case atStart => exact ⟨B, none, Nat.le_refl _, hbe, rfl, rfl, (fun a h => by cases h), rfl⟩
  case round =>
    obtain ⟨i, f, hbi, hie, rfl, rfl, hfi, hst⟩ := hrel
    have HFI := hide hfi
    clear hfi
    by_cases hlt : i < E
    · obtain ⟨ab', ao', rfl, hc⟩ := HSZ.out.at_ i (by omega)
      have h0 : (0 : Int) ≤ (i : Int) := by omega
      have h0' : (i : Int) < (k : Int) := by omega
      have HQS := hide (quote_step (m := m) (at_ := at_) (f := f) (i := i) (e := E) (s := s) hlt (by rw [HL.out]; omega))
      by_cases hs : nth s i = m
      · have e2 : (nth s i != m) = false := by simpa using hs
        have HS2 := hide hs
        clear hs
        cases f with
        | none =>
          have e3 : placeN none = -1 := rfl
          rw [e3]
          clear e3
          go_wp2_with fail
          go_round
          case rel => exact ⟨i + 1, some i, by omega, by omega, by go_num, by first | rfl | go_num, (fun a h => by cases h; omega), by
            have h1 := hst.out
            rw [HQS.out, if_pos HS2.out] at h1
            exact h1⟩
          case measure => simp [intOf]; omega
        | some a =>
          have hai := HFI.out a rfl
          have e3 : placeN (some a) = (a : Int) := rfl
          rw [e3]
          clear e3
          by_cases hat : at_ ≤ i
          · have HR := hide (show quoteL m at_ none (lineB s at_) ((s.drop (lineB s at_)).take (lineE s at_ - lineB s at_)) = some (a, i) by
              have h1 := hst.out
              rw [HQS.out, if_pos HS2.out] at h1
              rw [← HQ.out, ← h1]
              exact if_pos hat)
            have hw := quoteS_some (around := around) HR.out
            rw [hw] at HF HT HO
            clear hw
            have hok : ok = true := by
              have := HO.out
              revert this
              split <;> exact id
            subst hok
            cases around
            · obtain rfl : F = a + 1 := HF.out
              obtain rfl : T = i := HT.out
              go_wp2_with fail
              obtain ⟨⟨r0, r1⟩, _⟩ := ((HX0.out.set 0 (.int .i64 ((a : Int) + 1))).set 1 (.int .i64 T)).c2
              exact bodyPost_ret (v := .tuple #[.agg #[.int .i64 ((a : Int) + 1), .int .i64 T], .bool true]) (by simp [results, Try.results62, go_sem, r0, r1]) rfl
                ⟨rfl, (HB0.out.setCell (p := ⟨w.heap.size, 0, none⟩) (Nat.le_refl _) _).setCell (p := ⟨w.heap.size, 1, none⟩) (Nat.le_refl _) _⟩
            · obtain rfl : F = a := HF.out
              obtain rfl : T = i + 1 := HT.out
              go_wp2_with fail
              obtain ⟨⟨r0, r1⟩, _⟩ := ((HX0.out.set 0 (.int .i64 F)).set 1 (.int .i64 ((i : Int) + 1))).c2
              exact bodyPost_ret (v := .tuple #[.agg #[.int .i64 F, .int .i64 ((i : Int) + 1)], .bool true]) (by simp [results, Try.results62, go_sem, r0, r1]) rfl
                ⟨rfl, (HB0.out.setCell (p := ⟨w.heap.size, 0, none⟩) (Nat.le_refl _) _).setCell (p := ⟨w.heap.size, 1, none⟩) (Nat.le_refl _) _⟩
          · go_wp2_with fail
            go_round
            case rel => exact ⟨i + 1, none, by omega, by omega, by go_num, rfl, (fun a h => by cases h), by
              have h1 := hst.out
              rw [HQS.out, if_pos HS2.out] at h1
              rw [← h1]
              exact (if_neg hat).symm⟩
            case measure => simp [intOf]; omega
      · have e2 : (nth s i != m) = true := by simpa using hs
        have HS2 := hide hs
        clear hs
        go_wp2_with fail
        go_round
        case rel => exact ⟨i + 1, f, by omega, by omega, by go_num, rfl, (fun a h => by have := HFI.out a h; omega), by
          have h1 := hst.out
          rw [HQS.out, if_neg HS2.out] at h1
          exact h1⟩
        case measure => simp [intOf]; omega
    · have hn := quoteS_none (around := around) (show quoteL m at_ none (lineB s at_) ((s.drop (lineB s at_)).take (lineE s at_ - lineB s at_)) = none by
        rw [← HQ.out, ← hst.out]
        exact quote_end (by omega))
      rw [hn] at HF HT HO
      obtain rfl : F = 0 := HF.out
      obtain rfl : T = 0 := HT.out
      obtain rfl : ok = false := HO.out
      clear hn
      go_wp2_with fail
      obtain ⟨⟨r0, r1⟩, _⟩ := ((HX0.out.set 0 (.int .i64 0)).set 1 (.int .i64 0)).c2
      exact bodyPost_ret (v := .tuple #[.agg #[.int .i64 0, .int .i64 0], .bool false]) (by simp [results, Try.results62, go_sem, r0, r1]) rfl
        ⟨rfl, (HB0.out.setCell (p := ⟨w.heap.size, 0, none⟩) (Nat.le_refl _) _).setCell (p := ⟨w.heap.size, 1, none⟩) (Nat.le_refl _) _⟩

end Go.Proofs.Ytkfihnkghiajiaa
