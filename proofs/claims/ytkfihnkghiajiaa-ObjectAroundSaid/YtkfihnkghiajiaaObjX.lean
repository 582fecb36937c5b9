/- Contracts of layer 25's reference on words: wordly. -/
import Derived.Test.YtkfihnkghiajiaaObjW
namespace Go.Proofs.Ytkfihnkghiajiaa
open Go.RowKit
set_option linter.unusedVariables false

/-- Elements of a sort, by the reference's number. -/
def ofT (kk : Int) : Int → Bool := fun x => decide (thirdS x = kk)
theorem ofT_same (s : List Int) (at_ : Nat) : ofT (thirdS (nth s at_)) = sameK s at_ := by
  funext x
  unfold ofT sameK
  rw [decide_eq_decide]
  exact third_kd _ _
theorem ofT_blank : ofT 0 = blankK := by
  funext x
  unfold ofT blankK
  rw [decide_eq_decide]
  exact third_blank _

set_option maxRecDepth 100000 in
set_option maxHeartbeats 4000000 in
theorem wordly_any (S : Option Addr) (k d at_ : Nat) (around : Bool) (s : List Int) (w : World) (F T : Nat) (ok : Bool) (hS : Runes w S k s) (hk : k ≤ 35184372088832) (ha : at_ < k)
    (hF : F = spF (wordS s at_ around)) (hT : T = spT (wordS s at_ around)) (hok : ok = (wordS s at_ around).isSome) :
    Calls Try.prog 60 #[.slice S k d, .int .i64 at_, .bool around] w fun e w' =>
      e = .returned (.tuple #[.agg #[.int .i64 F, .int .i64 T], .bool ok]) ∧ Below w.heap.size w w' := by
  have HS := hide hS
  have HL := hide hS.len
  have hal := hS.len
  obtain ⟨ab, ao, rfl, hc0⟩ := (hS.alloc (.cells #[.int .i64 0, .int .i64 0] 47)).at_ at_ ha
  have h0 : (0 : Int) ≤ (at_ : Int) := by omega
  have h0' : (at_ : Int) < (k : Int) := by omega
  have HF := hide hF
  have HT := hide hT
  have HO := hide hok
  have HX0 := hide (Box.new w 47 #[.int .i64 0, .int .i64 0])
  have HB0 := hide ((Below.refl _ w).alloc (Nat.le_refl _) (.cells #[.int .i64 0, .int .i64 0] 47))
  have HC0 := hide hc0
  have HSZ := hide (hS.alloc (.cells #[.int .i64 0, .int .i64 0] 47))
  clear hF hT hok hS hc0
  by_cases hl : kdS (nth s at_) = 2
  · have e0 : (thirdS (nth s at_) == 2) = true := by simpa using (third_line _).2 hl
    have hn := wordS_none (around := around) hl
    rw [hn] at HF HT HO
    obtain rfl : F = 0 := HF.out
    obtain rfl : T = 0 := HT.out
    obtain rfl : ok = false := HO.out
    have hc0 := HC0.out
    clear hn hl
    go_enter Try.func60, Try.ntmps60
    go_wp2_with fail
    refine (third_any _ _).mono ?_
    rintro e w' ⟨rfl, rfl⟩
    go_wp2_with fail
    obtain ⟨⟨r0, r1⟩, _⟩ := HX0.out.c2
    exact bodyPost_ret (v := .tuple #[.agg #[.int .i64 0, .int .i64 0], .bool false]) (by simp [results, Try.results60, go_sem, r0, r1]) rfl ⟨rfl, HB0.out⟩
  · have e0 : (thirdS (nth s at_) == 2) = false := by simpa using fun h => hl ((third_line _).1 h)
    obtain ⟨kk, hkk⟩ : ∃ kk, thirdS (nth s at_) = kk := ⟨_, rfl⟩
    obtain ⟨F1, hF1⟩ : ∃ F1, F1 = wFrom s at_ := ⟨_, rfl⟩
    obtain ⟨T1, hT1⟩ : ∃ T1, T1 = wTo s at_ := ⟨_, rfl⟩
    have hb1 : F1 ≤ at_ ∧ at_ < T1 ∧ T1 ≤ k := by
      have h1 := wTo_gt (s := s) (at_ := at_) (by omega)
      have h2 := wFrom_le s at_
      omega
    have HN := hide hl
    have HO1 := hide (show ofT kk = sameK s at_ by rw [← hkk]; exact ofT_same _ _)
    have hc0 := HC0.out
    have HTH := hide (third_any (nth s at_))
    rw [hkk] at e0 HTH
    have HF1 := hide hF1
    have HT1 := hide hT1
    clear hF1 hT1 hkk hl hal
    go_enter Try.func60, Try.ntmps60
    go_wp2_with fail
    refine (HTH.out _).mono ?_
    rintro e w' ⟨rfl, rfl⟩
    go_upto_block 0 with fail
    generalize hW0 : (w.alloc (.cells #[.int .i64 0, .int .i64 0] 47)) = W0 at HX0 HB0 HSZ hc0 ⊢
    clear hW0 HC0 hc0 HTH
    go_cut [9] (fun f wx => f = .int .i64 F1 ∧ wx = W0)
    case first =>
      go_wp2_with fail
      go_loop [9] (fun f => ∃ a : Nat, a ≤ at_ ∧ f = .int .i64 a ∧ Hid (a - backN (sameK s at_) s a = F1)) (fun f => (intOf f).toNat)
      case atStart => exact ⟨at_, Nat.le_refl _, rfl, HF1.out.symm⟩
      case round =>
        obtain ⟨a, hlea, rfl, hst⟩ := hrel
        rcases Nat.eq_zero_or_pos a with rfl | hpos
        · obtain rfl : F1 = 0 := hst.out.symm
          go_wp2_with fail
          go_meet
          exact ⟨rfl, rfl⟩
        · obtain ⟨b, rfl⟩ : ∃ b, a = b + 1 := ⟨a - 1, by omega⟩
          have e1 : (((b + 1 : Nat) : Int)) - 1 = (b : Int) := by omega
          obtain ⟨ab', ao', hE, hc⟩ := HSZ.out.at_ b (by omega)
          cases hE
          have HBN := hide (show backN (sameK s at_) s (b + 1) = if ofT kk (nth s b) then backN (sameK s at_) s b + 1 else 0 by rw [HO1.out]; rfl)
          by_cases hs : thirdS (nth s b) = kk
          · have e2 : (thirdS (nth s b) == kk) = true := by simpa using hs
            have HP := hide (show ofT kk (nth s b) = true by unfold ofT; simpa using hs)
            clear hs
            go_wp2_with fail
            refine (third_any _ _).mono ?_
            rintro e w1 ⟨rfl, rfl⟩
            go_wp2_with fail
            go_round
            case rel => exact ⟨b, by omega, by go_num, by
              have h1 := hst.out
              rw [HBN.out, HP.out, if_pos rfl] at h1
              show b - backN (sameK s at_) s b = F1
              omega⟩
            case measure => simp [intOf]
          · have e2 : (thirdS (nth s b) == kk) = false := by simpa using hs
            have HP := hide (show ofT kk (nth s b) = false by unfold ofT; simpa using hs)
            obtain rfl : F1 = b + 1 := by
              have h1 := hst.out
              rw [HBN.out, HP.out] at h1
              simpa using h1.symm
            clear hs
            go_wp2_with fail
            refine (third_any _ _).mono ?_
            rintro e w1 ⟨rfl, rfl⟩
            go_wp2_with fail
            go_meet
            exact ⟨rfl, rfl⟩
    case rest =>
      obtain ⟨rfl, rfl⟩ := hcut
      go_upto_block 2 with fail
      go_cut [10] (fun f wx => f = .int .i64 T1 ∧ wx = wc)
      case first =>
        go_wp2_with fail
        go_loop [10] (fun f => ∃ a : Nat, at_ ≤ a ∧ a ≤ k ∧ f = .int .i64 a ∧ Hid (a + fwdN (sameK s at_) (s.drop a) = T1)) (fun f => k - (intOf f).toNat)
        case atStart => exact ⟨at_, Nat.le_refl _, by omega, rfl, HT1.out.symm⟩
        case round =>
          obtain ⟨a, hlea, hak, rfl, hst⟩ := hrel
          by_cases hlt : a < k
          · obtain ⟨ab', ao', hE, hc⟩ := HSZ.out.at_ a hlt
            cases hE
            have h1 : (0 : Int) ≤ (a : Int) := by omega
            have h2 : (a : Int) < (k : Int) := by omega
            have HFW := hide (fwdN_drop (p := (sameK s at_)) (l := s) (k := a) (by rw [HL.out]; exact hlt))
            by_cases hs : thirdS (nth s a) = kk
            · have e2 : (thirdS (nth s a) == kk) = true := by simpa using hs
              have HP := hide (show (sameK s at_) (nth s a) = true by rw [← HO1.out]; unfold ofT; simpa using hs)
              clear hs
              go_wp2_with fail
              refine (third_any _ _).mono ?_
              rintro e w1 ⟨rfl, rfl⟩
              go_wp2_with fail
              go_round
              case rel => exact ⟨a + 1, by omega, by omega, by go_num, by
                have h1 := hst.out
                rw [HFW.out, HP.out, if_pos rfl] at h1
                show a + 1 + fwdN (sameK s at_) (s.drop (a + 1)) = T1
                omega⟩
              case measure => simp [intOf]; omega
            · have e2 : (thirdS (nth s a) == kk) = false := by simpa using hs
              have HP := hide (show (sameK s at_) (nth s a) = false by rw [← HO1.out]; unfold ofT; simpa using hs)
              obtain rfl : T1 = a := by
                have h1 := hst.out
                rw [HFW.out, HP.out] at h1
                simpa using h1.symm
              clear hs
              go_wp2_with fail
              refine (third_any _ _).mono ?_
              rintro e w1 ⟨rfl, rfl⟩
              go_wp2_with fail
              go_meet
              exact ⟨rfl, rfl⟩
          · obtain rfl : T1 = a := by
              have h1 := hst.out
              rw [fwdN_end (by rw [HL.out]; omega)] at h1
              omega
            go_wp2_with fail
            go_meet
            exact ⟨rfl, rfl⟩
      case rest =>
        obtain ⟨rfl, rfl⟩ := hcut
        cases around
        · have hw : wordS s at_ false = some (wFrom s at_, wTo s at_) := by
            unfold wordS
            rw [if_neg HN.out]
            rfl
          rw [hw] at HF HT HO
          obtain rfl : F = F1 := HF.out.trans HF1.out.symm
          obtain rfl : T = T1 := HT.out.trans HT1.out.symm
          obtain rfl : ok = true := HO.out
          clear hw
          obtain ⟨⟨x0, x1⟩, z0, z1⟩ := HX0.out.c2
          go_wp2_with fail
          obtain ⟨⟨r0, r1⟩, _⟩ := ((HX0.out.set 0 (.int .i64 F)).set 1 (.int .i64 T)).c2
          exact bodyPost_ret (v := .tuple #[.agg #[.int .i64 F, .int .i64 T], .bool true]) (by simp [results, Try.results60, go_sem, r0, r1]) rfl
            ⟨rfl, (HB0.out.setCell (p := ⟨w.heap.size, 0, none⟩) (Nat.le_refl _) _).setCell (p := ⟨w.heap.size, 1, none⟩) (Nat.le_refl _) _⟩
        · obtain ⟨T2, hT2⟩ : ∃ T2, T2 = T1 + fwdN blankK (s.drop T1) := ⟨_, rfl⟩
          obtain ⟨F2, hF2⟩ : ∃ F2, F2 = F1 - backN blankK s F1 := ⟨_, rfl⟩
          have hb2 : T1 ≤ T2 ∧ T2 ≤ k ∧ F2 ≤ F1 := by
            have h1 := fwdN_le blankK (s.drop T1)
            rw [List.length_drop, HL.out] at h1
            omega
          have hw : wordS s at_ true = if T2 = T1 then some (F2, T1) else some (F1, T2) := by
            unfold wordS
            rw [if_neg HN.out, ← HF1.out, ← HT1.out, ← hT2, ← hF2]
            by_cases h : T2 = T1
            · rw [if_pos h]
              simp
              omega
            · rw [if_neg h]
              simp
              omega
          have HW := hide hw
          have HT2 := hide hT2
          have HF2 := hide hF2
          clear hw hT2 hF2
          go_upto_block 4 with fail
          go_cut [10] (fun f wx => f = .int .i64 T2 ∧ wx = wc)
          case first =>
            go_wp2_with fail
            go_loop [10] (fun f => ∃ a : Nat, T1 ≤ a ∧ a ≤ k ∧ f = .int .i64 a ∧ Hid (a + fwdN blankK (s.drop a) = T2)) (fun f => k - (intOf f).toNat)
            case atStart => exact ⟨T1, Nat.le_refl _, by omega, rfl, HT2.out.symm⟩
            case round =>
              obtain ⟨a, hlea, hak, rfl, hst⟩ := hrel
              by_cases hlt : a < k
              · obtain ⟨ab', ao', hE, hc⟩ := HSZ.out.at_ a hlt
                cases hE
                have h1 : (0 : Int) ≤ (a : Int) := by omega
                have h2 : (a : Int) < (k : Int) := by omega
                have HFW := hide (fwdN_drop (p := blankK) (l := s) (k := a) (by rw [HL.out]; exact hlt))
                by_cases hs : thirdS (nth s a) = 0
                · have e2 : (thirdS (nth s a) == 0) = true := by simpa using hs
                  have HP := hide (show blankK (nth s a) = true by rw [← ofT_blank]; unfold ofT; simpa using hs)
                  clear hs
                  go_wp2_with fail
                  refine (third_any _ _).mono ?_
                  rintro e w1 ⟨rfl, rfl⟩
                  go_wp2_with fail
                  go_round
                  case rel => exact ⟨a + 1, by omega, by omega, by go_num, by
                    have h1 := hst.out
                    rw [HFW.out, HP.out, if_pos rfl] at h1
                    show a + 1 + fwdN blankK (s.drop (a + 1)) = T2
                    omega⟩
                  case measure => simp [intOf]; omega
                · have e2 : (thirdS (nth s a) == 0) = false := by simpa using hs
                  have HP := hide (show blankK (nth s a) = false by rw [← ofT_blank]; unfold ofT; simpa using hs)
                  obtain rfl : T2 = a := by
                    have h1 := hst.out
                    rw [HFW.out, HP.out] at h1
                    simpa using h1.symm
                  clear hs
                  go_wp2_with fail
                  refine (third_any _ _).mono ?_
                  rintro e w1 ⟨rfl, rfl⟩
                  go_wp2_with fail
                  go_meet
                  exact ⟨rfl, rfl⟩
              · obtain rfl : T2 = a := by
                  have h1 := hst.out
                  rw [fwdN_end (by rw [HL.out]; omega)] at h1
                  omega
                go_wp2_with fail
                go_meet
                exact ⟨rfl, rfl⟩
          case rest =>
            obtain ⟨rfl, rfl⟩ := hcut
            rw [HW.out] at HF HT HO
            go_upto_block 6 with fail
            go_cut [9] (fun f wx => f = .int .i64 F ∧ wx = wc)
            case first =>
              by_cases htw : T2 = T1
              · rw [if_pos htw] at HF HT HO
                subst htw
                obtain rfl : F = F2 := HF.out
                go_wp2_with fail
                go_loop [9] (fun f => ∃ a : Nat, a ≤ F1 ∧ f = .int .i64 a ∧ Hid (a - backN blankK s a = F)) (fun f => (intOf f).toNat)
                case atStart => exact ⟨F1, Nat.le_refl _, rfl, HF2.out.symm⟩
                case round =>
                  obtain ⟨a, hlea, rfl, hst⟩ := hrel
                  rcases Nat.eq_zero_or_pos a with rfl | hpos
                  · obtain rfl : F = 0 := hst.out.symm
                    go_wp2_with fail
                    go_meet
                    exact ⟨rfl, rfl⟩
                  · obtain ⟨b, rfl⟩ : ∃ b, a = b + 1 := ⟨a - 1, by omega⟩
                    have e1 : (((b + 1 : Nat) : Int)) - 1 = (b : Int) := by omega
                    obtain ⟨ab', ao', hE, hc⟩ := HSZ.out.at_ b (by omega)
                    cases hE
                    have HBN := hide (show backN blankK s (b + 1) = if ofT 0 (nth s b) then backN blankK s b + 1 else 0 by rw [ofT_blank]; rfl)
                    by_cases hs : thirdS (nth s b) = 0
                    · have e2 : (thirdS (nth s b) == 0) = true := by simpa using hs
                      have HP := hide (show ofT 0 (nth s b) = true by unfold ofT; simpa using hs)
                      clear hs
                      go_wp2_with fail
                      refine (third_any _ _).mono ?_
                      rintro e w1 ⟨rfl, rfl⟩
                      go_wp2_with fail
                      go_round
                      case rel => exact ⟨b, by omega, by go_num, by
                        have h1 := hst.out
                        rw [HBN.out, HP.out, if_pos rfl] at h1
                        show b - backN blankK s b = F
                        omega⟩
                      case measure => simp [intOf]
                    · have e2 : (thirdS (nth s b) == 0) = false := by simpa using hs
                      have HP := hide (show ofT 0 (nth s b) = false by unfold ofT; simpa using hs)
                      obtain rfl : F = b + 1 := by
                        have h1 := hst.out
                        rw [HBN.out, HP.out] at h1
                        simpa using h1.symm
                      clear hs
                      go_wp2_with fail
                      refine (third_any _ _).mono ?_
                      rintro e w1 ⟨rfl, rfl⟩
                      go_wp2_with fail
                      go_meet
                      exact ⟨rfl, rfl⟩
              · rw [if_neg htw] at HF HT HO
                obtain rfl : F = F1 := HF.out
                have e1 : ((T2 : Int) == (T1 : Int)) = false := by simp; omega
                go_wp2_with fail
                go_loop [9] (fun f => f = .int .i64 F) (fun f => 0)
                case atStart => rfl
                case round =>
                  obtain rfl := hrel
                  go_wp2_with fail
                  go_meet
                  exact ⟨rfl, rfl⟩
            case rest =>
              obtain ⟨rfl, rfl⟩ := hcut
              have hok : ok = true := by
                have := HO.out
                revert this
                split <;> exact id
              have hTT : T = T2 := by
                have := HT.out
                revert this
                split
                · rename_i h
                  intro h1
                  exact h1.trans h.symm
                · exact id
              subst hok hTT
              obtain ⟨⟨x0, x1⟩, z0, z1⟩ := HX0.out.c2
              go_wp2_with fail
              obtain ⟨⟨r0, r1⟩, _⟩ := ((HX0.out.set 0 (.int .i64 F)).set 1 (.int .i64 T)).c2
              exact bodyPost_ret (v := .tuple #[.agg #[.int .i64 F, .int .i64 T], .bool true]) (by simp [results, Try.results60, go_sem, r0, r1]) rfl
                ⟨rfl, (HB0.out.setCell (p := ⟨w.heap.size, 0, none⟩) (Nat.le_refl _) _).setCell (p := ⟨w.heap.size, 1, none⟩) (Nat.le_refl _) _⟩
end Go.Proofs.Ytkfihnkghiajiaa
