/- Texts that a tape makes: standishkeep's Body, of any depth. -/
import Derived.Test.YtkoieceifplphaaTapeB
namespace Go.Proofs.Ytkoieceifplphaa
open Go.RowKit
set_option linter.unusedVariables false
set_option maxRecDepth 100000 in
set_option maxHeartbeats 4000000 in
theorem tbody1 (g : Nat) (Z : Option Addr) (m c : Nat) (z : List Int) (w : World) (d : Nat) (hd : d ≤ 1) (hrec : ∀ W, Tap W g Z m c z → Calls Try.prog 63 #[.pointer (some ⟨g, 0, none⟩), .int .i64 (d : Int)] W (TextR (bodB d) g Z m c z W)) (h : Tap w g Z m c z) (hm : m ≤ 35184372088832) : Calls Try.prog 63 #[.pointer (some ⟨g, 0, none⟩), .int .i64 ((d + 1 : Nat) : Int)] w (TextR (4 * (3000 + bodB d)) g Z m c z w) := by
  have HT := hide h
  have HREC := hide hrec
  have hpb := bodB_le d (by omega)
  clear hrec
  generalize bodB d = D at HREC hpb ⊢
  obtain ⟨R, hR⟩ : ∃ R, 3000 + D = R := ⟨_, rfl⟩
  rw [hR]
  clear h
  go_enter Try.func63, Try.ntmps63
  go_wp2_with fail
  refine (next_any 4 g Z m c z w HT.out (by omega) (by omega) hm).mono ?_
  rintro e w0 ⟨r, rfl, hr, ht, hg, -⟩
  have HO0 := hide ((Out.start HT.out).next ht hg)
  clear ht hg
  go_wp2_with fail
  go_loopw [5, 6] (fun o i wr => ∃ (A : Option Addr) (k cap j : Nat), o = .slice A k cap ∧ i = .int .i64 j ∧ k + j * R ≤ 4 * R ∧ j ≤ 4 ∧ Hid (Out g Z m c z w wr A k cap)) (fun _ i _ => (intOf i).toNat)
  case atStart => exact ⟨none, 0, 0, r + 1, rfl, by first | rfl | go_num, by have := Nat.mul_le_mul_right R (show r + 1 ≤ 4 by omega); omega, by omega, HO0.out⟩
  case round =>
    obtain ⟨A, k, cap, j, rfl, rfl, hkj, hj3, HO⟩ := hrel
    rcases Nat.eq_zero_or_pos j with rfl | hpos
    · go_wp2_with fail
      go_ret
      exact ⟨A, k, cap, rfl, by omega, HO.out⟩
    · obtain ⟨b, rfl⟩ : ∃ b, j = b + 1 := ⟨j - 1, by omega⟩
      have e1 : (((b + 1 : Nat) : Int)) - 1 = (b : Int) := by omega
      have hkj2 : k + R + b * R ≤ 4 * R := by rw [Nat.add_mul] at hkj; omega
      clear hkj
      go_wp2_with fail
      refine (next_any 12 g Z m c z _ HO.out.tap (by omega) (by omega) hm).mono ?_
      rintro e wk ⟨x, rfl, hx, ht, hg, -⟩
      have HK := hide (HO.out.next ht hg)
      clear ht hg
      have hx12 : x = 0 ∨ x = 1 ∨ x = 2 ∨ x = 3 ∨ x = 4 ∨ x = 5 ∨ x = 6 ∨ x = 7 ∨ x = 8 ∨ x = 9 ∨ x = 10 ∨ x = 11 := by omega
      clear hx
      rcases hx12 with rfl | rfl | rfl | rfl | rfl | rfl | rfl | rfl | rfl | rfl | rfl | rfl
      · rw [show (((0 : Nat)) : Int) = 0 from rfl]
        go_wp2_with fail
        refine (one_lit g Z m c z _ _ _ (by rfl) (by decide +kernel) (by omega) _ (HK.out.alloc _).tap hm).mono ?_
        rintro e w1 ⟨X1, k1, x1, rfl, hk1, ho1⟩
        have H1 := hide ((HK.out.alloc _).call ho1)
        have T1 := hide ho1.rd
        clear ho1
        go_wp2_with (first
          | (at_builtin; refine wpList_out rfl (.tmp 38) (.tmp 41) rfl rfl H1.out rfl T1.out.snd T1.out.may (by omega) ?_; intro P2 q2 v2 o2))
        have H2 := hide o2
        clear o2
        go_roundw
        case rel => exact ⟨_, _, _, b, rfl, rfl, by omega, by omega, H2.out⟩
        case measure => simp [intOf]
      · rw [show (((1 : Nat)) : Int) = 1 from rfl]
        go_wp2_with fail
        refine (one_lit g Z m c z _ _ _ (by rfl) (by decide +kernel) (by omega) _ (HK.out.alloc _).tap hm).mono ?_
        rintro e w1 ⟨X1, k1, x1, rfl, hk1, ho1⟩
        have H1 := hide ((HK.out.alloc _).call ho1)
        have T1 := hide ho1.rd
        clear ho1
        go_wp2_with (first
          | (at_builtin; refine wpList_out rfl (.tmp 38) (.tmp 41) rfl rfl H1.out rfl T1.out.snd T1.out.may (by omega) ?_; intro P2 q2 v2 o2))
        have H2 := hide o2
        clear o2
        go_roundw
        case rel => exact ⟨_, _, _, b, rfl, rfl, by omega, by omega, H2.out⟩
        case measure => simp [intOf]
      · rw [show (((2 : Nat)) : Int) = 2 from rfl]
        go_wp2_with (first
          | (at_builtin; refine wpList_out rfl (.tmp 45) (.tmp 46) rfl rfl (HK.out.alloc _) rfl (Runes.news _ _ _ [36] rfl (w32_of (by decide))) (by decide) (by simp; omega) ?_; intro P1 q1 v1 o1))
        have H1 := hide o1
        clear o1
        refine (tnum_any g Z m c z _ H1.out.tap hm).mono ?_
        rintro e w2 ⟨X2, k2, x2, rfl, hk2, ho2⟩
        have H2 := hide (H1.out.call ho2)
        have T2 := hide ho2.rd
        clear ho2
        go_wp2_with (first
          | (at_builtin; refine wpList_out rfl (.tmp 47) (.tmp 49) rfl rfl H2.out rfl T2.out.snd T2.out.may (by omega) ?_; intro P3 q3 v3 o3))
        have H3 := hide o3
        clear o3
        go_roundw
        case rel => exact ⟨_, _, _, b, rfl, rfl, by omega, by omega, H3.out⟩
        case measure => simp [intOf]
      · rw [show (((3 : Nat)) : Int) = 3 from rfl]
        go_wp2_with (first
          | (at_builtin; refine wpList_out rfl (.tmp 53) (.tmp 54) rfl rfl (HK.out.alloc _) rfl (Runes.news _ _ _ [36, 123] rfl (w32_of (by decide))) (by decide) (by simp; omega) ?_; intro P1 q1 v1 o1))
        have H1 := hide o1
        clear o1
        refine (tnum_any g Z m c z _ H1.out.tap hm).mono ?_
        rintro e w2 ⟨X2, k2, x2, rfl, hk2, ho2⟩
        have H2 := hide (H1.out.call ho2)
        have T2 := hide ho2.rd
        clear ho2
        go_wp2_with (first
          | (at_builtin; refine wpList_out rfl (.tmp 55) (.tmp 57) rfl rfl H2.out rfl T2.out.snd T2.out.may (by omega) ?_; intro P3 q3 v3 o3)
          | (at_builtin; refine wpList_out rfl (.tmp 58) (.tmp 59) rfl rfl (o3.alloc _) rfl (Runes.news _ _ _ [125] rfl (w32_of (by decide))) (by decide) (by simp; omega) ?_; intro P4 q4 v4 o4))
        have H4 := hide o4
        clear o3 o4
        go_roundw
        case rel => exact ⟨_, _, _, b, rfl, rfl, by omega, by omega, H4.out⟩
        case measure => simp [intOf]
      · rw [show (((4 : Nat)) : Int) = 4 from rfl]
        have fd : (0 : Int) < ((d + 1 : Nat) : Int) := by omega
        go_wp2_with (first
          | (at_builtin; refine wpList_out rfl (.tmp 65) (.tmp 66) rfl rfl (HK.out.alloc _) rfl (Runes.news _ _ _ [36, 123] rfl (w32_of (by decide))) (by decide) (by simp; omega) ?_; intro P1 q1 v1 o1))
        have H1 := hide o1
        clear o1
        refine (tnum_any g Z m c z _ H1.out.tap hm).mono ?_
        rintro e w2 ⟨X2, k2, x2, rfl, hk2, ho2⟩
        have H2 := hide (H1.out.call ho2)
        have T2 := hide ho2.rd
        clear ho2
        go_wp2_with (first
          | (at_builtin; refine wpList_out rfl (.tmp 67) (.tmp 69) rfl rfl H2.out rfl T2.out.snd T2.out.may (by omega) ?_; intro P3 q3 v3 o3)
          | (at_builtin; refine wpList_out rfl (.tmp 70) (.tmp 71) rfl rfl (o3.alloc _) rfl (Runes.news _ _ _ [58] rfl (w32_of (by decide))) (by decide) (by simp; omega) ?_; intro P4 q4 v4 o4))
        have H4 := hide o4
        clear o3 o4
        refine (HREC.out _ H4.out.tap).mono ?_
        rintro e w5 ⟨X5, k5, x5, rfl, hk5, ho5⟩
        have H5 := hide (H4.out.call ho5)
        have T5 := hide ho5.rd
        clear ho5
        go_wp2_with (first
          | (at_builtin; refine wpList_out rfl (.tmp 75) (.tmp 79) rfl rfl H5.out rfl T5.out.snd T5.out.may (by omega) ?_; intro P6 q6 v6 o6))
        have H6 := hide o6
        clear o6
        refine (one_lit g Z m c z _ _ _ (by rfl) (by decide +kernel) (by omega) _ (H6.out.alloc _).tap hm).mono ?_
        rintro e w7 ⟨X7, k7, x7, rfl, hk7, ho7⟩
        have H7 := hide ((H6.out.alloc _).call ho7)
        have T7 := hide ho7.rd
        clear ho7
        go_wp2_with (first
          | (at_builtin; refine wpList_out rfl (.tmp 81) (.tmp 84) rfl rfl H7.out rfl T7.out.snd T7.out.may (by omega) ?_; intro P8 q8 v8 o8))
        have H8 := hide o8
        clear o8
        go_roundw
        case rel => exact ⟨_, _, _, b, rfl, rfl, by omega, by omega, H8.out⟩
        case measure => simp [intOf]
      · rw [show (((5 : Nat)) : Int) = 5 from rfl]
        have fd : (0 : Int) < ((d + 1 : Nat) : Int) := by omega
        go_wp2_with (first
          | (at_builtin; refine wpList_out rfl (.tmp 65) (.tmp 66) rfl rfl (HK.out.alloc _) rfl (Runes.news _ _ _ [36, 123] rfl (w32_of (by decide))) (by decide) (by simp; omega) ?_; intro P1 q1 v1 o1))
        have H1 := hide o1
        clear o1
        refine (tnum_any g Z m c z _ H1.out.tap hm).mono ?_
        rintro e w2 ⟨X2, k2, x2, rfl, hk2, ho2⟩
        have H2 := hide (H1.out.call ho2)
        have T2 := hide ho2.rd
        clear ho2
        go_wp2_with (first
          | (at_builtin; refine wpList_out rfl (.tmp 67) (.tmp 69) rfl rfl H2.out rfl T2.out.snd T2.out.may (by omega) ?_; intro P3 q3 v3 o3)
          | (at_builtin; refine wpList_out rfl (.tmp 70) (.tmp 71) rfl rfl (o3.alloc _) rfl (Runes.news _ _ _ [58] rfl (w32_of (by decide))) (by decide) (by simp; omega) ?_; intro P4 q4 v4 o4))
        have H4 := hide o4
        clear o3 o4
        refine (HREC.out _ H4.out.tap).mono ?_
        rintro e w5 ⟨X5, k5, x5, rfl, hk5, ho5⟩
        have H5 := hide (H4.out.call ho5)
        have T5 := hide ho5.rd
        clear ho5
        go_wp2_with (first
          | (at_builtin; refine wpList_out rfl (.tmp 75) (.tmp 79) rfl rfl H5.out rfl T5.out.snd T5.out.may (by omega) ?_; intro P6 q6 v6 o6))
        have H6 := hide o6
        clear o6
        refine (one_lit g Z m c z _ _ _ (by rfl) (by decide +kernel) (by omega) _ (H6.out.alloc _).tap hm).mono ?_
        rintro e w7 ⟨X7, k7, x7, rfl, hk7, ho7⟩
        have H7 := hide ((H6.out.alloc _).call ho7)
        have T7 := hide ho7.rd
        clear ho7
        go_wp2_with (first
          | (at_builtin; refine wpList_out rfl (.tmp 81) (.tmp 84) rfl rfl H7.out rfl T7.out.snd T7.out.may (by omega) ?_; intro P8 q8 v8 o8))
        have H8 := hide o8
        clear o8
        go_roundw
        case rel => exact ⟨_, _, _, b, rfl, rfl, by omega, by omega, H8.out⟩
        case measure => simp [intOf]
      · rw [show (((6 : Nat)) : Int) = 6 from rfl]
        have fd : (0 : Int) < ((d + 1 : Nat) : Int) := by omega
        go_wp2_with (first
          | (at_builtin; refine wpList_out rfl (.tmp 65) (.tmp 66) rfl rfl (HK.out.alloc _) rfl (Runes.news _ _ _ [36, 123] rfl (w32_of (by decide))) (by decide) (by simp; omega) ?_; intro P1 q1 v1 o1))
        have H1 := hide o1
        clear o1
        refine (tnum_any g Z m c z _ H1.out.tap hm).mono ?_
        rintro e w2 ⟨X2, k2, x2, rfl, hk2, ho2⟩
        have H2 := hide (H1.out.call ho2)
        have T2 := hide ho2.rd
        clear ho2
        go_wp2_with (first
          | (at_builtin; refine wpList_out rfl (.tmp 67) (.tmp 69) rfl rfl H2.out rfl T2.out.snd T2.out.may (by omega) ?_; intro P3 q3 v3 o3)
          | (at_builtin; refine wpList_out rfl (.tmp 70) (.tmp 71) rfl rfl (o3.alloc _) rfl (Runes.news _ _ _ [58] rfl (w32_of (by decide))) (by decide) (by simp; omega) ?_; intro P4 q4 v4 o4))
        have H4 := hide o4
        clear o3 o4
        refine (HREC.out _ H4.out.tap).mono ?_
        rintro e w5 ⟨X5, k5, x5, rfl, hk5, ho5⟩
        have H5 := hide (H4.out.call ho5)
        have T5 := hide ho5.rd
        clear ho5
        go_wp2_with (first
          | (at_builtin; refine wpList_out rfl (.tmp 75) (.tmp 79) rfl rfl H5.out rfl T5.out.snd T5.out.may (by omega) ?_; intro P6 q6 v6 o6))
        have H6 := hide o6
        clear o6
        refine (one_lit g Z m c z _ _ _ (by rfl) (by decide +kernel) (by omega) _ (H6.out.alloc _).tap hm).mono ?_
        rintro e w7 ⟨X7, k7, x7, rfl, hk7, ho7⟩
        have H7 := hide ((H6.out.alloc _).call ho7)
        have T7 := hide ho7.rd
        clear ho7
        go_wp2_with (first
          | (at_builtin; refine wpList_out rfl (.tmp 81) (.tmp 84) rfl rfl H7.out rfl T7.out.snd T7.out.may (by omega) ?_; intro P8 q8 v8 o8))
        have H8 := hide o8
        clear o8
        go_roundw
        case rel => exact ⟨_, _, _, b, rfl, rfl, by omega, by omega, H8.out⟩
        case measure => simp [intOf]
      · rw [show (((7 : Nat)) : Int) = 7 from rfl]
        go_wp2_with (first
          | (at_builtin; refine wpList_out rfl (.tmp 88) (.tmp 89) rfl rfl (HK.out.alloc _) rfl (Runes.news _ _ _ [36, 123] rfl (w32_of (by decide))) (by decide) (by simp; omega) ?_; intro P1 q1 v1 o1))
        have H1 := hide o1
        clear o1
        refine (tnum_any g Z m c z _ H1.out.tap hm).mono ?_
        rintro e w2 ⟨X2, k2, x2, rfl, hk2, ho2⟩
        have H2 := hide (H1.out.call ho2)
        have T2 := hide ho2.rd
        clear ho2
        go_wp2_with (first
          | (at_builtin; refine wpList_out rfl (.tmp 90) (.tmp 92) rfl rfl H2.out rfl T2.out.snd T2.out.may (by omega) ?_; intro P3 q3 v3 o3))
        have H3 := hide o3
        clear o3
        refine (one_lit g Z m c z _ _ _ (by rfl) (by decide +kernel) (by omega) _ (H3.out.alloc _).tap hm).mono ?_
        rintro e w4 ⟨X4, k4, x4, rfl, hk4, ho4⟩
        have H4 := hide ((H3.out.alloc _).call ho4)
        have T4 := hide ho4.rd
        clear ho4
        go_wp2_with (first
          | (at_builtin; refine wpList_out rfl (.tmp 93) (.tmp 96) rfl rfl H4.out rfl T4.out.snd T4.out.may (by omega) ?_; intro P5 q5 v5 o5))
        have H5 := hide o5
        clear o5
        go_roundw
        case rel => exact ⟨_, _, _, b, rfl, rfl, by omega, by omega, H5.out⟩
        case measure => simp [intOf]
      · rw [show (((8 : Nat)) : Int) = 8 from rfl]
        go_wp2_with (first
          | (at_builtin; refine wpList_out rfl (.tmp 100) (.tmp 101) rfl rfl (HK.out.alloc _) rfl (Runes.news _ _ _ [36, 123] rfl (w32_of (by decide))) (by decide) (by simp; omega) ?_; intro P1 q1 v1 o1))
        have H1 := hide o1
        clear o1
        refine (tnum_any g Z m c z _ H1.out.tap hm).mono ?_
        rintro e w2 ⟨X2, k2, x2, rfl, hk2, ho2⟩
        have H2 := hide (H1.out.call ho2)
        have T2 := hide ho2.rd
        clear ho2
        go_wp2_with (first
          | (at_builtin; refine wpList_out rfl (.tmp 102) (.tmp 104) rfl rfl H2.out rfl T2.out.snd T2.out.may (by omega) ?_; intro P3 q3 v3 o3))
        have H3 := hide o3
        clear o3
        refine (tformed_any g Z m c z _ H3.out.tap hm).mono ?_
        rintro e w4 ⟨X4, k4, x4, rfl, hk4, ho4⟩
        have H4 := hide (H3.out.call ho4)
        have T4 := hide ho4.rd
        clear ho4
        go_wp2_with (first
          | (at_builtin; refine wpList_out rfl (.tmp 105) (.tmp 107) rfl rfl H4.out rfl T4.out.snd T4.out.may (by omega) ?_; intro P5 q5 v5 o5)
          | (at_builtin; refine wpList_out rfl (.tmp 108) (.tmp 109) rfl rfl (o5.alloc _) rfl (Runes.news _ _ _ [125] rfl (w32_of (by decide))) (by decide) (by simp; omega) ?_; intro P6 q6 v6 o6))
        have H6 := hide o6
        clear o5 o6
        go_roundw
        case rel => exact ⟨_, _, _, b, rfl, rfl, by omega, by omega, H6.out⟩
        case measure => simp [intOf]
      · rw [show (((9 : Nat)) : Int) = 9 from rfl]
        go_wp2_with (first
          | (at_builtin; refine wpList_out rfl (.tmp 113) (.tmp 114) rfl rfl (HK.out.alloc _) rfl (Runes.news _ _ _ [36] rfl (w32_of (by decide))) (by decide) (by simp; omega) ?_; intro P1 q1 v1 o1))
        have H1 := hide o1
        clear o1
        refine (tname_any g Z m c z _ H1.out.tap hm).mono ?_
        rintro e w2 ⟨X2, k2, x2, rfl, hk2, ho2⟩
        have H2 := hide (H1.out.call ho2)
        have T2 := hide ho2.rd
        clear ho2
        go_wp2_with (first
          | (at_builtin; refine wpList_out rfl (.tmp 115) (.tmp 117) rfl rfl H2.out rfl T2.out.snd T2.out.may (by omega) ?_; intro P3 q3 v3 o3))
        have H3 := hide o3
        clear o3
        go_roundw
        case rel => exact ⟨_, _, _, b, rfl, rfl, by omega, by omega, H3.out⟩
        case measure => simp [intOf]
      · rw [show (((10 : Nat)) : Int) = 10 from rfl]
        have fd : (0 : Int) < ((d + 1 : Nat) : Int) := by omega
        go_wp2_with (first
          | (at_builtin; refine wpList_out rfl (.tmp 121) (.tmp 122) rfl rfl (HK.out.alloc _) rfl (Runes.news _ _ _ [36, 123] rfl (w32_of (by decide))) (by decide) (by simp; omega) ?_; intro P1 q1 v1 o1))
        have H1 := hide o1
        clear o1
        refine (tname_any g Z m c z _ H1.out.tap hm).mono ?_
        rintro e w2 ⟨X2, k2, x2, rfl, hk2, ho2⟩
        have H2 := hide (H1.out.call ho2)
        have T2 := hide ho2.rd
        clear ho2
        go_wp2_with (first
          | (at_builtin; refine wpList_out rfl (.tmp 123) (.tmp 125) rfl rfl H2.out rfl T2.out.snd T2.out.may (by omega) ?_; intro P3 q3 v3 o3)
          | (at_builtin; refine wpList_out rfl (.tmp 126) (.tmp 127) rfl rfl (o3.alloc _) rfl (Runes.news _ _ _ [58] rfl (w32_of (by decide))) (by decide) (by simp; omega) ?_; intro P4 q4 v4 o4))
        have H4 := hide o4
        clear o3 o4
        refine (HREC.out _ H4.out.tap).mono ?_
        rintro e w5 ⟨X5, k5, x5, rfl, hk5, ho5⟩
        have H5 := hide (H4.out.call ho5)
        have T5 := hide ho5.rd
        clear ho5
        go_wp2_with (first
          | (at_builtin; refine wpList_out rfl (.tmp 131) (.tmp 135) rfl rfl H5.out rfl T5.out.snd T5.out.may (by omega) ?_; intro P6 q6 v6 o6)
          | (at_builtin; refine wpList_out rfl (.tmp 137) (.tmp 138) rfl rfl (o6.alloc _) rfl (Runes.news _ _ _ [125] rfl (w32_of (by decide))) (by decide) (by simp; omega) ?_; intro P7 q7 v7 o7))
        have H7 := hide o7
        clear o6 o7
        go_roundw
        case rel => exact ⟨_, _, _, b, rfl, rfl, by omega, by omega, H7.out⟩
        case measure => simp [intOf]
      · rw [show (((11 : Nat)) : Int) = 11 from rfl]
        go_wp2_with fail
        refine (next_any 2 g Z m c z _ HK.out.tap (by omega) (by omega) hm).mono ?_
        rintro e w1 ⟨q, rfl, hq, ht1, hg1, -⟩
        have H1 := hide (HK.out.next ht1 hg1)
        clear ht1 hg1
        by_cases hq : q = 0
        · have dq : ((q : Int) == 0) = true := by simp; omega
          clear hq
          go_wp2_with (first
            | (at_builtin; refine wpList_out rfl (.tmp 19) (.tmp 20) rfl rfl (H1.out.alloc _) rfl (Runes.news _ _ _ [36, 123] rfl (w32_of (by decide))) (by decide) (by simp; omega) ?_; intro P2 q2 v2 o2))
          have H2 := hide o2
          clear o2
          refine (tname_any g Z m c z _ H2.out.tap hm).mono ?_
          rintro e w3 ⟨X3, k3, x3, rfl, hk3, ho3⟩
          have H3 := hide (H2.out.call ho3)
          have T3 := hide ho3.rd
          clear ho3
          go_wp2_with (first
            | (at_builtin; refine wpList_out rfl (.tmp 21) (.tmp 23) rfl rfl H3.out rfl T3.out.snd T3.out.may (by omega) ?_; intro P4 q4 v4 o4))
          have H4 := hide o4
          clear o4
          refine (tformed_any g Z m c z _ H4.out.tap hm).mono ?_
          rintro e w5 ⟨X5, k5, x5, rfl, hk5, ho5⟩
          have H5 := hide (H4.out.call ho5)
          have T5 := hide ho5.rd
          clear ho5
          go_wp2_with (first
            | (at_builtin; refine wpList_out rfl (.tmp 24) (.tmp 26) rfl rfl H5.out rfl T5.out.snd T5.out.may (by omega) ?_; intro P6 q6 v6 o6)
            | (at_builtin; refine wpList_out rfl (.tmp 27) (.tmp 28) rfl rfl (o6.alloc _) rfl (Runes.news _ _ _ [125] rfl (w32_of (by decide))) (by decide) (by simp; omega) ?_; intro P7 q7 v7 o7))
          have H7 := hide o7
          clear o6 o7
          go_roundw
          case rel => exact ⟨_, _, _, b, rfl, rfl, by omega, by omega, H7.out⟩
          case measure => simp [intOf]
        · have dq : ((q : Int) == 0) = false := by simp; omega
          clear hq
          go_wp2_with fail
          refine (one_lit g Z m c z _ _ _ (by rfl) (by decide +kernel) (by omega) _ (H1.out.alloc _).tap hm).mono ?_
          rintro e w2 ⟨X2, k2, x2, rfl, hk2, ho2⟩
          have H2 := hide ((H1.out.alloc _).call ho2)
          have T2 := hide ho2.rd
          clear ho2
          go_wp2_with (first
            | (at_builtin; refine wpList_out rfl (.tmp 30) (.tmp 33) rfl rfl H2.out rfl T2.out.snd T2.out.may (by omega) ?_; intro P3 q3 v3 o3))
          have H3 := hide o3
          clear o3
          go_roundw
          case rel => exact ⟨_, _, _, b, rfl, rfl, by omega, by omega, H3.out⟩
          case measure => simp [intOf]
theorem tbody_any (g : Nat) (Z : Option Addr) (m c : Nat) (z : List Int) : ∀ (d : Nat), d ≤ 2 → ∀ (w : World) (h : Tap w g Z m c z) (hm : m ≤ 35184372088832), Calls Try.prog 63 #[.pointer (some ⟨g, 0, none⟩), .int .i64 (d : Int)] w (TextR (bodB d) g Z m c z w)
  | 0, _, w, h, hm => tbody0 g Z m c z w h hm
  | d + 1, hd, w, h, hm => tbody1 g Z m c z w d (by omega) (fun W hW => tbody_any g Z m c z d (by omega) W hW hm) h hm
end Go.Proofs.Ytkoieceifplphaa
