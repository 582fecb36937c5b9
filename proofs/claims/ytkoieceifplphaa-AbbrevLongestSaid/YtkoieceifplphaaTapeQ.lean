/- Texts that a tape makes: standishkeep's Pattern, formed. -/
import Derived.Test.YtkoieceifplphaaTapeP
namespace Go.Proofs.Ytkoieceifplphaa
open Go.RowKit
set_option linter.unusedVariables false

/-- How long a pattern is at most. -/
def patB : Nat → Nat
  | 0 => 3 * 122
  | d + 1 => 3 * (2 * patB d + 122)
theorem patB_le : ∀ d, d ≤ 2 → patB d ≤ 20000 := fun d h => by
  have : d = 0 ∨ d = 1 ∨ d = 2 := by omega
  rcases this with rfl | rfl | rfl <;> decide

set_option maxRecDepth 100000 in
set_option maxHeartbeats 4000000 in
theorem tpat0 (g : Nat) (Z : Option Addr) (m c : Nat) (z : List Int) (w : World) (h : Tap w g Z m c z) (hm : m ≤ 35184372088832) : Calls Try.prog 79 #[.pointer (some ⟨g, 0, none⟩), .int .i64 ((0 : Nat) : Int)] w (TextR 366 g Z m c z w) := by
  have HT := hide h
  clear h
  go_enter Try.func79, Try.ntmps79
  go_wp2_with fail
  refine (next_any 3 g Z m c z w HT.out (by omega) (by omega) hm).mono ?_
  rintro e w0 ⟨r, rfl, hr, ht, hg, -⟩
  have HO0 := hide ((Out.start HT.out).next ht hg)
  have er : (1 : Int) + (r : Int) = ((r + 1 : Nat) : Int) := by omega
  clear ht hg
  go_wp2_with fail
  clear er
  go_loopw [5, 6] (fun o i wr => ∃ (A : Option Addr) (k cap j : Nat), o = .slice A k cap ∧ i = .int .i64 j ∧ k + j * 122 ≤ 3 * 122 ∧ j ≤ 3 ∧ Hid (Out g Z m c z w wr A k cap)) (fun _ i _ => (intOf i).toNat)
  case atStart => exact ⟨none, 0, 0, r + 1, rfl, by first | rfl | go_num, by omega, by omega, HO0.out⟩
  case round =>
    obtain ⟨A, k, cap, j, rfl, rfl, hkj, hj3, HO⟩ := hrel
    rcases Nat.eq_zero_or_pos j with rfl | hpos
    · go_wp2_with fail
      go_ret
      exact ⟨A, k, cap, rfl, by omega, HO.out⟩
    · obtain ⟨b, rfl⟩ : ∃ b, j = b + 1 := ⟨j - 1, by omega⟩
      have e1 : (((b + 1 : Nat) : Int)) - 1 = (b : Int) := by omega
      have hkj2 : k + 122 + b * 122 ≤ 3 * 122 := by rw [Nat.add_mul] at hkj; omega
      clear hkj
      go_wp2_with fail
      refine (next_any 10 g Z m c z _ HO.out.tap (by omega) (by omega) hm).mono ?_
      rintro e wk ⟨x, rfl, hx, ht, hg, -⟩
      have HK := hide (HO.out.next ht hg)
      clear ht hg
      by_cases h0 : x < 3
      · have f3 : (x : Int) < 3 := by omega
        go_wp2_with fail
        refine (one_lit g Z m c z _ _ _ (by rfl) (by decide +kernel) (by omega) _ (HK.out.alloc _).tap hm).mono ?_
        rintro e w1 ⟨X1, k1, x1, rfl, hk1, ho1⟩
        have H1 := hide ((HK.out.alloc _).call ho1)
        have T1 := hide ho1.rd
        clear ho1
        go_wp2_with (first
          | (at_builtin; refine wpList_out rfl (.tmp 25) (.tmp 28) rfl rfl H1.out rfl T1.out.snd T1.out.may (by omega) ?_; intro P2 q2 v2 o2))
        have H2 := hide o2
        clear o2
        refine (one_lit g Z m c z _ _ _ (by rfl) (by decide +kernel) (by omega) _ (H2.out.alloc _).tap hm).mono ?_
        rintro e w3 ⟨X3, k3, x3, rfl, hk3, ho3⟩
        have H3 := hide ((H2.out.alloc _).call ho3)
        have T3 := hide ho3.rd
        clear ho3
        go_wp2_with (first
          | (at_builtin; refine wpList_out rfl (.tmp 78) (.tmp 81) rfl rfl H3.out rfl T3.out.snd T3.out.may (by omega) ?_; intro P4 q4 v4 o4))
        have H4 := hide o4
        clear o4
        go_roundw
        case rel => exact ⟨_, _, _, b, rfl, rfl, by omega, by omega, H4.out⟩
        case measure => simp [intOf]
      by_cases h1 : x < 5
      · have f3 : ¬ ((x : Int) < 3) := by omega
        have f5 : (x : Int) < 5 := by omega
        go_wp2_with fail
        refine (one_lit g Z m c z _ _ _ (by rfl) (by decide +kernel) (by omega) _ (HK.out.alloc _).tap hm).mono ?_
        rintro e w1 ⟨X1, k1, x1, rfl, hk1, ho1⟩
        have H1 := hide ((HK.out.alloc _).call ho1)
        have T1 := hide ho1.rd
        clear ho1
        go_wp2_with (first
          | (at_builtin; refine wpList_out rfl (.tmp 33) (.tmp 36) rfl rfl H1.out rfl T1.out.snd T1.out.may (by omega) ?_; intro P2 q2 v2 o2))
        have H2 := hide o2
        clear o2
        refine (one_lit g Z m c z _ _ _ (by rfl) (by decide +kernel) (by omega) _ (H2.out.alloc _).tap hm).mono ?_
        rintro e w3 ⟨X3, k3, x3, rfl, hk3, ho3⟩
        have H3 := hide ((H2.out.alloc _).call ho3)
        have T3 := hide ho3.rd
        clear ho3
        go_wp2_with (first
          | (at_builtin; refine wpList_out rfl (.tmp 78) (.tmp 81) rfl rfl H3.out rfl T3.out.snd T3.out.may (by omega) ?_; intro P4 q4 v4 o4))
        have H4 := hide o4
        clear o4
        go_roundw
        case rel => exact ⟨_, _, _, b, rfl, rfl, by omega, by omega, H4.out⟩
        case measure => simp [intOf]
      by_cases h2 : x < 7
      · have f3 : ¬ ((x : Int) < 3) := by omega
        have f5 : ¬ ((x : Int) < 5) := by omega
        have f7 : (x : Int) < 7 := by omega
        have fd : ¬ ((0 : Int) < ((0 : Nat) : Int)) := by omega
        have f8 : (x : Int) < 8 := by omega
        go_wp2_with fail
        refine (one_lit g Z m c z _ _ _ (by rfl) (by decide +kernel) (by omega) _ (HK.out.alloc _).tap hm).mono ?_
        rintro e w1 ⟨X1, k1, x1, rfl, hk1, ho1⟩
        have H1 := hide ((HK.out.alloc _).call ho1)
        have T1 := hide ho1.rd
        clear ho1
        go_wp2_with (first
          | (at_builtin; refine wpList_out rfl (.tmp 73) (.tmp 76) rfl rfl H1.out rfl T1.out.snd T1.out.may (by omega) ?_; intro P2 q2 v2 o2))
        have H2 := hide o2
        clear o2
        go_roundw
        case rel => exact ⟨_, _, _, b, rfl, rfl, by omega, by omega, H2.out⟩
        case measure => simp [intOf]
      by_cases h3 : x < 8
      · have f3 : ¬ ((x : Int) < 3) := by omega
        have f5 : ¬ ((x : Int) < 5) := by omega
        have f7 : ¬ ((x : Int) < 7) := by omega
        have f8 : (x : Int) < 8 := by omega
        go_wp2_with fail
        refine (one_lit g Z m c z _ _ _ (by rfl) (by decide +kernel) (by omega) _ (HK.out.alloc _).tap hm).mono ?_
        rintro e w1 ⟨X1, k1, x1, rfl, hk1, ho1⟩
        have H1 := hide ((HK.out.alloc _).call ho1)
        have T1 := hide ho1.rd
        clear ho1
        go_wp2_with (first
          | (at_builtin; refine wpList_out rfl (.tmp 73) (.tmp 76) rfl rfl H1.out rfl T1.out.snd T1.out.may (by omega) ?_; intro P2 q2 v2 o2))
        have H2 := hide o2
        clear o2
        go_roundw
        case rel => exact ⟨_, _, _, b, rfl, rfl, by omega, by omega, H2.out⟩
        case measure => simp [intOf]
      have f3 : ¬ ((x : Int) < 3) := by omega
      have f5 : ¬ ((x : Int) < 5) := by omega
      have f7 : ¬ ((x : Int) < 7) := by omega
      have f8 : ¬ ((x : Int) < 8) := by omega
      go_wp2_with fail
      refine (one_lit g Z m c z _ _ _ (by rfl) (by decide +kernel) (by omega) _ (HK.out.alloc _).tap hm).mono ?_
      rintro e w1 ⟨X1, k1, x1, rfl, hk1, ho1⟩
      have H1 := hide ((HK.out.alloc _).call ho1)
      have T1 := hide ho1.rd
      clear ho1
      go_wp2_with (first
        | (at_builtin; refine wpList_out rfl (.tmp 17) (.tmp 20) rfl rfl H1.out rfl T1.out.snd T1.out.may (by omega) ?_; intro P2 q2 v2 o2))
      have H2 := hide o2
      clear o2
      refine (one_lit g Z m c z _ _ _ (by rfl) (by decide +kernel) (by omega) _ (H2.out.alloc _).tap hm).mono ?_
      rintro e w3 ⟨X3, k3, x3, rfl, hk3, ho3⟩
      have H3 := hide ((H2.out.alloc _).call ho3)
      have T3 := hide ho3.rd
      clear ho3
      go_wp2_with (first
        | (at_builtin; refine wpList_out rfl (.tmp 78) (.tmp 81) rfl rfl H3.out rfl T3.out.snd T3.out.may (by omega) ?_; intro P4 q4 v4 o4))
      have H4 := hide o4
      clear o4
      go_roundw
      case rel => exact ⟨_, _, _, b, rfl, rfl, by omega, by omega, H4.out⟩
      case measure => simp [intOf]

set_option maxRecDepth 100000 in
set_option maxHeartbeats 4000000 in
theorem tpat1 (g : Nat) (Z : Option Addr) (m c : Nat) (z : List Int) (w : World) (d : Nat) (hd : d ≤ 1) (hrec : ∀ W, Tap W g Z m c z → Calls Try.prog 79 #[.pointer (some ⟨g, 0, none⟩), .int .i64 (d : Int)] W (TextR (patB d) g Z m c z W)) (h : Tap w g Z m c z) (hm : m ≤ 35184372088832) : Calls Try.prog 79 #[.pointer (some ⟨g, 0, none⟩), .int .i64 ((d + 1 : Nat) : Int)] w (TextR (3 * (2 * patB d + 122)) g Z m c z w) := by
  have HT := hide h
  have HREC := hide hrec
  have hpb := patB_le d (by omega)
  clear hrec
  generalize patB d = D at HREC hpb ⊢
  obtain ⟨R, hR⟩ : ∃ R, 2 * D + 122 = R := ⟨_, rfl⟩
  rw [hR]
  clear h
  go_enter Try.func79, Try.ntmps79
  go_wp2_with fail
  refine (next_any 3 g Z m c z w HT.out (by omega) (by omega) hm).mono ?_
  rintro e w0 ⟨r, rfl, hr, ht, hg, -⟩
  have HO0 := hide ((Out.start HT.out).next ht hg)
  have er : (1 : Int) + (r : Int) = ((r + 1 : Nat) : Int) := by omega
  clear ht hg
  go_wp2_with fail
  clear er
  go_loopw [5, 6] (fun o i wr => ∃ (A : Option Addr) (k cap j : Nat), o = .slice A k cap ∧ i = .int .i64 j ∧ k + j * R ≤ 3 * R ∧ j ≤ 3 ∧ Hid (Out g Z m c z w wr A k cap)) (fun _ i _ => (intOf i).toNat)
  case atStart => exact ⟨none, 0, 0, r + 1, rfl, by first | rfl | go_num, by have := Nat.mul_le_mul_right R (show r + 1 ≤ 3 by omega); omega, by omega, HO0.out⟩
  case round =>
    obtain ⟨A, k, cap, j, rfl, rfl, hkj, hj3, HO⟩ := hrel
    rcases Nat.eq_zero_or_pos j with rfl | hpos
    · go_wp2_with fail
      go_ret
      exact ⟨A, k, cap, rfl, by omega, HO.out⟩
    · obtain ⟨b, rfl⟩ : ∃ b, j = b + 1 := ⟨j - 1, by omega⟩
      have e1 : (((b + 1 : Nat) : Int)) - 1 = (b : Int) := by omega
      have hkj2 : k + R + b * R ≤ 3 * R := by rw [Nat.add_mul] at hkj; omega
      clear hkj
      go_wp2_with fail
      refine (next_any 10 g Z m c z _ HO.out.tap (by omega) (by omega) hm).mono ?_
      rintro e wk ⟨x, rfl, hx, ht, hg, -⟩
      have HK := hide (HO.out.next ht hg)
      clear ht hg
      by_cases h0 : x < 3
      · have f3 : (x : Int) < 3 := by omega
        go_wp2_with fail
        refine (one_lit g Z m c z _ _ _ (by rfl) (by decide +kernel) (by omega) _ (HK.out.alloc _).tap hm).mono ?_
        rintro e w1 ⟨X1, k1, x1, rfl, hk1, ho1⟩
        have H1 := hide ((HK.out.alloc _).call ho1)
        have T1 := hide ho1.rd
        clear ho1
        go_wp2_with (first
          | (at_builtin; refine wpList_out rfl (.tmp 25) (.tmp 28) rfl rfl H1.out rfl T1.out.snd T1.out.may (by omega) ?_; intro P2 q2 v2 o2))
        have H2 := hide o2
        clear o2
        refine (one_lit g Z m c z _ _ _ (by rfl) (by decide +kernel) (by omega) _ (H2.out.alloc _).tap hm).mono ?_
        rintro e w3 ⟨X3, k3, x3, rfl, hk3, ho3⟩
        have H3 := hide ((H2.out.alloc _).call ho3)
        have T3 := hide ho3.rd
        clear ho3
        go_wp2_with (first
          | (at_builtin; refine wpList_out rfl (.tmp 78) (.tmp 81) rfl rfl H3.out rfl T3.out.snd T3.out.may (by omega) ?_; intro P4 q4 v4 o4))
        have H4 := hide o4
        clear o4
        go_roundw
        case rel => exact ⟨_, _, _, b, rfl, rfl, by omega, by omega, H4.out⟩
        case measure => simp [intOf]
      by_cases h1 : x < 5
      · have f3 : ¬ ((x : Int) < 3) := by omega
        have f5 : (x : Int) < 5 := by omega
        go_wp2_with fail
        refine (one_lit g Z m c z _ _ _ (by rfl) (by decide +kernel) (by omega) _ (HK.out.alloc _).tap hm).mono ?_
        rintro e w1 ⟨X1, k1, x1, rfl, hk1, ho1⟩
        have H1 := hide ((HK.out.alloc _).call ho1)
        have T1 := hide ho1.rd
        clear ho1
        go_wp2_with (first
          | (at_builtin; refine wpList_out rfl (.tmp 33) (.tmp 36) rfl rfl H1.out rfl T1.out.snd T1.out.may (by omega) ?_; intro P2 q2 v2 o2))
        have H2 := hide o2
        clear o2
        refine (one_lit g Z m c z _ _ _ (by rfl) (by decide +kernel) (by omega) _ (H2.out.alloc _).tap hm).mono ?_
        rintro e w3 ⟨X3, k3, x3, rfl, hk3, ho3⟩
        have H3 := hide ((H2.out.alloc _).call ho3)
        have T3 := hide ho3.rd
        clear ho3
        go_wp2_with (first
          | (at_builtin; refine wpList_out rfl (.tmp 78) (.tmp 81) rfl rfl H3.out rfl T3.out.snd T3.out.may (by omega) ?_; intro P4 q4 v4 o4))
        have H4 := hide o4
        clear o4
        go_roundw
        case rel => exact ⟨_, _, _, b, rfl, rfl, by omega, by omega, H4.out⟩
        case measure => simp [intOf]
      by_cases h2 : x < 7
      · have f3 : ¬ ((x : Int) < 3) := by omega
        have f5 : ¬ ((x : Int) < 5) := by omega
        have f7 : (x : Int) < 7 := by omega
        have fd : (0 : Int) < ((d + 1 : Nat) : Int) := by omega
        go_wp2_with fail
        refine (one_lit g Z m c z _ _ _ (by rfl) (by decide +kernel) (by omega) _ (HK.out.alloc _).tap hm).mono ?_
        rintro e w1 ⟨X1, k1, x1, rfl, hk1, ho1⟩
        have H1 := hide ((HK.out.alloc _).call ho1)
        have T1 := hide ho1.rd
        clear ho1
        go_wp2_with (first
          | (at_builtin; refine wpList_out rfl (.tmp 45) (.tmp 48) rfl rfl H1.out rfl T1.out.snd T1.out.may (by omega) ?_; intro P2 q2 v2 o2))
        have H2 := hide o2
        clear o2
        refine (HREC.out _ H2.out.tap).mono ?_
        rintro e w3 ⟨X3, k3, x3, rfl, hk3, ho3⟩
        have H3 := hide (H2.out.call ho3)
        have T3 := hide ho3.rd
        clear ho3
        go_wp2_with (first
          | (at_builtin; refine wpList_out rfl (.tmp 50) (.tmp 54) rfl rfl H3.out rfl T3.out.snd T3.out.may (by omega) ?_; intro P4 q4 v4 o4))
        have H4 := hide o4
        clear o4
        refine (next_any 3 g Z m c z _ H4.out.tap (by omega) (by omega) hm).mono ?_
        rintro e w5 ⟨q, rfl, hq, ht5, hg5, -⟩
        have H5 := hide (H4.out.next ht5 hg5)
        clear ht5 hg5
        by_cases hq : q = 0
        · have dq : ((q : Int) == 0) = true := by simp; omega
          clear hq
          go_wp2_with (first
            | (at_builtin; refine wpList_out rfl (.tmp 59) (.tmp 60) rfl rfl (H5.out.alloc _) rfl (Runes.news _ _ _ [124] rfl (w32_of (by decide))) (by decide) (by simp; omega) ?_; intro P6 q6 v6 o6))
          have H6 := hide o6
          clear o6
          refine (HREC.out _ H6.out.tap).mono ?_
          rintro e w7 ⟨X7, k7, x7, rfl, hk7, ho7⟩
          have H7 := hide (H6.out.call ho7)
          have T7 := hide ho7.rd
          clear ho7
          go_wp2_with (first
            | (at_builtin; refine wpList_out rfl (.tmp 61) (.tmp 65) rfl rfl H7.out rfl T7.out.snd T7.out.may (by omega) ?_; intro P8 q8 v8 o8)
            | (at_builtin; refine wpList_out rfl (.tmp 67) (.tmp 68) rfl rfl (o8.alloc _) rfl (Runes.news _ _ _ [41] rfl (w32_of (by decide))) (by decide) (by simp; omega) ?_; intro P9 q9 v9 o9))
          have H9 := hide o9
          clear o8 o9
          refine (one_lit g Z m c z _ _ _ (by rfl) (by decide +kernel) (by omega) _ (H9.out.alloc _).tap hm).mono ?_
          rintro e w10 ⟨X10, k10, x10, rfl, hk10, ho10⟩
          have H10 := hide ((H9.out.alloc _).call ho10)
          have T10 := hide ho10.rd
          clear ho10
          go_wp2_with (first
            | (at_builtin; refine wpList_out rfl (.tmp 78) (.tmp 81) rfl rfl H10.out rfl T10.out.snd T10.out.may (by omega) ?_; intro P11 q11 v11 o11))
          have H11 := hide o11
          clear o11
          go_roundw
          case rel => exact ⟨_, _, _, b, rfl, rfl, by omega, by omega, H11.out⟩
          case measure => simp [intOf]
        · have dq : ((q : Int) == 0) = false := by simp; omega
          clear hq
          go_wp2_with (first
            | (at_builtin; refine wpList_out rfl (.tmp 67) (.tmp 68) rfl rfl (H5.out.alloc _) rfl (Runes.news _ _ _ [41] rfl (w32_of (by decide))) (by decide) (by simp; omega) ?_; intro P6 q6 v6 o6))
          have H6 := hide o6
          clear o6
          refine (one_lit g Z m c z _ _ _ (by rfl) (by decide +kernel) (by omega) _ (H6.out.alloc _).tap hm).mono ?_
          rintro e w7 ⟨X7, k7, x7, rfl, hk7, ho7⟩
          have H7 := hide ((H6.out.alloc _).call ho7)
          have T7 := hide ho7.rd
          clear ho7
          go_wp2_with (first
            | (at_builtin; refine wpList_out rfl (.tmp 78) (.tmp 81) rfl rfl H7.out rfl T7.out.snd T7.out.may (by omega) ?_; intro P8 q8 v8 o8))
          have H8 := hide o8
          clear o8
          go_roundw
          case rel => exact ⟨_, _, _, b, rfl, rfl, by omega, by omega, H8.out⟩
          case measure => simp [intOf]
      by_cases h3 : x < 8
      · have f3 : ¬ ((x : Int) < 3) := by omega
        have f5 : ¬ ((x : Int) < 5) := by omega
        have f7 : ¬ ((x : Int) < 7) := by omega
        have f8 : (x : Int) < 8 := by omega
        go_wp2_with fail
        refine (one_lit g Z m c z _ _ _ (by rfl) (by decide +kernel) (by omega) _ (HK.out.alloc _).tap hm).mono ?_
        rintro e w1 ⟨X1, k1, x1, rfl, hk1, ho1⟩
        have H1 := hide ((HK.out.alloc _).call ho1)
        have T1 := hide ho1.rd
        clear ho1
        go_wp2_with (first
          | (at_builtin; refine wpList_out rfl (.tmp 73) (.tmp 76) rfl rfl H1.out rfl T1.out.snd T1.out.may (by omega) ?_; intro P2 q2 v2 o2))
        have H2 := hide o2
        clear o2
        go_roundw
        case rel => exact ⟨_, _, _, b, rfl, rfl, by omega, by omega, H2.out⟩
        case measure => simp [intOf]
      have f3 : ¬ ((x : Int) < 3) := by omega
      have f5 : ¬ ((x : Int) < 5) := by omega
      have f7 : ¬ ((x : Int) < 7) := by omega
      have f8 : ¬ ((x : Int) < 8) := by omega
      go_wp2_with fail
      refine (one_lit g Z m c z _ _ _ (by rfl) (by decide +kernel) (by omega) _ (HK.out.alloc _).tap hm).mono ?_
      rintro e w1 ⟨X1, k1, x1, rfl, hk1, ho1⟩
      have H1 := hide ((HK.out.alloc _).call ho1)
      have T1 := hide ho1.rd
      clear ho1
      go_wp2_with (first
        | (at_builtin; refine wpList_out rfl (.tmp 17) (.tmp 20) rfl rfl H1.out rfl T1.out.snd T1.out.may (by omega) ?_; intro P2 q2 v2 o2))
      have H2 := hide o2
      clear o2
      refine (one_lit g Z m c z _ _ _ (by rfl) (by decide +kernel) (by omega) _ (H2.out.alloc _).tap hm).mono ?_
      rintro e w3 ⟨X3, k3, x3, rfl, hk3, ho3⟩
      have H3 := hide ((H2.out.alloc _).call ho3)
      have T3 := hide ho3.rd
      clear ho3
      go_wp2_with (first
        | (at_builtin; refine wpList_out rfl (.tmp 78) (.tmp 81) rfl rfl H3.out rfl T3.out.snd T3.out.may (by omega) ?_; intro P4 q4 v4 o4))
      have H4 := hide o4
      clear o4
      go_roundw
      case rel => exact ⟨_, _, _, b, rfl, rfl, by omega, by omega, H4.out⟩
      case measure => simp [intOf]

theorem tpat_any (g : Nat) (Z : Option Addr) (m c : Nat) (z : List Int) : ∀ (d : Nat), d ≤ 1 → ∀ (w : World) (h : Tap w g Z m c z) (hm : m ≤ 35184372088832), Calls Try.prog 79 #[.pointer (some ⟨g, 0, none⟩), .int .i64 (d : Int)] w (TextR (patB d) g Z m c z w)
  | 0, _, w, h, hm => tpat0 g Z m c z w h hm
  | d + 1, hd, w, h, hm => tpat1 g Z m c z w d (by omega) (fun W hW => tpat_any g Z m c z d (by omega) W hW hm) h hm

end Go.Proofs.Ytkoieceifplphaa
