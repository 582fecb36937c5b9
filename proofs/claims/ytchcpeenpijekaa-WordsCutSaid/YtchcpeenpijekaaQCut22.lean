/- The walk of standishlaw22.WordsCut: it answers true. -/
import Derived.Test.YtchcpeenpijekaaQTells22
import Derived.Test.YtchcpeenpijekaaQCutP
import Derived.Test.YtchcpeenpijekaaQMake
namespace Go.Proofs.Ytchcpeenpijekaa
open Go.RowKit
set_option linter.unusedVariables false

theorem w32_chunk {i : Nat} (h : i < 70) : W32 (chunk i) := fun x hx => by
  unfold chunk at hx
  simp at hx
  rcases hx with rfl | rfl | rfl | rfl <;> omega

set_option maxRecDepth 100000 in
set_option maxHeartbeats 4000000 in
theorem cut22_any (w : World) : Calls Try.prog 9 #[] w fun e w' => e = .returned (.bool true) ∧ Below w.heap.size w w' := by
  go_enter Try.func9, Try.ntmps9
  go_wp2_with fail
  go_loopw [1, 2, 3] (fun s1 s2 _ wx => ∃ (i n c : Nat) (A : Option Addr), i ≤ 70 ∧ s2 = .int .i64 i ∧ s1 = .slice A n c ∧ n ≤ 12 * i ∧ Hid (Own wx w.heap.size A n c (cutP i)) ∧ Hid (Below w.heap.size w wx)) (fun _ s2 _ _ => 70 - (intOf s2).toNat)
  case atStart => exact ⟨0, 0, 0, none, Nat.zero_le _, rfl, rfl, Nat.zero_le _, Own.nil _ _, Below.refl _ _⟩
  case round =>
    obtain ⟨i, n, c, A, hi, rfl, rfl, hn, HO, HB⟩ := hrel
    by_cases hlt : i < 70
    · have i0 : (0 : Int) ≤ (i : Int) := by omega
      have i1 : (i : Int) < 70 := by omega
      obtain ⟨r, hr⟩ : ∃ r, i % 3 = r := ⟨_, rfl⟩
      have hr3 : r ≤ 2 := by omega
      have HR := hide (show cutP (i + 1) = cutP i ++ repC i (r + 1) from by rw [← hr]; rfl)
      have hri : (i : Int) % 3 = (r : Int) := by omega
      clear hr
      go_wp2_with fail
      go_loopw [1, 3] (fun s1 s3 wx => ∃ (k n2 c2 : Nat) (A2 : Option Addr), k ≤ r + 1 ∧ s3 = .int .i64 k ∧ s1 = .slice A2 n2 c2 ∧ n2 ≤ 12 * i + 4 * k ∧ Hid (Own wx w.heap.size A2 n2 c2 (cutP i ++ repC i k)) ∧ Hid (Below w.heap.size w wx)) (fun _ s3 _ => r + 1 - (intOf s3).toNat)
      case atStart => exact ⟨0, n, c, A, Nat.zero_le _, rfl, rfl, by omega, (by rw [show repC i 0 = [] from rfl, List.append_nil]; exact HO.out), HB.out⟩
      case round =>
        obtain ⟨k, n2, c2, A2, hk, rfl, rfl, hn2, HO2, HB2⟩ := hrel
        by_cases hkr : k ≤ r
        · have HOA := hide (Own.alloc HO2.out (.cells #[.int .i32 113, .int .i32 (97 + (i : Int) % 26), .int .i32 (97 + (i : Int) / 26), .int .i32 32] 21))
          have HRN := hide (Runes.news wr #[.int .i32 113, .int .i32 (97 + (i : Int) % 26), .int .i32 (97 + (i : Int) / 26), .int .i32 32] 21 (chunk i) rfl (w32_chunk hlt))
          go_wp2_with (at_builtin; refine wpList_app rfl (.tmp 18) (.tmp 27) rfl w.heap.size rfl HOA.out rfl HRN.out (by simp [chunk]; omega) (by have := HB2.out.size; simp; omega) ?_; intro A3 c3 w3 ho3 hg3 hb3 hbk _)
          have HO3 := hide (show Own w3 w.heap.size A3 (n2 + 4) c3 (cutP i ++ repC i (k + 1)) from by rw [show repC i (k + 1) = repC i k ++ chunk i from rfl, ← List.append_assoc]; exact ho3)
          have HB3 := hide ((HB2.out.alloc HB2.out.size (.cells #[.int .i32 113, .int .i32 (97 + (i : Int) % 26), .int .i32 (97 + (i : Int) / 26), .int .i32 32] 21)).trans hb3)
          clear ho3 hg3 hb3 hbk HOA HRN
          go_roundw
          case rel => exact ⟨k + 1, n2 + 4, c3, A3, by omega, by go_num, rfl, by omega, HO3.out, HB3.out⟩
          case measure => simp [intOf]; omega
        · obtain rfl : k = r + 1 := by omega
          have HO3 := hide (show Own wr w.heap.size A2 n2 c2 (cutP (i + 1)) from by rw [HR.out]; exact HO2.out)
          clear HO2 HR
          go_wp2_with fail
          go_roundw
          case rel => exact ⟨i + 1, n2, c2, A2, by omega, by go_num, rfl, by omega, HO3.out, HB2.out⟩
          case measure => simp [intOf]; omega
    · obtain rfl : i = 70 := by omega
      have HOA := hide (Own.alloc HO.out (.cells #[.int .i32 113] 21))
      have HRN := hide (Runes.news wr #[.int .i32 113] 21 [113] rfl (W32.one (by omega)))
      go_upto_region 10 with (at_builtin; refine wpList_app rfl (.tmp 29) (.tmp 30) rfl w.heap.size rfl HOA.out rfl HRN.out (by simp; omega) (by have := HB.out.size; simp; omega) ?_; intro A3 c3 w3 ho3 hg3 hb3 hbk _)
      have ho4 : Own w3 w.heap.size A3 (n + 1) c3 cutL := ho3
      obtain rfl : n = 556 := by have := ho4.len; rw [cutL_len] at this; omega
      have HO3 := hide (show Own w3 w.heap.size A3 557 c3 cutL from ho4)
      have hcap := ho4.cap
      have HB3 := hide ((HB.out.alloc HB.out.size (.cells #[.int .i32 113] 21)).trans hb3)
      clear ho3 ho4 hg3 hb3 hbk HOA HRN HO HB
      rw [show (556 + 1 : Nat) = 557 from rfl]
      go_upto_region 11 with (go_at_call 40; refine (menu_any A3 557 c3 cutL 557 _ HO3.out.runes (by omega) hcap.1 hcap.2).mono ?_; rintro e w4 ⟨A, an, ac, Ao, no, co, us, k, rfl, hA4, hO4, hko, hno, hme, -, -, hb4⟩)
      rw [cutL_pre] at hA4
      obtain rfl : an = 1 := hA4.len.symm
      have hk50 : k = 50 := by
        have h1 := congrArg List.length hme
        rw [cutL_menu.1, List.length_map, List.length_take, hO4.len] at h1
        omega
      subst hk50
      have h3 := congrArg (fun l => l[0]?.map Prod.snd) hme
      rw [cutL_menu.2, List.getElem?_map] at h3
      obtain ⟨u, hu, huk⟩ : ∃ u, us[0]? = some u ∧ u.k = 3 := by
        have h5 : (us.take 50)[0]? = us[0]? := by simp
        rw [h5] at h3
        cases hu : us[0]? with
        | none => rw [hu] at h3; cases h3
        | some u =>
          rw [hu] at h3
          injection h3 with h3
          exact ⟨u, rfl, h3⟩
      obtain ⟨g, rfl, d0, d1⟩ := RowG.itm_at hO4.row hu
      rw [huk] at d1
      have d2 : w4.cell? ⟨g, 1, none⟩ = some (.int .i64 3) := d1
      have HB4 := hide (HB3.out.trans (hb4.mono HB3.out.size))
      have HY := hide (fun (a : Int) W (hb : Below w4.heap.size w4 W) => same22_yes A3 557 c3 cutL a W w4 (HO3.out.runes.below hb4) hb (by omega) hcap.1 hcap.2)
      clear hA4 hO4 hme h3 hu huk d0 d1 hb4 hno
      go_upto_region 13 with (first
        | (go_at_call 36; (with_reducible refine (HY.out 557 _ (Below.refl _ _)).mono ?_); rintro e w5 ⟨rfl, hb5⟩
           have HB5 := hide hb5)
        | (go_at_call 36; (with_reducible refine (HY.out 1 _ HB5.out).mono ?_); rintro e w6 ⟨rfl, hb6⟩))
      have HB6 := hide (HB4.out.trans (hb6.mono HB4.out.size))
      clear hb6 hb5 HB5 HY d2 HO3 HB3 hcap hko
      obtain ⟨Z1, e1⟩ : ∃ Z, Z = (cells32 (List.replicate 1001 0)).toArray := ⟨_, rfl⟩
      have hm1 : ∀ W, (Instr.makeSlice 29 (.int .i64 1001) (.int .i64 1001)).run Try.prog W = .ok (.slice (some ⟨W.heap.size, 0, none⟩) 1001 1001) (W.alloc (.cells Z1 21)) := fun W => by rw [e1]; exact run_make32 1001 (by omega) W
      obtain ⟨gl, hgl⟩ : ∃ gl, w6.heap.size = gl := ⟨_, rfl⟩
      have HL := hide (show Own (w6.alloc (.cells Z1 21)) gl (some ⟨gl, 0, none⟩) 1001 1001 (List.replicate 1001 0) from by
        have h := Own.newsAt hgl Z1 (List.replicate 1001 0) e1 (w32_zeros 1001) (by rw [List.length_replicate]; omega)
        rwa [List.length_replicate] at h)
      have HB7 := hide (HB6.out.alloc HB6.out.size (.cells Z1 21))
      have HGL := hide (show w.heap.size ≤ gl from by have := HB6.out.size; omega)
      have HGN := hide (show gl ≤ (w6.alloc (.cells Z1 21)).heap.size from by simp; omega)
      clear e1
      go_upto_region 14 with fail
      clear hm1 hgl
      generalize w6.alloc (.cells Z1 21) = W7 at HL HB7 HGN ⊢
      go_wp2_with fail
      go_loopw [7, 69] (fun _ s69 wx => ∃ (i : Nat) (l : List Int), i ≤ 1001 ∧ s69 = .int .i64 i ∧ Hid (Own wx gl (some ⟨gl, 0, none⟩) 1001 1001 l) ∧ Hid (Below gl W7 wx)) (fun _ s69 _ => 1001 - (intOf s69).toNat)
      case atStart => exact ⟨0, _, Nat.zero_le _, rfl, HL.out, Below.refl _ _⟩
      case round =>
        obtain ⟨i, l, hi, rfl, HO, HB⟩ := hrel
        by_cases hlt : i < 1001
        · have i0 : (0 : Int) ≤ (i : Int) := by omega
          have i1 : (i : Int) < 1001 := by omega
          have c0 := HO.out.cell hlt
          have f0 := HO.out.frozen i
          have HO2 := hide (HO.out.set hlt (x := 97 + (i : Int) % 5 / 4 * 32) (by omega))
          have HB2 := hide (show Below gl W7 (wr.setCell ⟨gl, i, none⟩ (.int .i32 (97 + (i : Int) % 5 / 4 * 32))) from HB.out.setCell (p := ⟨gl, i, none⟩) (Nat.le_refl _) _)
          by_cases h6 : (i : Int) % 7 = 6
          · have h7 : ((i : Int) % 7 == 6) = true := by simp; omega
            have HO3 := hide (HO2.out.set hlt (x := 32) (by omega))
            have HB3 := hide (show Below gl W7 ((wr.setCell ⟨gl, i, none⟩ (.int .i32 (97 + (i : Int) % 5 / 4 * 32))).setCell ⟨gl, i, none⟩ (.int .i32 32)) from HB2.out.setCell (p := ⟨gl, i, none⟩) (Nat.le_refl _) _)
            clear h6
            go_wp2_with fail
            go_roundw
            case rel => exact ⟨i + 1, _, by omega, by go_num, HO3.out, HB3.out⟩
            case measure => simp [intOf]; omega
          · have h7 : ((i : Int) % 7 == 6) = false := by simp; omega
            clear h6
            go_wp2_with fail
            go_roundw
            case rel => exact ⟨i + 1, _, by omega, by go_num, HO2.out, HB2.out⟩
            case measure => simp [intOf]; omega
        · have HB8 := hide (HB7.out.trans (HB.out.mono HGL.out))
          have hsl : ∀ W, (Instr.slice 29 (.slice (some ⟨gl, 0, none⟩) 1001 1001) none (some (.int .i64 1000)) none).run Try.prog W = .ok (.slice (some ⟨gl, 0, none⟩) 1000 1001) W := fun W => run_sub_h (some ⟨gl, 0, none⟩) 1001 1001 1000 (by omega) W
          have HY := hide (fun (a : Int) W (hb : Below wr.heap.size wr W) => same22_yes (some ⟨gl, 0, none⟩) 1001 1001 l a W wr HO.out.runes hb (by omega) (by omega) (by omega))
          have HY2 := hide (fun (a : Int) W (hb : Below wr.heap.size wr W) => same22_yes (some ⟨gl, 0, none⟩) 1000 1001 (l.take 1000) a W wr (HO.out.runes.take (by omega)) hb (by omega) (by omega) (by omega))
          go_wp2_with (first
            | (go_at_call 36; (with_reducible refine (HY.out 3 _ (Below.refl _ _)).mono ?_); rintro e w9 ⟨rfl, hb9⟩
               have HB9 := hide hb9)
            | (go_at_call 36; (with_reducible refine (HY2.out 3 _ HB9.out).mono ?_); rintro e w10 ⟨rfl, hb10⟩)
            | (go_at_call 37; (with_reducible refine (known22_any _).mono ?_); rintro e w11 ⟨rfl, hb11⟩))
          have HB10 := hide (HB8.out.trans (hb10.mono HB8.out.size))
          have HB11 := hide (HB10.out.trans (hb11.mono HB10.out.size))
          go_ret
          exact ⟨rfl, HB11.out⟩
end Go.Proofs.Ytchcpeenpijekaa
