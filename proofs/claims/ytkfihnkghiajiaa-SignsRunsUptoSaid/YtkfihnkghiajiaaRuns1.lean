/- The walk of standishlaw1.SignsRuns: it answers true. -/
import Derived.Test.YtkfihnkghiajiaaKnown1
namespace Go.Proofs.Ytkfihnkghiajiaa
open Go.RowKit
set_option linter.unusedVariables false

theorem cntP_snoc (l : List Int) (x : Int) : cntP (l ++ [x]) = cntP l + (if partS x then 1 else 0) := by
  unfold cntP
  rw [List.filter_append, List.length_append]
  cases h : partS x <;> simp [h]
theorem cntP_take_le (l : List Int) (k : Nat) : cntP (l.take k) ≤ k := Nat.le_trans (cntP_le _) (by rw [List.length_take]; omega)

set_option maxRecDepth 100000 in
set_option maxHeartbeats 4000000 in
theorem runs1_any (S : Option Addr) (k d : Nat) (bt : Int) (s : List Int) (w : World) (hS : Runes w S k s) (hk : k ≤ 1048576) (hm : -2147483648 ≤ bt ∧ bt ≤ 2147483647) :
    Calls Try.prog 7 #[.slice S k d, .int .i32 bt] w fun e w' => e = .returned (.bool true) ∧ Below w.heap.size w w' := by
  have HS := hide hS
  have HL := hide hS.len
  have HCL := hide class_any
  have HM := hide hm
  clear hS hm
  go_enter Try.func7, Try.ntmps7
  go_wp2_with fail
  go_loopw [5, 15] (fun n i wx => ∃ j : Nat, j ≤ k ∧ i = .int .i64 j ∧ n = .int .i64 (cntP (s.take j)) ∧ w = wx) (fun _ i _ => k - (intOf i).toNat)
  case atStart => exact ⟨0, by omega, rfl, rfl, rfl⟩
  case round =>
    obtain ⟨j, hj, rfl, rfl, rfl⟩ := hrel
    by_cases hjk : j < k
    · obtain ⟨ab, ao, rfl, hc⟩ := HS.out.at_ j hjk
      have HT := hide (show cntP (s.take (j + 1)) = cntP (s.take j) + (if partS (nth s j) then 1 else 0) by rw [take_snoc (by rw [HL.out]; exact hjk), cntP_snoc])
      have hle := cntP_take_le s j
      generalize cntP (s.take j) = cn at hle HT
      generalize nth s j = x at hc HT
      rcases part_ways x with ⟨p1, p2, p3⟩ | ⟨p1, p2, p3⟩ | ⟨p1, p3⟩
      · have hcx := fun W => HCL.out x W
        rw [p1] at hcx
        have HCX := hide hcx
        have e1 : (x != 95) = true := by simpa using p2
        rw [p3] at HT
        clear hcx p1 p2 p3
        go_wp2_with fail
        refine (HCX.out _).mono ?_
        rintro e w' ⟨rfl, rfl⟩
        go_wp2_with fail
        go_roundw
        case rel => exact ⟨j + 1, by omega, by go_num, by rw [HT.out]; go_num, by first | rfl | trivial⟩
        case measure => simp [intOf]; omega
      · have hcx := fun W => HCL.out x W
        rw [p1] at hcx
        have HCX := hide hcx
        have e1 : (x != 95) = false := by simpa using p2
        rw [p3] at HT
        clear hcx p1 p2 p3
        go_wp2_with fail
        refine (HCX.out _).mono ?_
        rintro e w' ⟨rfl, rfl⟩
        go_wp2_with fail
        go_roundw
        case rel => exact ⟨j + 1, by omega, by go_num, by rw [HT.out]; simp, by first | rfl | trivial⟩
        case measure => simp [intOf]; omega
      · have e1 : (clsS x == 3) = false := by simpa using p1
        rw [p3] at HT
        clear p1 p3
        go_wp2_with fail
        refine (HCL.out _ _).mono ?_
        rintro e w' ⟨rfl, rfl⟩
        go_wp2_with fail
        go_roundw
        case rel => exact ⟨j + 1, by omega, by go_num, by rw [HT.out]; simp, by first | rfl | trivial⟩
        case measure => simp [intOf]; omega
    · obtain rfl : j = k := by omega
      have HTK := hide (show s.take j = s from List.take_of_length_le (by rw [HL.out]; exact Nat.le_refl _))
      rw [HTK.out]
      have hNk : cntP s ≤ j := by have := cntP_le s; rw [HL.out] at this; exact this
      have HLP := hide (runS_len upS s)
      have HLC := hide (runS_len loS s)
      have HTW := hide (runS_twice s)
      have HTO := hide (runS_two s)
      have HSEP := hide (fun (h : partS bt = false) => runS_sep s (x := 45) (y := bt) (z := 45) (by decide) h (by decide))
      generalize cntP s = N at hNk HLP HLC
      have HP := hide (fun W hb => (show Calls Try.prog 25 #[.slice S j d, .int .i64 4] W (NewR W (runS upS s)) from case_any S j d 4 s W (HS.out.below hb) (by omega)))
      have HC := hide (fun W hb => (show Calls Try.prog 25 #[.slice S j d, .int .i64 5] W (NewR W (runS loS s)) from case_any S j d 5 s W (HS.out.below hb) (by omega)))
      obtain ⟨p, hp⟩ : ∃ p, runS upS s = p := ⟨_, rfl⟩
      obtain ⟨c, hcc⟩ : ∃ c, runS loS s = c := ⟨_, rfl⟩
      simp only [hp] at HP HLP HTW HTO HSEP
      simp only [hcc] at HC HLC HTO
      clear hp hcc
      go_wp2_with fail
      refine (HP.out _ (Below.refl _ _)).mono ?_
      rintro e w1 ⟨P, np, cp, rfl, ho1, hb1⟩
      obtain rfl : np = N := by rw [← ho1.len, HLP.out]
      have HO1 := hide ho1.runes
      have HB1 := hide hb1
      clear ho1 hb1
      go_wp2_with fail
      refine (HC.out _ HB1.out).mono ?_
      rintro e w2 ⟨Q, nq, cq, rfl, ho2, hb2⟩
      obtain rfl : nq = np := by rw [← ho2.len, HLC.out]
      have HO2 := hide ho2.runes
      have HP2 := hide (HO1.out.below hb2)
      have HB2 := hide (HB1.out.trans (hb2.mono HB1.out.size))
      clear ho2 hb2
      go_wp2_with fail
      refine (case_any P nq cp 4 p _ HP2.out (by omega)).mono ?_
      rw [show caseS p 4 = p from HTW.out]
      rintro e w3 ⟨R, nr, cr, rfl, ho3, hb3⟩
      obtain rfl : nr = nq := by rw [← ho3.len, HLP.out]
      have HR3 := hide ho3.runes
      have HP3 := hide (HP2.out.below hb3)
      have HC3 := hide (HO2.out.below hb3)
      have HB3 := hide (HB2.out.trans (hb3.mono HB2.out.size))
      clear ho3 hb3
      go_wp2_with fail
      refine (same_any R P nr cr nr cp p p _ HR3.out HP3.out (by omega) (by omega)).mono ?_
      rw [show sameS p p = true by simp [sameS]]
      rintro e w4 ⟨rfl, q4, rfl⟩
      have HB4 := hide (belowN HB3.out q4)
      have HP4 := hide (HP3.out.drewN q4)
      have HC4 := hide (HC3.out.drewN q4)
      generalize w3.drewN q4 = w4 at *
      go_wp2_with fail
      go_loopw [52] (fun i wx => ∃ (x : Nat), x ≤ nr ∧ i = .int .i64 x ∧ Below w4.heap.size w4 wx) (fun i _ => nr - (intOf i).toNat)
      case atStart => exact ⟨0, by omega, rfl, Below.refl _ _⟩
      case round =>
        obtain ⟨x, hx, rfl, hbel⟩ := hrel
        have HW := hide hbel
        clear hbel
        by_cases hxn : x < nr
        · have i0 : (0 : Int) ≤ (x : Int) := by omega
          have i1 : (x : Int) < (nr : Int) := by omega
          obtain ⟨pb, po, rfl, hpc⟩ := (HP4.out.below HW.out).at_ x hxn
          obtain ⟨qb, qo, rfl, hcc⟩ := (HC4.out.below HW.out).at_ x hxn
          by_cases hx0 : x = 0
          · subst hx0
            have hto := HTO.out.1 (by rw [HLP.out]; exact hxn)
            have hbd := HC4.out.wf.bd 0
            have hbd2 := HP4.out.wf.bd 0
            have hu := fun W => upper_any (nth c 0) W hbd
            have hlo := fun W => lower_any (nth p 0) W hbd2
            rw [hto.1] at hu
            rw [hto.2] at hlo
            have HU := hide hu
            have HLo := hide hlo
            clear hto hbd hbd2 hu hlo
            rw [Nat.add_zero] at hpc hcc
            generalize nth p 0 = p0 at hpc HU HLo
            generalize nth c 0 = c0 at hcc HU HLo
            rw [show ((0 : Nat) : Int) = 0 from rfl] at *
            go_wp2_with fail
            refine wp_region_quiet_lit (by kernel_rfl) (by kernel_rfl) ?_
            repeat (go_big_quiet_step ((first
              | (go_at_call 15; exact Calls.quiet_of_same ((HU.out _).mono fun _ _ h => ⟨h.1, h.2.symm⟩))
              | (go_at_call 16; exact Calls.quiet_of_same ((HLo.out _).mono fun _ _ h => ⟨h.1, h.2.symm⟩)))))
            refine wpQuiet_nil ?_
            intro _ hw'
            obtain ⟨nq, hw''⟩ := hw'
            subst hw''
            go_wp2
            go_roundw
            case rel => exact ⟨1, by omega, by go_num, belowN HW.out _⟩
            case measure => simp [intOf]; omega
          · have e0 : ((x : Int) == 0) = false := by simpa using hx0
            have e1 : decide ((0 : Int) < (x : Int)) = true := by simp; omega
            have e1b : decide (0 < x) = true := by simp; omega
            have e2 := HTO.out.2 x (by omega)
            rw [e2] at hcc
            clear e2 hx0
            generalize nth p x = p0 at hpc hcc
            have e1c : (p0 != p0) = false := by simp
            go_wp2_with fail
            refine wp_region_quiet_lit (by kernel_rfl) (by kernel_rfl) ?_
            repeat (go_big_quiet_step (fail))
            refine wpQuiet_nil ?_
            intro _ hw'
            obtain ⟨nq, hw''⟩ := hw'
            subst hw''
            go_wp2
            go_roundw
            case rel => exact ⟨x + 1, by omega, by go_num, belowN HW.out _⟩
            case measure => simp [intOf]; omega
        · obtain rfl : nr = x := by omega
          have HBQ := hide (HB4.out.trans (HW.out.mono HB4.out.size))
          have HSQ := hide (HS.out.below HBQ.out)
          have HPQ := hide (HP4.out.below HW.out)
          have HQ := hide (newsAt · · · #[.int .i32 45, .int .i32 bt, .int .i32 45] [45, bt, 45] rfl (fun y hy => by
            have := HM.out
            simp only [List.mem_cons, List.not_mem_nil, or_false] at hy
            rcases hy with rfl | rfl | rfl <;> omega))
          by_cases h3 : clsS bt = 3
          · have hcx := fun W => HCL.out bt W
            rw [h3] at hcx
            have HCX := hide hcx
            clear hcx h3
            go_wp2_with (first
              | (at_builtin
                 refine wpList_app0 rfl (.const (.slice none 0 0)) (.tmp 93) rfl wr.heap.size rfl rfl HSQ.out (by omega) (Nat.le_refl _) ?_
                 intro A6 c6 w6 ho6 hb6 _ _
                 have HO6 := hide ho6
                 have HB6 := hide hb6
                 clear ho6 hb6)
              | (at_builtin
                 refine wpList_app rfl (.tmp 94) (.tmp 96) rfl wr.heap.size rfl (HO6.out.alloc _) rfl (HQ.out w6 _ rfl) (by omega) (by have := HB6.out.size; simp; omega) ?_
                 intro A7 c7 w7 ho7 hg7 hb7 _ _
                 have HO7 := hide ho7
                 have HB7 := hide ((HB6.out.alloc HB6.out.size _).trans hb7)
                 clear ho7 hg7 hb7)
              | (at_builtin
                 refine wpList_app rfl (.tmp 97) (.tmp 98) rfl wr.heap.size rfl HO7.out rfl (HSQ.out.below HB7.out) (by omega) HB7.out.size ?_
                 intro A8 c8 w8 ho8 hg8 hb8 _ _
                 have HO8 := hide ho8.runes
                 have HB8 := hide (HB7.out.trans hb8)
                 clear ho8 hg8 hb8))
            refine (HCX.out _).mono ?_
            rintro e w9 ⟨rfl, rfl⟩
            go_wp2_with fail
            refine (known1_any _).mono ?_
            rintro e w10 ⟨rfl, hb10⟩
            have HB10 := hide (HB8.out.trans (hb10.mono HB8.out.size))
            clear hb10
            go_wp2_with fail
            go_ret
            exact ⟨rfl, HBQ.out.trans (HB10.out.mono HBQ.out.size)⟩
          · have e1 : (clsS bt != 3) = true := by simpa using h3
            have HSP := hide (HSEP.out (by unfold partS; simp [h3]))
            clear h3
            go_wp2_with (first
              | (at_builtin
                 refine wpList_app0 rfl (.const (.slice none 0 0)) (.tmp 93) rfl wr.heap.size rfl rfl HSQ.out (by omega) (Nat.le_refl _) ?_
                 intro A6 c6 w6 ho6 hb6 _ _
                 have HO6 := hide ho6
                 have HB6 := hide hb6
                 clear ho6 hb6)
              | (at_builtin
                 refine wpList_app rfl (.tmp 94) (.tmp 96) rfl wr.heap.size rfl (HO6.out.alloc _) rfl (HQ.out w6 _ rfl) (by omega) (by have := HB6.out.size; simp; omega) ?_
                 intro A7 c7 w7 ho7 hg7 hb7 _ _
                 have HO7 := hide ho7
                 have HB7 := hide ((HB6.out.alloc HB6.out.size _).trans hb7)
                 clear ho7 hg7 hb7)
              | (at_builtin
                 refine wpList_app rfl (.tmp 97) (.tmp 98) rfl wr.heap.size rfl HO7.out rfl (HSQ.out.below HB7.out) (by omega) HB7.out.size ?_
                 intro A8 c8 w8 ho8 hg8 hb8 _ _
                 have HO8 := hide ho8.runes
                 have HB8 := hide (HB7.out.trans hb8)
                 clear ho8 hg8 hb8))
            refine (HCL.out bt _).mono ?_
            rintro e w9 ⟨rfl, rfl⟩
            go_wp2_with (first
              | (at_builtin
                 refine wpList_app0 rfl (.const (.slice none 0 0)) (.tmp 103) rfl w8.heap.size rfl rfl (HPQ.out.below HB8.out) (by omega) (Nat.le_refl _) ?_
                 intro A10 c10 w10 ho10 hb10 _ _
                 have HO10 := hide ho10
                 have HB10 := hide hb10
                 clear ho10 hb10)
              | (at_builtin
                 refine wpList_app rfl (.tmp 104) (.tmp 105) rfl w8.heap.size rfl HO10.out rfl ((HPQ.out.below HB8.out).below HB10.out) (by omega) HB10.out.size ?_
                 intro A11 c11 w11 ho11 hg11 hb11 _ _
                 have HO11 := hide ho11.runes
                 have HB11 := hide (HB10.out.trans hb11)
                 clear ho11 hg11 hb11))
            refine (case_any A8 (j + 3 + j) c8 4 (s ++ [45, bt, 45] ++ s) _ (HO8.out.below HB11.out) (by omega)).mono ?_
            rw [show caseS (s ++ [45, bt, 45] ++ s) 4 = p ++ p from HSP.out]
            rintro e w12 ⟨A12, n12, c12, rfl, ho12, hb12⟩
            obtain rfl : n12 = nr + nr := by rw [← ho12.len, List.length_append, HLP.out]
            have HO12 := hide ho12.runes
            have HO112 := hide (HO11.out.below hb12)
            have HB12 := hide (HB11.out.trans (hb12.mono HB11.out.size))
            clear ho12 hb12
            go_wp2_with fail
            refine (same_any A12 A11 (nr + nr) c12 (nr + nr) c11 (p ++ p) (p ++ p) _ HO12.out HO112.out (by omega) (by omega)).mono ?_
            rw [show sameS (p ++ p) (p ++ p) = true by simp [sameS]]
            rintro e w13 ⟨rfl, q13, rfl⟩
            have HB13 := hide (belowN HB12.out q13)
            go_wp2_with fail
            refine (known1_any _).mono ?_
            rintro e w14 ⟨rfl, hb14⟩
            have HB14 := hide (HB13.out.trans (hb14.mono HB13.out.size))
            clear hb14
            go_wp2_with fail
            go_ret
            exact ⟨rfl, HBQ.out.trans ((HB8.out.trans (HB14.out.mono HB8.out.size)).mono HBQ.out.size)⟩
end Go.Proofs.Ytkfihnkghiajiaa
