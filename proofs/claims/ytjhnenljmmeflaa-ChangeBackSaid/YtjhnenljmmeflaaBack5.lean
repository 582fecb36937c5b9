/- The walk of standishlaw5.ChangeBack: it answers true. -/
import Derived.Test.YtjhnenljmmeflaaFitted
import Derived.Test.YtjhnenljmmeflaaRowP
import Derived.Test.YtjhnenljmmeflaaCBack
import Derived.Test.YtjhnenljmmeflaaKnown5
import Derived.Deep.LoopGhost
import Derived.Deep.CutBlock
import Derived.Deep.DeepCutAuto
namespace Go.Proofs.Ytjhnenljmmeflaa
open Go.RowKit
set_option linter.unusedVariables false

set_option maxRecDepth 100000 in
set_option maxHeartbeats 4000000 in
theorem back5_any (S I J P : Option Addr) (k d ni ci nj cj m e' : Nat) (s ia ja put : List Int) (w : World) (hS : Runes w S k s) (hI : IntsR w I ni ia) (hJ : IntsR w J nj ja) (hP : Runes w P m put)
    (hk : k + 2 ≤ 35184372088832) (hm : m + 2 ≤ 35184372088832) (hd : k ≤ d) (hd2 : d ≤ 9223372036854775807) (hd3 : m ≤ e') (hd4 : e' ≤ 9223372036854775807) (hni : ni ≤ 17592186044416) (hnj : nj ≤ 17592186044416) :
    Calls Try.prog 11 #[.slice S k d, .slice I ni ci, .slice J nj cj, .slice P m e'] w fun e w' => e = .returned (.bool true) ∧ Below w.heap.size w w' := by
  have HS := hide hS
  have HI := hide hI
  have HJ := hide hJ
  have HP := hide hP
  clear hS hI hJ hP
  go_enter Try.func11, Try.ntmps11
  go_wp2_with fail
  refine (cut_any S k d 200 _ hd hd2 (by omega)).mono ?_
  rintro e w1 ⟨rfl, rfl⟩
  go_wp2_with fail
  refine (clean_any S (min k 200) d _ _ (HS.out.take (m := min k 200) (by omega)) (by omega)).mono ?_
  rintro e w2 ⟨T, kt, dt, rfl, hT, hb2⟩
  have hlt := hT.len
  have hcapT := hT.cap
  have hmay := cleanS_may (s.take (min k 200))
  generalize ht : cleanS (s.take (min k 200)) = t at hT hlt hmay
  have hkt : kt ≤ 200 := by rw [← hlt, ← ht, cleanS_len, List.length_take]; omega
  clear ht hlt
  have HT := hide hT
  have HM := hide hmay
  have HB2 := hide hb2
  clear hT hb2 hmay
  go_wp2_with fail
  refine (cut_any P m e' 30 _ hd3 hd4 (by omega)).mono ?_
  rintro e w1 ⟨rfl, rfl⟩
  go_wp2_with fail
  refine (clean_any P (min m 30) e' _ _ ((HP.out.below HB2.out).take (m := min m 30) (by omega)) (by omega)).mono ?_
  rintro e w3 ⟨U, ku, du, rfl, hU, hb3⟩
  have hlu := hU.len
  have hcapU := hU.cap
  have hmayU := cleanS_may (put.take (min m 30))
  generalize hu : cleanS (put.take (min m 30)) = u at hU hlu hmayU
  have hku : ku ≤ 30 := by rw [← hlu, ← hu, cleanS_len, List.length_take]; omega
  clear hu hlu
  have HU := hide hU
  have HMU := hide hmayU
  have HT3 := hide (HT.out.below hb3)
  have HB3 := hide (HB2.out.trans (hb3.mono HB2.out.size))
  clear hU hb3 hmayU
  go_upto_block 0 with (at_builtin
                        refine wpList_app0 rfl (.const (.slice none 0 0)) (.tmp 25) rfl w.heap.size rfl rfl HT3.out.runes (by omega) HB3.out.size ?_
                        intro T0 oc0 w4 ho0 hb4 _ _)
  have HO0 := hide ho0
  have HB4 := hide (HB3.out.trans (hb4.mono HB3.out.size))
  have HT4 := hide (HT3.out.below hb4)
  have HU4 := hide (HU.out.below hb4)
  clear ho0 hb4 HT HT3 HU
  have HI4 := hide (HI.out.below HB4.out)
  have HJ4 := hide (HJ.out.below HB4.out)
  clear HI HJ
  go_cut [9, 10] (fun s9 s10 wx => ∃ (x n c : Nat) (O : Option Addr) (cur : List Int) (A : Option Addr) (ca : Nat) (vs : List CV) (ls : List Chg), x ≤ 15 ∧ s9 = .slice O n c ∧ s10 = .slice A x ca ∧ Own wx w.heap.size O n c cur ∧ RowC wx w4.heap.size A x ca vs ∧ Elts wx w4.heap.size vs ls ∧ Below w4.heap.size w4 wx ∧ Steps t ls cur)
  case first =>
    go_wp2_with fail
    go_loopg [9, 10, 11] 15 (fun z s9 s10 s11 wx => ∃ (x n c : Nat) (O : Option Addr) (cur : List Int) (A : Option Addr) (ca : Nat) (vs : List CV) (ls : List Chg), x ≤ 15 ∧ z = 15 - x ∧ s9 = .slice O n c ∧ s10 = .slice A x ca ∧ s11 = .int .i64 x ∧ Own wx w.heap.size O n c cur ∧ RowC wx w4.heap.size A x ca vs ∧ Elts wx w4.heap.size vs ls ∧ Below w4.heap.size w4 wx ∧ Steps t ls cur)
    case atStart => exact ⟨0, kt, oc0, T0, t, none, 0, [], [], by omega, rfl, rfl, rfl, rfl, HO0.out, RowC.nil _ _, Elts.nil _ _, Below.refl _ _, Steps.nil HM.out (by rw [HO0.out.len]; omega)⟩
    case round =>
      obtain ⟨x, n, c, O, cur, A, ca, vs, ls, hx, rfl, rfl, rfl, rfl, hown, hrow, hel, hbel, hst⟩ := hrel
      have hlen := hst.len
      rw [hown.len] at hlen
      have hcap := hown.cap
      have HO := hide hown
      have HR := hide hrow
      have HE := hide hel
      have HW := hide hbel
      have HST := hide hst
      clear hown hrow hel hbel hst
      have hgo : (x < ni ∧ x < nj ∧ x < 15) ∨ ¬ x < ni ∨ (x < ni ∧ ¬ x < nj) ∨ (x < ni ∧ x < nj ∧ ¬ x < 15) := by omega
      rcases hgo with ⟨h1, h2, h3⟩ | hgo
      · obtain ⟨ib, io, rfl, i0⟩ := (HI4.out.below HW.out).at_ x h1
        obtain ⟨jb, jo, rfl, j0⟩ := (HJ4.out.below HW.out).at_ x h2
        have h0 : (0 : Int) ≤ (x : Int) := by omega
        have h1' : (x : Int) < (ni : Int) := by omega
        have h2' : (x : Int) < (nj : Int) := by omega
        have h3' : (x : Int) < 15 := by omega
        obtain ⟨p, hp⟩ : ∃ p, min x ku = p := ⟨_, rfl⟩
        have hpk : p ≤ ku := by omega
        have hpe : min (x : Int) (ku : Int) = (p : Int) := by omega
        have hsl := run_sub_l U ku du p hpk
        have HF := hide (fun W (hb : Below wr.heap.size wr W) => fit_any O (sub U du p) n c (ku - p) (du - p) (nth ia x) (nth ja x) cur (u.drop p) W (HO.out.runes.below hb) ((((HU4.out.below HW.out).runes).sub hpk hcapU.1).below hb) (by omega) (by omega) hcap.1 hcap.2)
        have HLU := hide HU4.out.len
        have HLC := hide HO.out.len
        obtain ⟨z1, hz1⟩ : ∃ z, nth ia x = z := ⟨_, rfl⟩
        obtain ⟨z2, hz2⟩ : ∃ z, nth ja x = z := ⟨_, rfl⟩
        rw [hz1, hz2] at HF
        rw [hz1] at i0
        rw [hz2] at j0
        clear hz1 hz2 hp
        have hfa := fitA_le n z1
        have hfn := fitN_le n z1 z2
        generalize fitA n z1 = a at hfa hfn HF
        generalize fitN n z1 z2 = q at hfn HF
        have HMC := hide (fit_may (q := q) HST.out.may (mayS_drop HMU.out p) (by rw [HLC.out]; exact hfn) HST.out.len)
        rw [HLC.out] at HMC
        have HCK := hide (show ChgOk ⟨a, (cur.drop a).take q, (u.drop p).take (fitR n q)⟩ from ⟨⟨show -9223372036854775808 ≤ (a : Int) by omega, show (a : Int) ≤ 9223372036854775807 by omega⟩, by rw [List.length_take, List.length_drop, HLC.out]; omega, by rw [List.length_take, List.length_drop, HLU.out]; omega⟩ : ChgOk ⟨a, (cur.drop a).take q, (u.drop p).take (fitR n q)⟩)
        have hlc : ((cur.drop a).take q).length ≤ 1000 := by rw [List.length_take, List.length_drop, HLC.out]; omega
        have hlp : ((u.drop p).take (fitR n q)).length ≤ 30 := by rw [List.length_take, List.length_drop, HLU.out]; omega
        generalize (cur.drop a).take q = dc at HMC HCK HF hlc
        generalize (u.drop p).take (fitR n q) = dp at HMC HCK HF hlp
        have L1 := World.block_lt_of_cell? wr _ i0
        have L2 := World.block_lt_of_cell? wr _ j0
        have n1 : ib ≠ wr.heap.size := by simp only at L1; omega
        have n2 : jb ≠ wr.heap.size := by simp only at L2; omega
        have n3 : wr.heap.size ≠ ib := fun e => n1 e.symm
        have n4 : wr.heap.size ≠ jb := fun e => n2 e.symm
        have HD1 := hide ((Below.refl wr.heap.size wr).drew)
        have HD2 := hide (((Below.refl wr.heap.size wr).alloc (Nat.le_refl _) (.cells #[.int .i64 0, .slice none 0 0, .slice none 0 0] 31)).drew)
        have HBX := hide ((Box.new wr 31 #[.int .i64 0, .slice none 0 0, .slice none 0 0]).drew)
        go_upto_region 8 with fail
        go_cut [12] (fun s12 wx => Fitted wr a dc dp s12 wx)
        case first =>
          go_region_held3 (fun w' => w'.cell? ⟨ib, io + x, none⟩ = some (.int .i64 z1) ∧ w'.cell? ⟨jb, jo + x, none⟩ = some (.int .i64 z2)) (first | go_keep)
            (first
             | (go_at_call 16; (with_reducible refine (HF.out _ HD1.out).mono ?_); rintro e w5 ⟨C, nC, cC, P, mP, cP, rfl, hC, hP, hap, hb5⟩; have hbw := HD1.out.trans (hb5.mono HD1.out.size); have k1 := cell_later hbw i0; have k2 := cell_later hbw j0; have sz := hbw.size; have m1 : ib ≠ w5.heap.size := (by simp only at L1; omega); have m2 : jb ≠ w5.heap.size := (by simp only at L2; omega); have m3 : w5.heap.size ≠ ib := fun e => m1 e.symm; have m4 : w5.heap.size ≠ jb := fun e => m2 e.symm)
             | (go_at_call 16; (with_reducible refine (HF.out _ HD2.out).mono ?_); rintro e w5 ⟨C, nC, cC, P, mP, cP, rfl, hC, hP, hap, hb5⟩; have hbw := HD2.out.trans (hb5.mono HD2.out.size); have k1 := cell_later hbw i0; have k2 := cell_later hbw j0; obtain ⟨⟨f0, f1, f2⟩, f3, f4, f5⟩ := (HBX.out.below hb5).c3))
          all_goals (go_wp2_with fail; go_meet)
          all_goals first | exact fitted1 hC hP hap hbw (Nat.le_refl _) | exact fitted2 hC hP hap hbw (Nat.le_refl _) (by simp) (HBX.out.below hb5) rfl
        case rest =>
          obtain ⟨g, C, nC, cC, P', mP, cP, rfl, hbx, hC, hP, hap, hbw, hg⟩ := hcut
          clear i0 j0 h1' h2' hpe hsl HF hfn HD1 HD2 HBX n1 n2 n3 n4 L1 L2
          have hlC := hC.len
          have hlP := hP.len
          have hO := HO.out.below hbw
          have HLA := hide (show (appS cur a dc dp).length + dc.length = cur.length + dp.length from app_len (x := ⟨a, dc, dp⟩) HMC.out)
          rw [HLC.out, hlC, hlP] at HLA
          have happ : appE cur a dc dp = 0 := by unfold appE; rw [HMC.out]; rfl
          obtain ⟨nx, hnx⟩ : ∃ nx, appS cur a dc dp = nx := ⟨_, rfl⟩
          have HST2 := hide (show Steps t (ls ++ [⟨a, dc, dp⟩]) (appS cur a dc dp) from HST.out.step (x := ⟨a, dc, dp⟩) HMC.out)
          have hap1 := capply_any O n c a C P' nC cC mP cP cur dc dp wc hO.runes hC.runes hP.runes (by omega) (by omega) (by omega) hcap.1 hcap.2 (by omega)
          rw [happ, hnx] at hap1
          rw [hnx] at HLA HST2
          have HA1 := hide hap1
          have HBX := hide hbx
          have HO1 := hide hO
          have HC := hide hC
          have HP' := hide hP
          have HAP := hide hap
          have HW1 := hide hbw
          clear hbx hO hC hP hap hbw hap1 happ hnx
          obtain ⟨⟨f0, f1, f2⟩, _⟩ := HBX.out.c3
          go_wp2_with fail
          refine HA1.out.mono ?_
          rintro e w6 ⟨O2, n2, c2, rfl, ho2, hb6⟩
          have hln2 := ho2.len
          rw [hln2] at HLA
          have hn2 := HST2.out.len
          rw [hln2] at hn2
          have hla : n2 + nC = n + mP := HLA.out
          have HO2 := hide ho2
          have HB6 := hide hb6
          have HBX6 := hide (HBX.out.below hb6)
          clear ho2 hb6 f0 f1 f2 hln2
          obtain ⟨⟨f0, f1, f2⟩, _⟩ := HBX6.out.c3
          have hszw : w4.heap.size ≤ w6.heap.size := by have := HW.out.size; have := HW1.out.size; have := HB6.out.size; omega
          have hrw := (HR.out.below HW1.out).below HB6.out
          have hew := (HE.out.below HW1.out).below HB6.out
          have helt : EltO w6 w4.heap.size ⟨a, C, nC, cC, P', mP, cP⟩ ⟨a, dc, dp⟩ := ⟨rfl, (HC.out.below HB6.out).mono HW.out.size, (HP'.out.below HB6.out).mono HW.out.size, HAP.out, HCK.out⟩
          have hbw6 := (HW.out.trans (HW1.out.mono HW.out.size)).trans (HB6.out.mono (Nat.le_trans HW.out.size HW1.out.size))
          have HRW := hide hrw
          have HEW := hide hew
          have HEL := hide helt
          have HBW6 := hide hbw6
          clear hrw hew helt hbw6
          go_wp2_with (at_builtin
                       refine wpList_appC rfl (.tmp 82) (.tmp 84) rfl w4.heap.size rfl (HRW.out.alloc _) (v := ⟨a, C, nC, cC, P', mP, cP⟩) rfl (Box.new _ _ _) (by omega) (by simp; omega) ?_
                       intro g2 c3 w7 hrow2 hg2 hb2 _)
          have hrow1 := HRW.out.alloc (.cells #[.int .i64 a, .slice C nC cC, .slice P' mP cP] 31)
          have HE2 := hide ((HEW.out.alloc _).row hrow1 hg2 |>.app (Elts.one ((HEL.out.alloc _).row hrow1 hg2)))
          have HO7 := hide ((((HO2.out.mono (B' := w.heap.size) (by have := HB4.out.size; have := HW.out.size; have := HW1.out.size; omega)).alloc (.cells #[.int .i64 a, .slice C nC cC, .slice P' mP cP] 31))).kept hg2 (own_ne_row (HO2.out.alloc _) hrow1))
          have HR2 := hide hrow2
          have HB7 := hide ((HBW6.out.alloc hszw _).trans hb2)
          clear hrow1 hrow2 hg2 hb2
          go_roundg (15 - (x + 1))
          case measure => omega
          case rel => exact ⟨x + 1, n2, c2, O2, nx, _, c3, _, _, by omega, rfl, rfl, rfl, by go_num, HO7.out, HR2.out, HE2.out, HB7.out, HST2.out⟩
      · rcases hgo with hgo | hgo | hgo
        all_goals (go_wp2_with fail; go_meet; exact ⟨x, n, c, O, cur, A, ca, vs, ls, hx, rfl, rfl, HO.out, HR.out, HE.out, HW.out, HST.out⟩)
  case rest =>
    obtain ⟨x, n, c, O, cur, A, ca, vs, ls, hx, rfl, rfl, hown, hrow, hel, hbel, hst⟩ := hcut
    have hlen := hst.len
    rw [hown.len] at hlen
    have HO := hide hown
    have HCH := hide (hel.chgs hrow)
    have HW := hide hbel
    have HST := hide hst
    clear hown hrow hel hbel hst
    have hr1 := crow_any T A kt dt x ca (vget vs) t ls wc (HT4.out.below HW.out).runes HCH.out (by omega) (by omega)
    rw [HST.out.row] at hr1
    have HR1 := hide hr1
    clear hr1
    go_wp2_with fail
    refine HR1.out.mono ?_
    rintro e w5 ⟨O5, n5, c5, rfl, ho5, hb5⟩
    have hn5 : n5 = n := by rw [← ho5.len, HO.out.len]
    subst hn5
    have HO5 := hide ho5
    have HB5 := hide hb5
    have HC5 := hide (HCH.out.below hb5)
    clear ho5 hb5
    go_wp2_with fail
    refine (cback_any A x ca (vget vs) ls _ HC5.out (by omega)).mono ?_
    rintro e w6 ⟨A6, n6, c6, vs6, rfl, hrow6, hel6, hb6⟩
    have hn6 : n6 = x := by rw [← hrow6.len, ← hel6.len, backC_len, HC5.out.len]
    subst hn6
    have HC6 := hide (hel6.chgs hrow6)
    have HB6 := hide hb6
    clear hrow6 hel6 hb6
    have hr2 := crow_any O5 A6 n5 c5 n6 c6 (vget vs6) cur (backC ls) w6 (HO5.out.below HB6.out).runes HC6.out (by omega) (by omega)
    rw [HST.out.back] at hr2
    have HR2 := hide hr2
    clear hr2
    go_wp2_with fail
    refine HR2.out.mono ?_
    rintro e w7 ⟨O7, n7, c7, rfl, ho7, hb7⟩
    have hn7 : n7 = kt := by rw [← ho7.len, HT4.out.len]
    subst hn7
    have HO7 := hide ho7
    have HB7 := hide hb7
    clear ho7 hb7
    go_wp2_with fail
    have HB47 := hide ((HB5.out.trans (HB6.out.mono HB5.out.size)).trans (HB7.out.mono (Nat.le_trans HB5.out.size HB6.out.size)))
    have HB57 := hide (HB6.out.trans (HB7.out.mono HB6.out.size))
    refine (refSame_any O5 O n5 c5 n5 c cur cur w7 (HO5.out.below HB57.out).runes (HO.out.below HB47.out).runes (by omega) (by omega)).mono ?_
    rintro e w8 ⟨rfl, q8, rfl⟩
    rw [show sameS cur cur = true by simp [sameS]]
    go_wp2_with fail
    refine (refSame_any O7 T n7 c7 n7 dt t t _ (HO7.out.drewN q8).runes ((HT4.out.below (HW.out.trans (HB47.out.mono HW.out.size))).drewN q8).runes (by omega) (by omega)).mono ?_
    rintro e w9 ⟨rfl, q9, rfl⟩
    rw [show sameS t t = true by simp [sameS]]
    go_wp2_with fail
    refine (known5_any _).mono ?_
    rintro e w10 ⟨rfl, hb10⟩
    have hbw7 := (HB4.out.trans (HW.out.mono HB4.out.size)).trans (HB47.out.mono (Nat.le_trans HB4.out.size HW.out.size))
    have hbw8 : Below w.heap.size w (w7.drewN (q8 + q9)) := ⟨hbw7.os, hbw7.tape, hbw7.output, hbw7.size, hbw7.block⟩
    have HB10 := hide (hbw8.trans (hb10.mono hbw7.size))
    clear hbw7 hbw8
    clear hb10
    go_wp2_with fail
    go_ret
    exact ⟨rfl, HB10.out⟩
end Go.Proofs.Ytjhnenljmmeflaa
