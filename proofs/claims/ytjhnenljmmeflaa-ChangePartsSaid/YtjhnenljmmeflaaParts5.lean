/- The walk of standishlaw5.ChangeParts: it answers true. -/
import Derived.Test.YtjhnenljmmeflaaFitted
import Derived.Test.YtjhnenljmmeflaaRowP
import Derived.Test.YtjhnenljmmeflaaCBack
import Derived.Test.YtjhnenljmmeflaaKnown5
import Derived.Deep.LoopGhost
import Derived.Deep.CutBlock
import Derived.Deep.DeepCutAuto
namespace Go.Proofs.Ytjhnenljmmeflaa
open Go.RowKit
set_option linter.unusedVariables false

set_option maxRecDepth 100000 in
set_option maxHeartbeats 4000000 in
theorem parts5_any (S I J P : Option Addr) (k d ni ci nj cj m e' : Nat) (kk : Int) (s ia ja put : List Int) (w : World) (hS : Runes w S k s) (hI : IntsR w I ni ia) (hJ : IntsR w J nj ja) (hP : Runes w P m put)
    (hk : k + 2 ≤ 35184372088832) (hm : m + 2 ≤ 35184372088832) (hd : k ≤ d) (hd2 : d ≤ 9223372036854775807) (hd3 : m ≤ e') (hd4 : e' ≤ 9223372036854775807) (hni : ni ≤ 17592186044416) (hnj : nj ≤ 17592186044416) :
    Calls Try.prog 12 #[.slice S k d, .slice I ni ci, .slice J nj cj, .slice P m e', .int .i64 kk] w fun e w' => e = .returned (.bool true) ∧ Below w.heap.size w w' := by
  have HS := hide hS
  have HI := hide hI
  have HJ := hide hJ
  have HP := hide hP
  clear hS hI hJ hP
  go_enter Try.func12, Try.ntmps12
  go_wp2_with fail
  refine (cut_any S k d 100 _ hd hd2 (by omega)).mono ?_
  rintro e w1 ⟨rfl, rfl⟩
  go_wp2_with fail
  refine (clean_any S (min k 100) d _ _ (HS.out.take (m := min k 100) (by omega)) (by omega)).mono ?_
  rintro e w2 ⟨T, kt, dt, rfl, hT, hb2⟩
  have hlt := hT.len
  have hcapT := hT.cap
  have hmay := cleanS_may (s.take (min k 100))
  generalize ht : cleanS (s.take (min k 100)) = t at hT hlt hmay
  have hkt : kt ≤ 100 := by rw [← hlt, ← ht, cleanS_len, List.length_take]; omega
  clear ht hlt
  have HT := hide hT
  have HM := hide hmay
  have HB2 := hide hb2
  clear hT hb2 hmay
  go_wp2_with fail
  refine (cut_any P m e' 10 _ hd3 hd4 (by omega)).mono ?_
  rintro e w1 ⟨rfl, rfl⟩
  go_wp2_with fail
  refine (clean_any P (min m 10) e' _ _ ((HP.out.below HB2.out).take (m := min m 10) (by omega)) (by omega)).mono ?_
  rintro e w3 ⟨U, ku, du, rfl, hU, hb3⟩
  have hlu := hU.len
  have hcapU := hU.cap
  have hmayU := cleanS_may (put.take (min m 10))
  generalize hu : cleanS (put.take (min m 10)) = u at hU hlu hmayU
  have hku : ku ≤ 10 := by rw [← hlu, ← hu, cleanS_len, List.length_take]; omega
  clear hu hlu
  have HU := hide hU
  have HMU := hide hmayU
  have HT3 := hide (HT.out.below hb3)
  have HB3 := hide (HB2.out.trans (hb3.mono HB2.out.size))
  clear hU hb3 hmayU
  go_upto_block 0 with fail
  have HI4 := hide (HI.out.below HB3.out)
  have HJ4 := hide (HJ.out.below HB3.out)
  clear HI HJ
  go_cut [11, 12] (fun s9 s10 wx => ∃ (x n c : Nat) (O : Option Addr) (cur : List Int) (A : Option Addr) (ca : Nat) (vs : List CV) (ls : List Chg), x ≤ 12 ∧ s9 = .slice O n c ∧ s10 = .slice A x ca ∧ Own wx w.heap.size O n c cur ∧ RowC wx w3.heap.size A x ca vs ∧ Elts wx w3.heap.size vs ls ∧ Below w3.heap.size w3 wx ∧ Steps t ls cur)
  case first =>
    go_wp2_with fail
    go_loopg [11, 12, 13] 12 (fun z s9 s10 s11 wx => ∃ (x n c : Nat) (O : Option Addr) (cur : List Int) (A : Option Addr) (ca : Nat) (vs : List CV) (ls : List Chg), x ≤ 12 ∧ z = 12 - x ∧ s9 = .slice O n c ∧ s10 = .slice A x ca ∧ s11 = .int .i64 x ∧ Own wx w.heap.size O n c cur ∧ RowC wx w3.heap.size A x ca vs ∧ Elts wx w3.heap.size vs ls ∧ Below w3.heap.size w3 wx ∧ Steps t ls cur)
    case atStart => exact ⟨0, kt, dt, T, t, none, 0, [], [], by omega, rfl, rfl, rfl, rfl, HT3.out, RowC.nil _ _, Elts.nil _ _, Below.refl _ _, Steps.nil HM.out (by rw [HT3.out.len]; omega)⟩
    case round =>
      obtain ⟨x, n, c, O, cur, A, ca, vs, ls, hx, rfl, rfl, rfl, rfl, hown, hrow, hel, hbel, hst⟩ := hrel
      have hlen := hst.len
      rw [hown.len] at hlen
      have hcap := hown.cap
      have HO := hide hown
      have HR := hide hrow
      have HE := hide hel
      have HW := hide hbel
      have HST := hide hst
      clear hown hrow hel hbel hst
      have hgo : (x < ni ∧ x < nj ∧ x < 12) ∨ ¬ x < ni ∨ (x < ni ∧ ¬ x < nj) ∨ (x < ni ∧ x < nj ∧ ¬ x < 12) := by omega
      rcases hgo with ⟨h1, h2, h3⟩ | hgo
      · obtain ⟨ib, io, rfl, i0⟩ := (HI4.out.below HW.out).at_ x h1
        obtain ⟨jb, jo, rfl, j0⟩ := (HJ4.out.below HW.out).at_ x h2
        have h0 : (0 : Int) ≤ (x : Int) := by omega
        have h1' : (x : Int) < (ni : Int) := by omega
        have h2' : (x : Int) < (nj : Int) := by omega
        have h3' : (x : Int) < 12 := by omega
        have HF := hide (fun W (hb : Below wr.heap.size wr W) => fit_any O U n c ku du (nth ia x) (nth ja x) cur u W (HO.out.runes.below hb) (((HU.out.below HW.out).runes).below hb) (by omega) (by omega) hcap.1 hcap.2)
        have HLU := hide HU.out.len
        have HLC := hide HO.out.len
        obtain ⟨z1, hz1⟩ : ∃ z, nth ia x = z := ⟨_, rfl⟩
        obtain ⟨z2, hz2⟩ : ∃ z, nth ja x = z := ⟨_, rfl⟩
        rw [hz1, hz2] at HF
        rw [hz1] at i0
        rw [hz2] at j0
        clear hz1 hz2
        have hfa := fitA_le n z1
        have hfn := fitN_le n z1 z2
        generalize fitA n z1 = a at hfa hfn HF
        generalize fitN n z1 z2 = q at hfn HF
        have HMC := hide (fit_may (q := q) HST.out.may HMU.out (by rw [HLC.out]; exact hfn) HST.out.len)
        rw [HLC.out] at HMC
        have HCK := hide (show ChgOk ⟨a, (cur.drop a).take q, u.take (fitR n q)⟩ from ⟨⟨show -9223372036854775808 ≤ (a : Int) by omega, show (a : Int) ≤ 9223372036854775807 by omega⟩, by rw [List.length_take, List.length_drop, HLC.out]; omega, by rw [List.length_take, HLU.out]; omega⟩ : ChgOk ⟨a, (cur.drop a).take q, u.take (fitR n q)⟩)
        have hlc : ((cur.drop a).take q).length ≤ 1000 := by rw [List.length_take, List.length_drop, HLC.out]; omega
        have hlp : (u.take (fitR n q)).length ≤ 10 := by rw [List.length_take, HLU.out]; omega
        generalize (cur.drop a).take q = dc at HMC HCK HF hlc
        generalize u.take (fitR n q) = dp at HMC HCK HF hlp
        have L1 := World.block_lt_of_cell? wr _ i0
        have L2 := World.block_lt_of_cell? wr _ j0
        have n1 : ib ≠ wr.heap.size := by simp only at L1; omega
        have n2 : jb ≠ wr.heap.size := by simp only at L2; omega
        have n3 : wr.heap.size ≠ ib := fun e => n1 e.symm
        have n4 : wr.heap.size ≠ jb := fun e => n2 e.symm
        have HD1 := hide ((Below.refl wr.heap.size wr).drew)
        have HD2 := hide (((Below.refl wr.heap.size wr).alloc (Nat.le_refl _) (.cells #[.int .i64 0, .slice none 0 0, .slice none 0 0] 31)).drew)
        have HBX := hide ((Box.new wr 31 #[.int .i64 0, .slice none 0 0, .slice none 0 0]).drew)
        go_upto_region 8 with fail
        go_cut [14] (fun s12 wx => Fitted wr a dc dp s12 wx)
        case first =>
          go_region_held3 (fun w' => w'.cell? ⟨ib, io + x, none⟩ = some (.int .i64 z1) ∧ w'.cell? ⟨jb, jo + x, none⟩ = some (.int .i64 z2)) (first | go_keep)
            (first
             | (go_at_call 16; (with_reducible refine (HF.out _ HD1.out).mono ?_); rintro e w5 ⟨C, nC, cC, P, mP, cP, rfl, hC, hP, hap, hb5⟩; have hbw := HD1.out.trans (hb5.mono HD1.out.size); have k1 := cell_later hbw i0; have k2 := cell_later hbw j0; have sz := hbw.size; have m1 : ib ≠ w5.heap.size := (by simp only at L1; omega); have m2 : jb ≠ w5.heap.size := (by simp only at L2; omega); have m3 : w5.heap.size ≠ ib := fun e => m1 e.symm; have m4 : w5.heap.size ≠ jb := fun e => m2 e.symm)
             | (go_at_call 16; (with_reducible refine (HF.out _ HD2.out).mono ?_); rintro e w5 ⟨C, nC, cC, P, mP, cP, rfl, hC, hP, hap, hb5⟩; have hbw := HD2.out.trans (hb5.mono HD2.out.size); have k1 := cell_later hbw i0; have k2 := cell_later hbw j0; obtain ⟨⟨f0, f1, f2⟩, f3, f4, f5⟩ := (HBX.out.below hb5).c3))
          all_goals (go_wp2_with fail; go_meet)
          all_goals first | exact fitted1 hC hP hap hbw (Nat.le_refl _) | exact fitted2 hC hP hap hbw (Nat.le_refl _) (by simp) (HBX.out.below hb5) rfl
        case rest =>
          obtain ⟨g, C, nC, cC, P', mP, cP, rfl, hbx, hC, hP, hap, hbw, hg⟩ := hcut
          clear i0 j0 h1' h2' HF hfn HD1 HD2 HBX n1 n2 n3 n4 L1 L2
          have hlC := hC.len
          have hlP := hP.len
          have hO := HO.out.below hbw
          have HLA := hide (show (appS cur a dc dp).length + dc.length = cur.length + dp.length from app_len (x := ⟨a, dc, dp⟩) HMC.out)
          rw [HLC.out, hlC, hlP] at HLA
          have happ : appE cur a dc dp = 0 := by unfold appE; rw [HMC.out]; rfl
          obtain ⟨nx, hnx⟩ : ∃ nx, appS cur a dc dp = nx := ⟨_, rfl⟩
          have HST2 := hide (show Steps t (ls ++ [⟨a, dc, dp⟩]) (appS cur a dc dp) from HST.out.step (x := ⟨a, dc, dp⟩) HMC.out)
          have hap1 := fun (W : World) (h1 : Runes W O n cur) (h2 : Runes W C nC dc) (h3 : Runes W P' mP dp) => rapply_any O n c a C P' nC cC mP cP cur dc dp W h1 h2 h3 (by omega) (by omega) (by omega) hcap.1 hcap.2
          rw [happ, hnx] at hap1
          rw [hnx] at HLA HST2
          have HA1 := hide hap1
          have HRA := hide HR.out.blk_ge
          have HBX := hide hbx
          have HO1 := hide hO
          have HC := hide hC
          have HP' := hide hP
          have HAP := hide hap
          have HW1 := hide hbw
          clear hbx hO hC hP hap hbw hap1 happ hnx
          obtain ⟨⟨f0, f1, f2⟩, _⟩ := HBX.out.c3
          have hszw : w3.heap.size ≤ wc.heap.size := by have := HW.out.size; have := HW1.out.size; omega
          have HRW := hide (HR.out.below HW1.out)
          have HEW := hide (HE.out.below HW1.out)
          have HEL := hide (show EltO wc w3.heap.size ⟨a, C, nC, cC, P', mP, cP⟩ ⟨a, dc, dp⟩ from ⟨rfl, HC.out.mono HW.out.size, HP'.out.mono HW.out.size, HAP.out, HCK.out⟩)
          have HBW := hide (HW.out.trans (HW1.out.mono HW.out.size))
          go_wp2_with (at_builtin
                       refine wpList_appC rfl (.tmp 56) (.tmp 58) rfl w3.heap.size rfl (HRW.out.alloc _) (v := ⟨a, C, nC, cC, P', mP, cP⟩) rfl (Box.new _ _ _) (by omega) (by simp; omega) ?_
                       intro g2 c3 w7 hrow2 hg2 hb2 hat2
                       have hbx7 := (HBX.out.alloc (.cells #[.int .i64 a, .slice C nC cC, .slice P' mP cP] 31)).grown hg2 (fun e => by have := (HRA.out _ e.symm).2; omega)
                       obtain ⟨⟨e0, e1, e2⟩, _⟩ := hbx7.c3)
          have hrow1 := HRW.out.alloc (.cells #[.int .i64 a, .slice C nC cC, .slice P' mP cP] 31)
          have hel7 := (HEL.out.alloc _).row hrow1 hg2
          have HE2 := hide ((HEW.out.alloc _).row hrow1 hg2 |>.app (Elts.one hel7))
          have HO7 := hide ((HO1.out.alloc (.cells #[.int .i64 a, .slice C nC cC, .slice P' mP cP] 31)).kept hg2 (own_ne_row (HO1.out.alloc _) hrow1))
          have HR2 := hide hrow2
          have HB7 := hide ((HBW.out.alloc hszw _).trans hb2)
          have HA7 := hide (HA1.out _ HO7.out.runes hel7.cut.runes hel7.put.runes)
          clear hrow1 hrow2 hg2 hb2 hel7 hat2 hbx7
          refine HA7.out.mono ?_
          rintro e w8 ⟨O2, n2, c2, rfl, ho2, hb8⟩
          have HO8 := hide (ho2.mono (B' := w.heap.size) (by have := HB7.out.size; have := HB3.out.size; omega))
          have HR8 := hide (HR2.out.below hb8)
          have HE8 := hide (HE2.out.below hb8)
          have HB8 := hide (HB7.out.trans (hb8.mono HB7.out.size))
          clear ho2 hb8
          go_wp2_with fail
          go_roundg (12 - (x + 1))
          case measure => omega
          case rel => exact ⟨x + 1, n2, c2, O2, nx, _, c3, _, _, by omega, rfl, rfl, rfl, by go_num, HO8.out, HR8.out, HE8.out, HB8.out, HST2.out⟩
      · rcases hgo with hgo | hgo | hgo
        all_goals (go_wp2_with fail; go_meet; exact ⟨x, n, c, O, cur, A, ca, vs, ls, hx, rfl, rfl, HO.out, HR.out, HE.out, HW.out, HST.out⟩)
  case rest =>
    obtain ⟨x, n, c, O, cur, A, ca, vs, ls, hx, rfl, rfl, hown, hrow, hel, hbel, hst⟩ := hcut
    have hcapA := hrow.cap
    have HCH := hide (hel.chgs hrow)
    have HW := hide hbel
    have HST := hide hst
    clear hown hrow hel hbel hst
    have HIX := hide (index_any kk ((x : Int) + 1) wc (by omega) (by omega))
    have hy := idxN_lt (k := kk) (n := ((x : Int) + 1).toNat) (by omega)
    generalize idxN kk ((x : Int) + 1).toNat = y at hy HIX
    have hyx : y ≤ x := by omega
    clear hy
    have hs1 := run_subC_h A x ca y (by omega)
    have hs2 := run_subC_l A x ca y hyx
    obtain ⟨hz, hsp⟩ := rowS_split HST.out.row y
    have hzl := rowS_len t (ls.take y)
    have HP1 := hide (show rowS t (ls.take y) = ((rowS t (ls.take y)).1, 0) from Prod.ext rfl hz)
    obtain ⟨a1, ha1⟩ : ∃ a1, (rowS t (ls.take y)).1 = a1 := ⟨_, rfl⟩
    rw [ha1] at hsp hzl HP1
    have HP2 := hide hsp
    have hl1 : a1.length ≤ 1000 := by have := HT3.out.len; omega
    clear hz hsp ha1 hzl
    have hr1 := crow_any T A kt dt y ca (vget vs) t (ls.take y) wc (HT3.out.below HW.out).runes (HCH.out.take hyx) (by omega) (by omega)
    rw [HP1.out] at hr1
    have HR1 := hide hr1
    clear hr1
    go_wp2_with fail
    refine HIX.out.mono ?_
    rintro e w4 ⟨rfl, rfl⟩
    go_wp2_with fail
    refine HR1.out.mono ?_
    rintro e w5 ⟨O5, n5, c5, rfl, ho5, hb5⟩
    have hn5 := ho5.len
    have HO5 := hide ho5
    have HB5 := hide hb5
    have HC5 := hide (HCH.out.below hb5)
    clear ho5 hb5
    have hr2 := crow_any O5 (subC A ca y) n5 c5 (x - y) (ca - y) (fun j => vget vs (y + j)) a1 (ls.drop y) w5 HO5.out.runes (HC5.out.sub hyx hcapA.1) (by omega) (by omega)
    rw [HP2.out] at hr2
    have HR2 := hide hr2
    clear hr2 hn5
    go_wp2_with fail
    refine HR2.out.mono ?_
    rintro e w6 ⟨O6, n6, c6, rfl, ho6, hb6⟩
    have hn6 : n6 = cur.length := ho6.len.symm
    have hcl := HST.out.len
    have HO6 := hide ho6
    have HB6 := hide (HB5.out.trans (hb6.mono HB5.out.size))
    clear ho6 hb6
    have hr3 := crow_any T A kt dt x ca (vget vs) t ls w6 (HT3.out.below (HW.out.trans (HB6.out.mono HW.out.size))).runes (HCH.out.below HB6.out) (by omega) (by omega)
    rw [HST.out.row] at hr3
    have HR3 := hide hr3
    have HN6 := hide hn6
    clear hr3 hn6
    go_wp2_with fail
    refine HR3.out.mono ?_
    rintro e w7 ⟨O7, n7, c7, rfl, ho7, hb7⟩
    obtain rfl : n7 = n6 := by rw [HN6.out]; exact ho7.len.symm
    have HO7 := hide ho7
    have HO67 := hide (HO6.out.below hb7)
    have HB7 := hide (HB6.out.trans (hb7.mono HB6.out.size))
    have HC7 := hide (HCH.out.below HB7.out)
    have hn7 : n7 ≤ 1000 := by rw [HN6.out]; exact hcl
    clear ho7 hb7 hcl
    have HK1 := hide (fun (W : World) (hb : Below w7.heap.size w7 W) => cback_any (subC A ca y) (x - y) (ca - y) (fun j => vget vs (y + j)) (ls.drop y) W ((HC7.out.sub hyx hcapA.1).below hb) (by omega))
    have HK2 := hide (fun (W : World) (hb : Below w7.heap.size w7 W) => cback_any A y ca (vget vs) (ls.take y) W ((HC7.out.take hyx).below hb) (by omega))
    have HLD := hide (show (backC (ls.drop y)).length = x - y by rw [backC_len, List.length_drop, HCH.out.len])
    have HLT := hide (show (backC (ls.take y)).length = y by rw [backC_len, List.length_take, HCH.out.len]; omega)
    have HD0 := hide ((Below.refl w7.heap.size w7).drew)
    have HS1 := hide (fun (W : World) (hb : Below w7.drew.heap.size w7.drew W) => show w7.heap.size ≤ W.heap.size from hb.size)
    have HN1 := hide (show ∀ (W : World) (A : Option Addr) (B n c : Nat) (us : List CV), RowC W B A n c us → Elts W B us (backC (ls.drop y)) → n ≤ 2513167470000 from fun W A B n c us hr he => by have := hr.len; have := he.len; have := HLD.out; omega)
    have HN2 := hide (show ∀ (W W' : World) (A A' : Option Addr) (B B' n c n' c' : Nat) (us us' : List CV), RowC W B A n c us → Elts W B us (backC (ls.drop y)) → RowC W' B' A' n' c' us' → Elts W' B' us' (backC (ls.take y)) → n + n' ≤ 2513167470000 from fun W W' A A' B B' n c n' c' us us' hr he hr' he' => by have := hr.len; have := he.len; have := HLD.out; have := hr'.len; have := he'.len; have := HLT.out; omega)
    go_upto_region 15 with fail
    go_cut [21] (fun s21 wx => ∃ (A' : Option Addr) (n' c' : Nat) (vs' : List CV), s21 = .slice A' n' c' ∧ n' = x ∧ RowC wx w7.heap.size A' n' c' vs' ∧ Elts wx w7.heap.size vs' (backC ls) ∧ Below w7.heap.size w7 wx)
    case first =>
      go_region_held3 (fun _ => True) (first | trivial | go_keep)
        (first
         | (go_at_call 44; (with_reducible refine (HK1.out _ HD0.out).mono ?_); rintro e w8 ⟨A1, n1, c1, vs1, rfl, hr1, he1, hb1⟩)
         | (go_at_call 44; (with_reducible refine (HK2.out _ (HD0.out.trans (hb1.mono HD0.out.size))).mono ?_); rintro e w10 ⟨A3, n3, c3, vs3, rfl, hr3, he3, hb3⟩)
         | (go_at_call 44; (with_reducible refine (HK2.out _ ((HD0.out.trans (hb1.mono HD0.out.size)).trans hb2)).mono ?_); rintro e w10 ⟨A3, n3, c3, vs3, rfl, hr3, he3, hb3⟩)
         | (refine step_appR0 (by rfl) (.const (.slice none 0 0)) (.tmp 96) (by rfl) w7.heap.size (by rfl) (by rfl) hr1 (HN1.out _ _ _ _ _ _ hr1 he1) (HS1.out _ hb1) ?_; intro A2 c2 w9 hr2 hg2 hb2 hat2)
         | (refine step_appR0 (by rfl) (.const (.slice none 0 0)) (.tmp 96) (by rfl) w7.heap.size (by rfl) (by rfl) (hr1.below hb3) (HN1.out _ _ _ _ _ _ hr1 he1) (Nat.le_trans (HS1.out _ hb1) hb3.size) ?_; intro A2 c2 w9 hr2 hg2 hb2 hat2)
         | (refine step_appR (by rfl) (.tmp 97) (.tmp 101) (by rfl) w7.heap.size (by rfl) (hr2.below hb3) (by rfl) hr3 (HN2.out _ _ _ _ _ _ _ _ _ _ _ _ hr1 he1 hr3 he3) (Nat.le_trans (HS1.out _ hb1) (Nat.le_trans hb2.size hb3.size)) ?_; intro A4 c4 w11 hr4 hg4 hb4 hat4)
         | (refine step_appR (by rfl) (.tmp 97) (.tmp 101) (by rfl) w7.heap.size (by rfl) hr2 (by rfl) (hr3.kept hg2 (Classical.em _)) (HN2.out _ _ _ _ _ _ _ _ _ _ _ _ hr1 he1 hr3 he3) (Nat.le_trans (HS1.out _ hb1) (Nat.le_trans hb3.size hb2.size)) ?_; intro A4 c4 w11 hr4 hg4 hb4 hat4))
      all_goals (go_wp2_with fail; go_meet)
      all_goals have e1 := hr1.len
      all_goals have e2 := he1.len
      all_goals have e3 := HLD.out
      all_goals have e4 := hr3.len
      all_goals have e5 := he3.len
      all_goals have e6 := HLT.out
      all_goals have hsz8 := HS1.out _ hb1
      all_goals have hs3 := hb3.size
      all_goals have hs2 := hb2.size
      all_goals first
        | exact ⟨A4, n1 + n3, c4, vs1 ++ vs3, rfl, by omega, hr4, by
            have h := ((((he1.mono (B' := w7.heap.size) (Nat.le_refl _)).row (RowC.nil w8 w7.heap.size) hg2).below hb3).row (hr2.below hb3) hg4).app ((he3.mono (B' := w7.heap.size) (Nat.le_trans hsz8 hs2)).row (hr2.below hb3) hg4)
            rwa [backC_split] at h, (((HD0.out.trans (hb1.mono (Nat.le_refl _))).trans hb2).trans (hb3.mono (Nat.le_trans hsz8 hs2))).trans hb4⟩
        | exact ⟨A4, n1 + n3, c4, vs1 ++ vs3, rfl, by omega, hr4, by
            have h := ((((he1.mono (B' := w7.heap.size) (Nat.le_refl _)).below hb3).row (RowC.nil w10 w7.heap.size) hg2).row hr2 hg4).app (((he3.mono (B' := w7.heap.size) hsz8).row (RowC.nil w10 w7.heap.size) hg2).row hr2 hg4)
            rwa [backC_split] at h, (((HD0.out.trans (hb1.mono (Nat.le_refl _))).trans (hb3.mono hsz8)).trans hb2).trans hb4⟩
    case rest =>
      obtain ⟨A', n', c', vs', rfl, hnx, hrow, hel, hbel⟩ := hcut
      subst hnx
      have HCB := hide (hel.chgs hrow)
      have HBC := hide hbel
      clear hrow hel hbel hs1 hs2
      go_wp2_with fail
      refine (refSame_any O6 O7 n7 c6 n7 c7 cur cur _ (HO67.out.below HBC.out).runes (HO7.out.below HBC.out).runes (by omega) (by omega)).mono ?_
      rintro e w8 ⟨rfl, q8, rfl⟩
      rw [show sameS cur cur = true by simp [sameS]]
      have hbq : Below w7.heap.size w7 (wc.drewN q8) := below_drewN HBC.out q8
      have hbc : Below wc.heap.size wc (wc.drewN q8) := below_drewN (Below.refl _ _) q8
      have HBQ := hide hbq
      have HBD := hide hbc
      clear hbq hbc
      go_wp2_with fail
      refine (cback_any A n' ca (vget vs) ls _ (HC7.out.below HBQ.out) (by omega)).mono ?_
      rintro e w9 ⟨A9, n9, c9, vs9, rfl, hrow9, hel9, hb9⟩
      have hn9 : n9 = n' := by rw [← hrow9.len, ← hel9.len, backC_len, HC7.out.len]
      subst hn9
      have HC9 := hide (hel9.chgs hrow9)
      have HB9 := hide (HBQ.out.trans (hb9.mono HBQ.out.size))
      have HCB9 := hide ((HCB.out.below HBD.out).below hb9)
      clear hrow9 hel9 hb9
      go_wp2_with fail
      refine (sameChanges_yes A9 A' n9 c9 n9 c' (vget vs9) (vget vs') (backC ls) w9 HC9.out HCB9.out (by omega)).mono ?_
      rintro e w10 ⟨rfl, hb10⟩
      have HB10 := hide (HB9.out.trans (hb10.mono HB9.out.size))
      clear hb10
      go_wp2_with fail
      refine (known5_any _).mono ?_
      rintro e w11 ⟨rfl, hb11⟩
      have HB11 := hide (HB10.out.trans (hb11.mono HB10.out.size))
      clear hb11
      go_wp2_with fail
      go_ret
      exact ⟨rfl, (HB3.out.trans (HW.out.mono HB3.out.size)).trans ((HB7.out.trans (HB11.out.mono HB7.out.size)).mono (Nat.le_trans HB3.out.size HW.out.size))⟩
end Go.Proofs.Ytjhnenljmmeflaa
