/- The walk of standishlaw5.ChangeRows: it answers true. -/
import Derived.Test.YtjhnenljmmeflaaFitted
import Derived.Test.YtjhnenljmmeflaaRowP
import Derived.Test.YtjhnenljmmeflaaCBack
import Derived.Test.YtjhnenljmmeflaaKnown5
import Derived.Deep.LoopGhost
import Derived.Deep.CutBlock
import Derived.Deep.DeepCutAuto
namespace Go.Proofs.Ytjhnenljmmeflaa
open Go.RowKit
set_option linter.unusedVariables false

theorem RowC.far_own {w w' : World} {B B' n c n' c' : Nat} {A C : Option Addr} {vs : List CV} {t : List Int} (k : RowC w B A n c vs) (h : Own w B' C n' c' t) (hg : w.grownBy w' (blk C)) : RowC w' B A n c vs :=
  k.kept hg (by
    rcases own_ne_row h k with e | e
    · rcases hA : blk A with _ | g
      · exact .inl rfl
      · rw [e]; exact .inr (by simp)
    · exact .inr fun e2 => e e2.symm)
theorem Apart.kept_ok {A B : Option Addr} (h : Apart A B) : blk B = none ∨ blk B ≠ blk A := by
  rcases hB : blk B with _ | g
  · exact .inl rfl
  · exact .inr fun e => h g e.symm hB
/-- A change is written over: the others are as they were. -/
theorem spoil_rest {w w1 w2 : World} {B n c : Nat} {A : Option Addr} {vs : List CV} {x : Nat} {v : CV} {y : Chg} {o : Obj} (hAp : Ap vs) (hv : vs[x]? = some v) (hy : EltO w B v y) (hg1 : (w.alloc o).grownBy w1 (blk v.C)) (hg2 : w1.grownBy w2 (blk v.P))
    (hrow : RowC w B A n c vs) (he : ∀ (j : Nat) (u : CV), x ≤ j → vs[j]? = some u → ∃ z, EltO w B u z) : RowC w2 B A n c vs ∧ ∀ (j : Nat) (u : CV), x + 1 ≤ j → vs[j]? = some u → ∃ z, EltO w2 B u z := by
  have hP1 : Own w1 B v.P v.m v.d y.put := (hy.put.alloc o).kept hg1 hy.ap.kept_ok
  refine ⟨((hrow.alloc o).far_own (hy.cut.alloc o) hg1).far_own hP1 hg2, fun j u hj hu => ?_⟩
  obtain ⟨z, hz⟩ := he j u (by omega) hu
  obtain ⟨a1, a2, a3, a4⟩ := hAp x j v u hv hu (by omega)
  exact ⟨z, hz.at_, ((hz.cut.alloc o).kept hg1 a1.kept_ok).kept hg2 a3.kept_ok, ((hz.put.alloc o).kept hg1 a2.kept_ok).kept hg2 a4.kept_ok, hz.ap, hz.ok⟩

set_option maxRecDepth 100000 in
set_option maxHeartbeats 4000000 in
theorem rows5_any (S A : Option Addr) (k d n c : Nat) (us : Nat → CV) (fit : Bool) (s : List Int) (l : List Chg) (w : World) (hS : Runes w S k s) (hA : Chgs w A n us l)
    (hk : k + 2 ≤ 35184372088832) (hd : k ≤ d) (hd2 : d ≤ 9223372036854775807) (hn : n ≤ c) (hc : c ≤ 9223372036854775807) (hcaps : ∀ j, j < n → (us j).m ≤ (us j).d ∧ (us j).d ≤ 9223372036854775807) :
    Calls Try.prog 10 #[.slice S k d, .slice A n c, .bool fit] w fun e w' => e = .returned (.bool true) ∧ Below w.heap.size w w' := by
  obtain ⟨N, hN⟩ : ∃ N, min n 20 = N := ⟨_, rfl⟩
  have hN20 : N ≤ 20 := by omega
  have hNn : N ≤ n := by omega
  have hNr : N = n ∨ (20 < n ∧ N = 20) := by omega
  have HS := hide hS
  have HA := hide (hA.take (m := N) hNn)
  have HCP := hide hcaps
  clear hS hA hcaps hN
  go_enter Try.func10, Try.ntmps10
  go_upto_if 21 with fail
  go_cut [1] (fun s1 wx => s1 = .slice A N c ∧ wx = w)
  case first =>
    rcases hNr with rfl | ⟨h1, rfl⟩
    · go_wp2_with fail
      go_meet
      exact ⟨rfl, rfl⟩
    · have hs1 := run_subC_h A n c 20 (by omega)
      go_wp2_with fail
      go_meet
      exact ⟨rfl, rfl⟩
  case rest =>
    obtain ⟨rfl, hwc⟩ := hcut
    obtain rfl : w = wc := hwc.symm
    go_upto_if 24 with fail
    go_cut [0, 1] (fun s0 s1 wx => ∃ (S' : Option Addr) (k' d' : Nat) (s' : List Int) (A' : Option Addr) (n' c' : Nat) (us' : Nat → CV) (l' : List Chg), s0 = .slice S' k' d' ∧ s1 = .slice A' n' c' ∧ Runes wx S' k' s' ∧ Chgs wx A' n' us' l' ∧ k' + 2 ≤ 35184372088832 ∧ n' ≤ 20 ∧ Below w.heap.size w wx)
    case first =>
      cases fit
      case false =>
        go_wp2_with fail
        go_meet
        exact ⟨S, k, d, s, A, N, c, us, _, rfl, rfl, HS.out, HA.out, hk, hN20, Below.refl _ _⟩
      case true =>
        go_wp2_with fail
        refine (cut_any S k d 200 _ hd hd2 (by omega)).mono ?_
        rintro e w1 ⟨rfl, rfl⟩
        go_wp2_with fail
        refine (clean_any S (min k 200) d _ _ (HS.out.take (m := min k 200) (by omega)) (by omega)).mono ?_
        rintro e w2 ⟨T, kt, dt, rfl, hT, hb2⟩
        have hlt := hT.len
        have hcapT := hT.cap
        have hmay := cleanS_may (s.take (min k 200))
        generalize ht : cleanS (s.take (min k 200)) = t at hT hlt hmay
        have hkt : kt ≤ 200 := by rw [← hlt, ← ht, cleanS_len, List.length_take]; omega
        clear ht hlt
        have HT := hide hT
        have HM := hide hmay
        have HB2 := hide hb2
        have HA2 := hide (HA.out.below hb2)
        clear hT hb2 hmay
        go_wp2_with fail
        go_loopg [7, 8, 31] N (fun z s7 s8 s31 wx => ∃ (x nc cc : Nat) (O : Option Addr) (cur : List Int) (A1 : Option Addr) (ca : Nat) (vs : List CV) (ls : List Chg), x ≤ N ∧ z = N - x ∧ s7 = .slice O nc cc ∧ s8 = .slice A1 x ca ∧ s31 = .int .i64 x ∧ Own wx w.heap.size O nc cc cur ∧ RowC wx w2.heap.size A1 x ca vs ∧ Elts wx w2.heap.size vs ls ∧ Below w2.heap.size w2 wx ∧ Steps t ls cur)
        case atStart => exact ⟨0, kt, dt, T, t, none, 0, [], [], by omega, rfl, rfl, rfl, rfl, HT.out, RowC.nil _ _, Elts.nil _ _, Below.refl _ _, Steps.nil HM.out (by rw [HT.out.len]; omega)⟩
        case round =>
          obtain ⟨x, nc, cc, O, cur, A1, ca, vs, ls, hx, rfl, rfl, rfl, rfl, hown, hrow, hel, hbel, hst⟩ := hrel
          have hlen := hst.len
          rw [hown.len] at hlen
          have hcap := hown.cap
          have HO := hide hown
          have HR := hide hrow
          have HE := hide hel
          have HW := hide hbel
          have HST := hide hst
          clear hown hrow hel hbel hst
          by_cases hxN : x < N
          · obtain ⟨ab, ao, rfl, i0, i1, i2⟩ := (HA2.out.below HW.out).at_ x hxN
            obtain ⟨y, hy1, hy⟩ := (HA2.out.below HW.out).rd x hxN
            have hcp := HCP.out x (by omega)
            have h0 : (0 : Int) ≤ (x : Int) := by omega
            have h1' : (x : Int) < (N : Int) := by omega
            have hok := hy.ok
            have hCL := hy.cut.len
            have hPL := hy.put.len
            obtain ⟨z1, hz1⟩ : ∃ z, (us x).at_ = z := ⟨_, rfl⟩
            rw [hz1] at i0
            obtain ⟨C0, hC0⟩ : ∃ z, (us x).C = z := ⟨_, rfl⟩
            obtain ⟨P0, hP0⟩ : ∃ z, (us x).P = z := ⟨_, rfl⟩
            obtain ⟨n0, hn0⟩ : ∃ z, (us x).n = z := ⟨_, rfl⟩
            obtain ⟨m0, hm0⟩ : ∃ z, (us x).m = z := ⟨_, rfl⟩
            obtain ⟨c0, hc0⟩ : ∃ z, (us x).c = z := ⟨_, rfl⟩
            obtain ⟨d0, hd0⟩ : ∃ z, (us x).d = z := ⟨_, rfl⟩
            have HPR := hide hy.put
            rw [hC0, hn0, hc0] at i1
            rw [hP0, hm0, hd0] at i2
            rw [hP0, hm0] at HPR
            rw [hm0, hd0] at hcp
            rw [hn0] at hCL
            rw [hm0] at hPL
            have hn0b : n0 ≤ 35184372087808 := by have := hok.2.1; omega
            have hm0b : m0 ≤ 35184372087808 := by have := hok.2.2; omega
            clear hz1 hC0 hP0 hn0 hm0 hc0 hd0 hok hCL hPL hy hy1
            have HCU := hide (fun W => cut_any P0 m0 d0 30 W hcp.1 hcp.2 (by omega))
            have HCN := hide (fun W (hb : Below wr.heap.size wr W) => clean_any P0 (min m0 30) d0 _ W ((HPR.out.below hb).take (m := min m0 30) (by omega)) (by omega))
            have HMU := hide (cleanS_may (y.put.take (min m0 30)))
            have hul : (cleanS (y.put.take (min m0 30))).length ≤ 30 := by rw [cleanS_len, List.length_take]; omega
            generalize cleanS (y.put.take (min m0 30)) = u at HCN HMU hul
            clear HPR
            have HLC := hide HO.out.len
            have hfa := fitA_le nc z1
            have hfn := fitN_le nc z1 n0
            have HF := hide (fun (U : Option Addr) (ku du : Nat) W (hb : Below wr.heap.size wr W) (hU : Runes W U ku u) (hku : ku ≤ 30) => fit_any O U nc cc ku du z1 n0 cur u W (HO.out.runes.below hb) hU (by omega) (by omega) hcap.1 hcap.2)
            generalize fitA nc z1 = a at hfa hfn HF
            generalize fitN nc z1 n0 = q at hfn HF
            have HMC := hide (fit_may (q := q) HST.out.may HMU.out (by rw [HLC.out]; exact hfn) HST.out.len)
            rw [HLC.out] at HMC
            have HCK := hide (show ChgOk ⟨a, (cur.drop a).take q, u.take (fitR nc q)⟩ from ⟨⟨show -9223372036854775808 ≤ (a : Int) by omega, show (a : Int) ≤ 9223372036854775807 by omega⟩, by rw [List.length_take, List.length_drop, HLC.out]; omega, by rw [List.length_take]; omega⟩)
            have hlc : ((cur.drop a).take q).length ≤ 1000 := by rw [List.length_take, List.length_drop, HLC.out]; omega
            have hlp : (u.take (fitR nc q)).length ≤ 30 := by rw [List.length_take]; omega
            generalize (cur.drop a).take q = dc at HMC HCK HF hlc
            generalize u.take (fitR nc q) = dp at HMC HCK HF hlp
            have L1 : ab < wr.heap.size := World.block_lt_of_cell? wr _ i0
            have n1 : ab ≠ wr.heap.size := by omega
            have n3 : wr.heap.size ≠ ab := fun e => n1 e.symm
            have HD1 := hide ((Below.refl wr.heap.size wr).drew)
            have HD2 := hide (((Below.refl wr.heap.size wr).alloc (Nat.le_refl _) (.cells #[.int .i64 0, .slice none 0 0, .slice none 0 0] 31)).drew)
            have HBX := hide ((Box.new wr 31 #[.int .i64 0, .slice none 0 0, .slice none 0 0]).drew)
            have HUL := hide hul
            clear hul
            go_upto_region 10 with fail
            go_cut [10] (fun s10 wx => Fitted wr a dc dp s10 wx)
            case first =>
              go_region_held3 (fun w' => w'.cell? ⟨ab, ao + x * 3, none⟩ = some (.int .i64 z1) ∧ w'.cell? ⟨ab, ao + x * 3 + 1, none⟩ = some (.slice C0 n0 c0) ∧ w'.cell? ⟨ab, ao + x * 3 + 2, none⟩ = some (.slice P0 m0 d0)) (first | go_keep)
                (first
                 | (go_at_call 14; (refine (HCU.out _).mono ?_); rintro e w9 ⟨rfl, rfl⟩)
                 | (go_at_call 13; (with_reducible refine (HCN.out _ HD1.out).mono ?_); rintro e w5 ⟨U, ku, du, rfl, hU, hb5⟩; have hbw := HD1.out.trans (hb5.mono HD1.out.size); have k1 := cell_later hbw i0; have k2 := cell_later hbw i1; have k3 := cell_later hbw i2; have sz := hbw.size; have m1 : ab ≠ w5.heap.size := (by omega); have m3 : w5.heap.size ≠ ab := fun e => m1 e.symm)
                 | (go_at_call 13; (with_reducible refine (HCN.out _ HD2.out).mono ?_); rintro e w5 ⟨U, ku, du, rfl, hU, hb5⟩; have hbw := HD2.out.trans (hb5.mono HD2.out.size); have k1 := cell_later hbw i0; have k2 := cell_later hbw i1; have k3 := cell_later hbw i2; have sz := hbw.size; have hBX5 := HBX.out.below hb5)
                 | (go_at_call 16; (with_reducible refine (HF.out U ku du _ hbw hU.runes (by rw [← hU.len]; exact HUL.out)).mono ?_); rintro e w6 ⟨C, nC, cC, P, mP, cP, rfl, hC, hP, hap, hb6⟩; have hbw6 := hbw.trans (hb6.mono hbw.size); have k4 := cell_later hbw6 i0; have k5 := cell_later hbw6 i1; have k6 := cell_later hbw6 i2; obtain ⟨⟨f0, f1, f2⟩, f3, f4, f5⟩ := (hBX5.below hb6).c3)
                 | (go_at_call 16; (with_reducible refine (HF.out U ku du _ hbw hU.runes (by rw [← hU.len]; exact HUL.out)).mono ?_); rintro e w6 ⟨C, nC, cC, P, mP, cP, rfl, hC, hP, hap, hb6⟩; have hbw6 := hbw.trans (hb6.mono hbw.size); have k4 := cell_later hbw6 i0; have k5 := cell_later hbw6 i1; have k6 := cell_later hbw6 i2; have sz6 := hbw6.size; have m4 : ab ≠ w6.heap.size := (by omega); have m5 : w6.heap.size ≠ ab := fun e => m4 e.symm)
                 | (go_at_call 16; (with_reducible refine (HF.out U ku du _ (hbw.alloc sz (.cells #[.int .i64 0, .slice none 0 0, .slice none 0 0] 31)) (hU.runes.alloc _) (by rw [← hU.len]; exact HUL.out)).mono ?_); rintro e w6 ⟨C, nC, cC, P, mP, cP, rfl, hC, hP, hap, hb6⟩; have hbw6 := (hbw.alloc sz (.cells #[.int .i64 0, .slice none 0 0, .slice none 0 0] 31)).trans (hb6.mono (by simp; omega)); have k4 := cell_later hbw6 i0; have k5 := cell_later hbw6 i1; have k6 := cell_later hbw6 i2; have hBX5 := Box.new w5 31 #[.int .i64 0, .slice none 0 0, .slice none 0 0]; obtain ⟨⟨f0, f1, f2⟩, f3, f4, f5⟩ := (hBX5.below hb6).c3))
              all_goals (go_wp2_with fail; go_meet)
              all_goals first
                | exact fitted1 hC hP hap hbw6 hbw.size
                | exact fitted2 hC hP hap hbw6 (Nat.le_refl _) (by have := hb5.size; simpa using this) (hBX5.below hb6) rfl
                | exact fitted2 hC hP hap hbw6 hbw.size (by simp) (hBX5.below hb6) rfl
            case rest =>
              obtain ⟨g, C, nC, cC, P', mP, cP, rfl, hbx, hC, hP, hap, hbw, hg⟩ := hcut
              clear i0 i1 i2 h1' HF hfn HD1 HD2 HBX n1 n3 L1 HCN HCU
              have hlC := hC.len
              have hlP := hP.len
              have hO := HO.out.below hbw
              have happ : appE cur a dc dp = 0 := by unfold appE; rw [HMC.out]; rfl
              obtain ⟨nx, hnx⟩ : ∃ nx, appS cur a dc dp = nx := ⟨_, rfl⟩
              have HST2 := hide (show Steps t (ls ++ [⟨a, dc, dp⟩]) (appS cur a dc dp) from HST.out.step (x := ⟨a, dc, dp⟩) HMC.out)
              have hap1 := fun (W : World) (h1 : Runes W O nc cur) (h2 : Runes W C nC dc) (h3 : Runes W P' mP dp) => rapply_any O nc cc a C P' nC cC mP cP cur dc dp W h1 h2 h3 (by omega) (by omega) (by omega) hcap.1 hcap.2
              rw [happ, hnx] at hap1
              rw [hnx] at HST2
              have HA1 := hide hap1
              have HRA := hide HR.out.blk_ge
              have HBX := hide hbx
              have HO1 := hide hO
              have HC := hide hC
              have HP' := hide hP
              have HAP := hide hap
              have HW1 := hide hbw
              clear hbx hO hC hP hap hbw hap1 happ hnx
              obtain ⟨⟨f0, f1, f2⟩, _⟩ := HBX.out.c3
              have hszw : w2.heap.size ≤ wc.heap.size := by have := HW.out.size; have := HW1.out.size; omega
              have HRW := hide (HR.out.below HW1.out)
              have HEW := hide (HE.out.below HW1.out)
              have HEL := hide (show EltO wc w2.heap.size ⟨a, C, nC, cC, P', mP, cP⟩ ⟨a, dc, dp⟩ from ⟨rfl, HC.out.mono HW.out.size, HP'.out.mono HW.out.size, HAP.out, HCK.out⟩)
              have HBW := hide (HW.out.trans (HW1.out.mono HW.out.size))
              go_wp2_with (at_builtin
                           refine wpList_appC rfl (.tmp 54) (.tmp 56) rfl w2.heap.size rfl (HRW.out.alloc _) (v := ⟨a, C, nC, cC, P', mP, cP⟩) rfl (Box.new _ _ _) (by omega) (by simp; omega) ?_
                           intro g2 c3 w7 hrow2 hg2 hb2 hat2
                           have hbx7 := (HBX.out.alloc (.cells #[.int .i64 a, .slice C nC cC, .slice P' mP cP] 31)).grown hg2 (fun e => by have := (HRA.out _ e.symm).2; omega)
                           obtain ⟨⟨e0, e1, e2⟩, _⟩ := hbx7.c3)
              have hrow1 := HRW.out.alloc (.cells #[.int .i64 a, .slice C nC cC, .slice P' mP cP] 31)
              have hel7 := (HEL.out.alloc _).row hrow1 hg2
              have HE2 := hide ((HEW.out.alloc _).row hrow1 hg2 |>.app (Elts.one hel7))
              have HO7 := hide ((HO1.out.alloc (.cells #[.int .i64 a, .slice C nC cC, .slice P' mP cP] 31)).kept hg2 (own_ne_row (HO1.out.alloc _) hrow1))
              have HR2 := hide hrow2
              have HB7 := hide ((HBW.out.alloc hszw _).trans hb2)
              have HA7 := hide (HA1.out _ HO7.out.runes hel7.cut.runes hel7.put.runes)
              clear hrow1 hrow2 hg2 hb2 hel7 hat2 hbx7
              refine HA7.out.mono ?_
              rintro e w8 ⟨O2, n2, c2, rfl, ho2, hb8⟩
              have HO8 := hide (ho2.mono (B' := w.heap.size) (by have := HB7.out.size; have := HB2.out.size; omega))
              have HR8 := hide (HR2.out.below hb8)
              have HE8 := hide (HE2.out.below hb8)
              have HB8 := hide (HB7.out.trans (hb8.mono HB7.out.size))
              clear ho2 hb8
              go_wp2_with fail
              go_roundg (N - (x + 1))
              case measure => omega
              case rel => exact ⟨x + 1, n2, c2, O2, nx, _, c3, _, _, by omega, rfl, rfl, rfl, by go_num, HO8.out, HR8.out, HE8.out, HB8.out, HST2.out⟩
          · obtain rfl : x = N := by omega
            have HCH := hide (HE.out.chgs HR.out)
            go_wp2_with fail
            go_meet
            exact ⟨T, kt, dt, t, A1, x, ca, vget vs, ls, rfl, rfl, (HT.out.below HW.out).runes, HCH.out, by omega, hN20, HB2.out.trans (HW.out.mono HB2.out.size)⟩
    case rest =>
      obtain ⟨S', k', d', s', A', n', c', us', l', rfl, rfl, hS, hA, hk', hn', hbel⟩ := hcut
      have HS' := hide hS
      have HA' := hide hA
      have HW := hide hbel
      clear hS hA hbel HS HA HCP hNr
      have hrl := rowS_len s' l'
      have HCR := hide (fun (W : World) (hb : Below wc.heap.size wc W) => crow_any S' A' k' d' n' c' us' s' l' W (HS'.out.below hb) (HA'.out.below hb) (by omega) (by omega))
      have HRR := hide (fun (W : World) (hb : Below wc.heap.size wc W) => rrow_any S' A' k' d' n' c' us' s' l' W (HS'.out.below hb) (HA'.out.below hb) (by omega) (by omega))
      have HLS := hide HS'.out.len
      generalize (rowS s' l').1 = ro at HCR HRR hrl
      generalize (rowS s' l').2 = er at HCR HRR
      rw [HLS.out] at hrl
      go_wp2_with fail
      refine (HCR.out _ (Below.refl _ _)).mono ?_
      rintro e w5 ⟨O5, n5, c5, rfl, ho5, hb5⟩
      have hn5 := ho5.len
      rw [hn5] at hrl
      have HN5 := hide hn5
      have HO5 := hide ho5
      have HB5 := hide hb5
      clear ho5 hb5 hn5
      go_wp2_with fail
      refine (HRR.out _ HB5.out).mono ?_
      rintro e w6 ⟨O6, n6, c6, rfl, ho6, hb6⟩
      obtain rfl : n6 = n5 := by rw [← ho6.len, HN5.out]
      have HO6 := hide ho6
      have HB6 := hide (HB5.out.trans (hb6.mono HB5.out.size))
      have HO56 := hide (HO5.out.below hb6)
      have hs56 := hb6.size
      clear ho6 hb6
      go_wp2_with fail
      refine (cback_apart A' n' c' us' l' w6 (HA'.out.below HB6.out) (by omega)).mono ?_
      rintro e w7 ⟨A7, n7, c7, vs7, rfl, hrow7, hel7, hap7, hb7⟩
      have hn7 : n7 = n' := by rw [← hrow7.len, ← hel7.len, backC_len, HA'.out.len]
      subst hn7
      have HROW := hide hrow7
      have HEL := hide hel7
      have HAP := hide hap7
      have HB7 := hide hb7
      clear hrow7 hel7 hap7 hb7
      go_wp2_with fail
      refine (refSame_any O5 O6 n6 c5 n6 c6 ro ro _ (HO56.out.below HB7.out).runes (HO6.out.below HB7.out).runes (by omega) (by omega)).mono ?_
      rintro e w8 ⟨rfl, q8, rfl⟩
      rw [show sameS ro ro = true by simp [sameS]]
      have HB8 := hide (below_drewN HB7.out q8)
      have HBD := hide (below_drewN (Below.refl w7.heap.size w7) q8)
      go_wp2_with fail
      refine (rback_any A' n7 c' us' l' _ ((HA'.out.below HB6.out).below HB8.out) (by omega)).mono ?_
      rintro e w9 ⟨A9, n9, c9, vs9, rfl, hrow9, hel9, hb9⟩
      have hn9 : n9 = n7 := by rw [← hrow9.len, ← hel9.len, backC_len, HA'.out.len]
      subst hn9
      have HC9 := hide (hel9.chgs hrow9)
      have HBQ := hide (HBD.out.trans (hb9.mono (Nat.le_refl _)))
      clear hrow9 hel9 hb9
      go_wp2_with fail
      refine (sameChanges_yes A7 A9 n9 c7 n9 c9 (vget vs7) (vget vs9) (backC l') w9 ((HEL.out.below HBQ.out).chgs (HROW.out.below HBQ.out)) HC9.out (by omega)).mono ?_
      rintro e w10 ⟨rfl, hb10⟩
      have HB10 := hide (HBQ.out.trans (hb10.mono HBQ.out.size))
      clear hb10 HBQ HC9
      have HR10 := hide (HROW.out.below HB10.out)
      have HE10 := hide (HEL.out.below HB10.out)
      have hlen7 := HR10.out.len
      go_wp2_with fail
      go_loopw [98] (fun i wx => ∃ x : Nat, x ≤ n9 ∧ i = .int .i64 x ∧ Below w6.heap.size w6 wx ∧ RowC wx w6.heap.size A7 n9 c7 vs7 ∧ Hid (∀ (j : Nat) (v : CV), x ≤ j → vs7[j]? = some v → ∃ y, EltO wx w6.heap.size v y)) (fun i _ => n9 - (intOf i).toNat)
      case atStart => exact ⟨0, Nat.zero_le _, rfl, HB7.out.trans (HB10.out.mono HB7.out.size), HR10.out, fun j v _ hj => by
        obtain ⟨y, _, hy⟩ := HE10.out.at_ j v hj
        exact ⟨y, hy⟩⟩
      case round =>
        obtain ⟨x, hx, rfl, hbel, hrow, helt⟩ := hrel
        have HW2 := hide hbel
        have HRW := hide hrow
        clear hbel hrow
        by_cases hxn : x < n9
        · obtain ⟨v, hv⟩ : ∃ v, vs7[x]? = some v := ⟨_, List.getElem?_eq_getElem (by omega)⟩
          obtain ⟨y, hy⟩ := helt.out x v (Nat.le_refl _) hv
          obtain ⟨g, rfl, i0, i1, i2⟩ := HRW.out.cells_at hxn
          rw [vget_of hv] at i0 i1 i2
          have h0 : (0 : Int) ≤ (x : Int) := by omega
          have h1' : (x : Int) < (n9 : Int) := by omega
          have HSP := hide (spoilC_far w6.heap.size v.at_ v.C v.P v.n v.c v.m v.d y.cut y.put wr hy.cut hy.put hy.ap HW2.out.size)
          have HV := hide hv
          have HY := hide hy
          obtain ⟨va, vC, vn, vc, vP, vm, vd⟩ := v
          simp only at i0 i1 i2 HSP
          rw [Nat.zero_add] at i0 i1 i2
          clear hv hy
          go_wp2_with fail
          refine HSP.out.mono ?_
          rintro e w11 ⟨rfl, hb11, o11, w12, hg1, hg2⟩
          obtain ⟨r1, r2⟩ := spoil_rest HAP.out HV.out HY.out hg1 hg2 HRW.out helt.out
          have R1 := hide r1
          have R2 := hide r2
          have HB11 := hide (HW2.out.trans hb11)
          clear hb11 hg1 hg2 r1 r2
          go_wp2_with fail
          go_roundw
          case rel => exact ⟨x + 1, by omega, by go_num, HB11.out, R1.out, R2.out⟩
          case measure => simp [intOf]; omega
        · obtain rfl : x = n9 := by omega
          have HOW := hide (HO56.out.below HW2.out)
          have HO6W := hide (HO6.out.below HW2.out)
          have hne : blk O6 = none ∨ blk O6 ≠ blk O5 := by
            refine (apart_of (k := w5.heap.size) (fun g hg => (HO5.out.blk_ge g hg).2) (fun g hg => (HO6.out.blk_ge g hg).1) : Apart O5 O6).kept_ok
          have HNE := hide hne
          have hbw := HB6.out.trans (HW2.out.mono HB6.out.size)
          have HBW := hide hbw
          have HSP := hide (spoil_any wc.heap.size O5 n6 c5 ro wr HOW.out)
          clear hne hbw
          go_wp2_with fail
          refine HSP.out.mono ?_
          rintro e w11 ⟨rfl, _, hg11⟩
          have HB11 := hide (HBW.out.grown hg11 HBW.out.size (fun g hg => (HOW.out.blk_ge g hg).1))
          have HO11 := hide (HO6W.out.kept hg11 HNE.out)
          clear hg11
          go_wp2_with fail
          refine (HCR.out _ HB11.out).mono ?_
          rintro e w12 ⟨O12, n12, c12, rfl, ho12, hb12⟩
          obtain rfl : n12 = n6 := by rw [← ho12.len, HN5.out]
          have HB12 := hide (HB11.out.trans (hb12.mono HB11.out.size))
          have HO12 := hide ho12
          have HO612 := hide (HO11.out.below hb12)
          clear ho12 hb12
          go_wp2_with fail
          refine (refSame_any O12 O6 n12 c12 n12 c6 ro ro _ HO12.out.runes HO612.out.runes (by omega) (by omega)).mono ?_
          rintro e w13 ⟨rfl, q13, rfl⟩
          rw [show sameS ro ro = true by simp [sameS]]
          have HB13 := hide (below_drewN HB12.out q13)
          go_wp2_with fail
          refine (known5_any _).mono ?_
          rintro e w14 ⟨rfl, hb14⟩
          have HB14 := hide (HB13.out.trans (hb14.mono HB13.out.size))
          clear hb14
          go_wp2_with fail
          go_ret
          exact ⟨rfl, HW.out.trans (HB14.out.mono HW.out.size)⟩
end Go.Proofs.Ytjhnenljmmeflaa
