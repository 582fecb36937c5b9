/- The walk of standishlaw28.UndoBack: it answers true. -/
import Derived.Test.YtjhnenljmmeflaaUndoV
import Derived.Test.YtjhnenljmmeflaaUndoL
import Derived.Test.YtjhnenljmmeflaaFitted
import Derived.Test.YtjhnenljmmeflaaSame5
import Derived.Deep.LoopGhost
import Derived.Deep.CutBlock
import Derived.Deep.DeepCutAuto
namespace Go.Proofs.Ytjhnenljmmeflaa
open Go.RowKit
set_option linter.unusedVariables false

/-- What 'c := Fit(..)' leaves, whatever the numbers. -/
def FitsAny (W : World) (n : Nat) (cur u : List Int) (v : Value) (W' : World) : Prop :=
  ∃ z1 z2 : Int, Fitted W (fitA n z1) ((cur.drop (fitA n z1)).take (fitN n z1 z2)) (u.take (fitR n (fitN n z1 z2))) v W'

set_option maxRecDepth 100000 in
set_option maxHeartbeats 8000000 in
theorem uback28_any (S I J P0 : Option Addr) (k d ni ci nj cj m e' : Nat) (kk : Int) (s ia ja put : List Int) (w : World) (hS : Runes w S k s) (hI : IntsR w I ni ia) (hJ : IntsR w J nj ja) (hP : Runes w P0 m put)
    (hk : k + 2 ≤ 35184372088832) (hm : m + 2 ≤ 35184372088832) (hd : k ≤ d) (hd2 : d ≤ 9223372036854775807) (hd3 : m ≤ e') (hd4 : e' ≤ 9223372036854775807) (hni : ni ≤ 17592186044416) (hnj : nj ≤ 17592186044416) :
    Calls Try.prog 3 #[.slice S k d, .slice I ni ci, .slice J nj cj, .slice P0 m e', .int .i64 kk] w fun e w' => e = .returned (.bool true) ∧ Below w.heap.size w w' := by
  have HS := hide hS
  have HI := hide hI
  have HJ := hide hJ
  have HP := hide hP
  clear hS hI hJ hP
  go_enter Try.func3, Try.ntmps3
  go_wp2_with fail
  refine (cut_any S k d 60 _ hd hd2 (by omega)).mono ?_
  rintro e w1 ⟨rfl, rfl⟩
  go_wp2_with fail
  refine (clean_any S (min k 60) d _ _ (HS.out.take (m := min k 60) (by omega)) (by omega)).mono ?_
  rintro e w2 ⟨T, kt, dt, rfl, hT, hb2⟩
  have hlt := hT.len
  have hcapT := hT.cap
  have hmay := cleanS_may (s.take (min k 60))
  generalize ht : cleanS (s.take (min k 60)) = t0 at hT hlt hmay
  have hkt : kt ≤ 60 := by rw [← hlt, ← ht, cleanS_len, List.length_take]; omega
  clear ht hlt
  have HT := hide hT
  have HM := hide hmay
  have HB2 := hide hb2
  clear hT hb2 hmay
  go_wp2_with fail
  refine (cut_any P0 m e' 20 _ hd3 hd4 (by omega)).mono ?_
  rintro e w1 ⟨rfl, rfl⟩
  go_wp2_with fail
  refine (clean_any P0 (min m 20) e' _ _ ((HP.out.below HB2.out).take (m := min m 20) (by omega)) (by omega)).mono ?_
  rintro e w3 ⟨U, ku, du, rfl, hU, hb3⟩
  have hlu := hU.len
  have hcapU := hU.cap
  have hmayU := cleanS_may (put.take (min m 20))
  generalize hu : cleanS (put.take (min m 20)) = u at hU hlu hmayU
  have hku : ku ≤ 20 := by rw [← hlu, ← hu, cleanS_len, List.length_take]; omega
  clear hu hlu
  have HU := hide hU.runes
  have HMU := hide hmayU
  have HT3 := hide ((HT.out.below hb3).mono (B' := 0) (Nat.zero_le _))
  have HB3 := hide (HB2.out.trans (hb3.mono HB2.out.size))
  clear hU hb3 hmayU HT HB2 HS HP
  go_wp2_with fail
  refine (new_any _).mono ?_
  rintro e w4 ⟨t, rfl, h1, hb1⟩
  obtain ⟨hT1, hst1⟩ := Tr.start h1 hb1 (Below.refl w3.heap.size w3) (Nat.le_refl _)
  have hT4 : Own w4 0 T kt dt t0 := HT3.out.below hb1
  have hO4 : ∀ b, blk T = some b → Off (fun g => w3.heap.size ≤ g ∧ g < w4.heap.size) w4 b := fun b hb => (hst1 b ⟨(HT3.out.blk_ge b hb).2, fun e => e⟩).1
  have hsz4 := hb1.size
  generalize (fun g => w3.heap.size ≤ g ∧ g < w4.heap.size) = P1 at hT1 hO4
  clear hst1 h1 hb1
  obtain ⟨g, hg⟩ : ∃ g, w4.heap.size = g := ⟨_, rfl⟩
  have hX0 := Box.newAt hg 22 #[.slice T kt dt]
  have hbl : Below w4.heap.size w4 (w4.alloc (.cells #[.slice T kt dt] 22)) := (Below.refl _ _).alloc (Nat.le_refl _) _
  have HT5 := hide (hT1.next (Nat.le_refl _) hbl)
  have HX5 := hide (TextsU.first (B := w3.heap.size) (P := P1) (hT4.below hbl) (by omega) hX0 (fun b hb => (HT5.out.2 b (hO4 b hb)).1) (Tr.off hT1.tree hbl (b := g) (by omega) hX0.lt))
  have HS5 := hide (Stepd.nil (T := fun _ => t0) (f := fun _ => []) ⟨HM.out, by rw [HT3.out.len]; omega⟩)
  clear hT1 hT4 hO4 hbl
  go_upto_block 0 with fail
  generalize (w4.alloc (.cells #[.slice T kt dt] 22)) = w5 at HT5 HX5 hX0 ⊢
  clear hX0 hsz4 hg HT3
  go_cut [12, 13] (fun s12 s13 wx => ∃ (x : Nat) (P : Nat → Prop) (f : Nat → List Chg) (Tx : Nat → List Int) (V : Nat → SV) (A : Option Addr) (ca : Nat), x ≤ 12 ∧ s12 = .slice A (x + 1) ca ∧ s13 = .slice (V x).A (V x).n (V x).c ∧ Tr w3.heap.size w3 wx P t (chainG f x) x ∧ TextsU wx w3.heap.size P A ca V Tx x ∧ Stepd Tx f x)
  case first =>
    go_wp2_with fail
    go_loopg [12, 13, 14] 12 (fun z s12 s13 s14 wx => ∃ (x : Nat) (P : Nat → Prop) (f : Nat → List Chg) (Tx : Nat → List Int) (V : Nat → SV) (A : Option Addr) (ca : Nat), x ≤ 12 ∧ z = 12 - x ∧ s12 = .slice A (x + 1) ca ∧ s13 = .slice (V x).A (V x).n (V x).c ∧ s14 = .int .i64 x ∧ Tr w3.heap.size w3 wx P t (chainG f x) x ∧ TextsU wx w3.heap.size P A ca V Tx x ∧ Stepd Tx f x)
    case atStart => exact ⟨0, P1, fun _ => [], fun _ => t0, fun _ => ⟨T, kt, dt⟩, _, _, by omega, rfl, rfl, rfl, rfl, HT5.out.1, HX5.out, HS5.out⟩
    case round =>
      obtain ⟨x, P, f, Tx, V, A, ca, hx, rfl, rfl, rfl, rfl, hTr, hTx, hSt⟩ := hrel
      have HTr := hide hTr
      have HTx := hide hTx
      have HSt := hide hSt
      clear hTr hTx hSt HT5 HX5 HS5 HM
      have hgo : (x < ni ∧ x < nj ∧ x < 12) ∨ ¬ x < ni ∨ (x < ni ∧ ¬ x < nj) ∨ (x < ni ∧ x < nj ∧ ¬ x < 12) := by omega
      rcases hgo with ⟨h1, h2, h3⟩ | hgo
      · have h1' : (x : Int) < (ni : Int) := by omega
        have h2' : (x : Int) < (nj : Int) := by omega
        have h3' : (x : Int) < 12 := by omega
        obtain ⟨r, hr⟩ : ∃ r, x % 3 = r := ⟨_, rfl⟩
        have hr2 : r ≤ 2 := by omega
        have hrm : Int.tmod (x : Int) 3 = (r : Int) := by rw [Int.tmod_eq_emod_of_nonneg (by omega)]; omega
        obtain ⟨wi, hwi⟩ : ∃ wi, wi = wr := ⟨_, rfl⟩
        subst hwi
        go_wp2_with fail
        go_loopg [13, 15, 16] (r + 1) (fun z s13 s15 s16 wx => ∃ (y n c : Nat) (O : Option Addr) (cur : List Int) (A2 : Option Addr) (c2 : Nat) (vs : List CV) (ls : List Chg), y ≤ r + 1 ∧ z = r + 1 - y ∧ s13 = .slice O n c ∧ s15 = .slice A2 y c2 ∧ s16 = .int .i64 y ∧ Own wx 0 O n c cur ∧ (∀ b, blk O = some b → Off P wx b) ∧ RowC wx wi.heap.size A2 y c2 vs ∧ Elts wx wi.heap.size vs ls ∧ Below wi.heap.size wi wx ∧ Steps (Tx x) ls cur)
        case atStart => exact ⟨0, _, _, _, Tx x, none, 0, [], [], by omega, rfl, rfl, rfl, rfl, HTx.out.own x (Nat.le_refl _), HTx.out.off x (Nat.le_refl _), RowC.nil _ _, Elts.nil _ _, Below.refl _ _, Steps.nil (HSt.out.may x (Nat.le_refl _)).1 (HSt.out.may x (Nat.le_refl _)).2⟩
        case round =>
          obtain ⟨y, n, c, O, cur, A2, c2, vs, ls, hy, rfl, rfl, rfl, rfl, hown, hoff, hrow, hel, hbel, hst⟩ := hrel
          have hlen := hst.len
          rw [hown.len] at hlen
          have hcap := hown.cap
          have HO := hide hown
          have HOF := hide hoff
          have HR := hide hrow
          have HE := hide hel
          have HW := hide hbel
          have HST := hide hst
          clear hown hoff hrow hel hbel hst
          by_cases hyr : y ≤ r
          · have HBI := hide (HTr.out.below.trans (HW.out.mono HTr.out.below.size))
            have HBW := hide (HB3.out.trans (HBI.out.mono HB3.out.size))
            obtain ⟨ib, io, rfl, i0⟩ := (HI.out.below HBW.out).at_ x h1
            obtain ⟨jb, jo, rfl, j0⟩ := (HJ.out.below HBW.out).at_ x h2
            have h0 : (0 : Int) ≤ (x : Int) := by omega
            obtain ⟨p, hp⟩ : ∃ p, min (x + y) ku = p := ⟨_, rfl⟩
            obtain ⟨h, hh⟩ : ∃ h, min (x + y + 2) ku = h := ⟨_, rfl⟩
            have hpk : p + (h - p) ≤ ku := by omega
            have hpe : min ((x : Int) + (y : Int)) (ku : Int) = (p : Int) := by omega
            have hhe : min ((x : Int) + (y : Int) + 2) (ku : Int) = (h : Int) := by omega
            have hsl : ∀ W, (Instr.slice 22 (.slice U ku du) (some (.int .i64 (p : Int))) (some (.int .i64 (h : Int))) none).run Try.prog W = .ok (.slice (sub U du p) (h - p) (du - p)) W := fun W => by
              have := run_sub_lh U ku du p (h - p) (by omega) W
              rwa [show (p : Int) + ((h - p : Nat) : Int) = (h : Int) by omega] at this
            have v1 : IntKind.i64.wrap ((x : Int) + (y : Int)) = (x : Int) + (y : Int) := by rw [IntWalk.i64_in _ (by omega)]
            have v2 : IntKind.i64.wrap ((x : Int) + (y : Int) + 2) = (x : Int) + (y : Int) + 2 := by rw [IntWalk.i64_in _ (by omega)]
            have v3 : IntKind.i64.wrap (4 * (y : Int)) = 4 * (y : Int) := by rw [IntWalk.i64_in _ (by omega)]
            have v4 : IntKind.i64.wrap (3 * (y : Int)) = 3 * (y : Int) := by rw [IntWalk.i64_in _ (by omega)]
            have HF := hide (fun (z1 z2 : Int) W (hb : Below wr.heap.size wr W) => fit_any O (sub U du p) n c (h - p) (du - p) z1 z2 cur ((u.drop p).take (h - p)) W (HO.out.runes.below hb) (((HU.out.below HBI.out).mid hpk hcapU.1).below hb) (by omega) (by omega) hcap.1 hcap.2)
            obtain ⟨z1, hz1⟩ : ∃ z, nth ia x = z := ⟨_, rfl⟩
            obtain ⟨z2, hz2⟩ : ∃ z, nth ja x = z := ⟨_, rfl⟩
            rw [hz1] at i0
            rw [hz2] at j0
            clear hz1 hz2 hp hh
            have HLU := hide (show ((u.drop p).take (h - p)).length ≤ 20 by rw [List.length_take, List.length_drop, HU.out.len]; omega)
            have HLC := hide HO.out.len
            have HMP := hide (mayS_take (mayS_drop HMU.out p) (h - p))
            generalize (u.drop p).take (h - p) = up at HF HLU HMP
            have L1 := World.block_lt_of_cell? wr _ i0
            have L2 := World.block_lt_of_cell? wr _ j0
            have n1 : ib ≠ wr.heap.size := by simp only at L1; omega
            have n2 : jb ≠ wr.heap.size := by simp only at L2; omega
            have n3 : wr.heap.size ≠ ib := fun e => n1 e.symm
            have n4 : wr.heap.size ≠ jb := fun e => n2 e.symm
            have HD1 := hide ((Below.refl wr.heap.size wr).drew)
            have HD2 := hide (((Below.refl wr.heap.size wr).alloc (Nat.le_refl _) (.cells #[.int .i64 0, .slice none 0 0, .slice none 0 0] 31)).drew)
            have HBX := hide ((Box.new wr 31 #[.int .i64 0, .slice none 0 0, .slice none 0 0]).drew)
            go_upto_region 15 with fail
            go_cut [17] (fun s17 wx => FitsAny wr n cur up s17 wx)
            case first =>
              go_region_held3 (fun w' => w'.cell? ⟨ib, io + x, none⟩ = some (.int .i64 z1) ∧ w'.cell? ⟨jb, jo + x, none⟩ = some (.int .i64 z2)) (first | go_keep)
                (first
                 | (go_at_call 16; (with_reducible refine (HF.out _ _ _ HD1.out).mono ?_); rintro e w6 ⟨C, nC, cC, PP, mP, cP, rfl, hC, hP, hap, hb6⟩; have hbw := HD1.out.trans (hb6.mono HD1.out.size); have k1 := cell_later hbw i0; have k2 := cell_later hbw j0; have sz := hbw.size; have m1 : ib ≠ w6.heap.size := (by simp only at L1; omega); have m2 : jb ≠ w6.heap.size := (by simp only at L2; omega); have m3 : w6.heap.size ≠ ib := fun e => m1 e.symm; have m4 : w6.heap.size ≠ jb := fun e => m2 e.symm)
                 | (go_at_call 16; (with_reducible refine (HF.out _ _ _ HD2.out).mono ?_); rintro e w6 ⟨C, nC, cC, PP, mP, cP, rfl, hC, hP, hap, hb6⟩; have hbw := HD2.out.trans (hb6.mono HD2.out.size); have k1 := cell_later hbw i0; have k2 := cell_later hbw j0; obtain ⟨⟨f0, f1, f2⟩, f3, f4, f5⟩ := (HBX.out.below hb6).c3))
              all_goals (go_wp2_with fail; go_meet)
              all_goals first | exact ⟨_, _, fitted1 hC hP hap hbw (Nat.le_refl _)⟩ | exact ⟨_, _, fitted2 hC hP hap hbw (Nat.le_refl _) (by simp) (HBX.out.below hb6) rfl⟩
            case rest =>
              obtain ⟨z1', z2', gc, C, nC, cC, PP, mP, cP, rfl, hbx, hC, hP, hap, hbw, hgc⟩ := hcut
              clear i0 j0 hpe hhe hsl v1 v2 v3 v4 HF HD1 HD2 HBX n1 n2 n3 n4 L1 L2
              have hfa := fitA_le n z1'
              have hfn := fitN_le n z1' z2'
              generalize fitA n z1' = a at hfa hfn hbx hC hP
              generalize fitN n z1' z2' = q at hfn hC hP
              have hmc := fit_may (q := q) HST.out.may HMP.out (by rw [HLC.out]; exact hfn) HST.out.len
              rw [HLC.out] at hmc
              have hck : ChgOk ⟨a, (cur.drop a).take q, up.take (fitR n q)⟩ := ⟨⟨show -9223372036854775808 ≤ (a : Int) by omega, show (a : Int) ≤ 9223372036854775807 by omega⟩, by rw [List.length_take, List.length_drop, HLC.out]; omega, by rw [List.length_take]; have := HLU.out; omega⟩
              have hlc : ((cur.drop a).take q).length ≤ 1000 := by rw [List.length_take, List.length_drop, HLC.out]; omega
              have hlp : (up.take (fitR n q)).length ≤ 20 := by rw [List.length_take]; have := HLU.out; omega
              generalize (cur.drop a).take q = dc at hmc hck hlc hC
              generalize up.take (fitR n q) = dp at hmc hck hlp hP
              have HMC := hide hmc
              have HCK := hide hck
              clear hmc hck HLU HMP hfn
              have hlC := hC.len
              have hlP := hP.len
              have hO := HO.out.below hbw
              have HLA := hide (show (appS cur a dc dp).length + dc.length = cur.length + dp.length from app_len (x := ⟨a, dc, dp⟩) HMC.out)
              rw [HLC.out, hlC, hlP] at HLA
              have happ : appE cur a dc dp = 0 := by unfold appE; rw [HMC.out]; rfl
              obtain ⟨nx, hnx⟩ : ∃ nx, appS cur a dc dp = nx := ⟨_, rfl⟩
              have HST2 := hide (show Steps (Tx x) (ls ++ [⟨a, dc, dp⟩]) (appS cur a dc dp) from HST.out.step (x := ⟨a, dc, dp⟩) HMC.out)
              rw [hnx] at HLA HST2
              have HAPP := hide happ
              have HNX := hide hnx
              clear happ hnx
              have HGN := hide (show some gc ≠ blk A2 from fun e => by have := (HR.out.blk_ge gc e.symm).2; omega)
              have HBX := hide hbx
              have HO1 := hide hO
              have HC := hide hC
              have HP' := hide hP
              have HAP := hide hap
              have HW1 := hide hbw
              clear hbx hO hC hP hap hbw
              obtain ⟨⟨f0, f1, f2⟩, _⟩ := HBX.out.c3
              have hszw : wi.heap.size ≤ wc.heap.size := by have := HW.out.size; have := HW1.out.size; omega
              have hrw := HR.out.below HW1.out
              have hew := HE.out.below HW1.out
              have helt : EltO wc wi.heap.size ⟨a, C, nC, cC, PP, mP, cP⟩ ⟨a, dc, dp⟩ := ⟨rfl, HC.out.mono HW.out.size, HP'.out.mono HW.out.size, HAP.out, HCK.out⟩
              have HRW := hide hrw
              have HEW := hide hew
              have HEL := hide helt
              have HBW6 := hide (HW.out.trans (HW1.out.mono HW.out.size))
              have hlsy : ls.length = y := by rw [HE.out.len, HR.out.len]
              clear hrw hew helt
              go_wp2_with (at_builtin
                           refine wpList_appC rfl (.tmp 101) (.tmp 103) rfl wi.heap.size rfl (HRW.out.alloc _) (v := ⟨a, C, nC, cC, PP, mP, cP⟩) rfl (Box.new _ _ _) (by omega) (by simp; omega) ?_
                           intro g2 c3 w7 hrow2 hg2 hb2 _
                           obtain ⟨⟨q0, q1, q2⟩, _⟩ := ((HBX.out.alloc (.cells #[.int .i64 a, .slice C nC cC, .slice PP mP cP] 31)).grown hg2 HGN.out).c3)
              have hrow1 := HRW.out.alloc (.cells #[.int .i64 a, .slice C nC cC, .slice PP mP cP] 31)
              have HE2 := hide ((HEW.out.alloc _).row hrow1 hg2 |>.app (Elts.one ((HEL.out.alloc _).row hrow1 hg2)))
              have HO7 := hide (((HO1.out.alloc (.cells #[.int .i64 a, .slice C nC cC, .slice PP mP cP] 31))).kept hg2 (own_ne_row (HO1.out.alloc _) hrow1))
              have HC7 := hide (((HC.out.alloc (.cells #[.int .i64 a, .slice C nC cC, .slice PP mP cP] 31))).kept hg2 (own_ne_row (HC.out.alloc _) hrow1))
              have HP7 := hide (((HP'.out.alloc (.cells #[.int .i64 a, .slice C nC cC, .slice PP mP cP] 31))).kept hg2 (own_ne_row (HP'.out.alloc _) hrow1))
              have HX7 := hide ((HBX.out.alloc (.cells #[.int .i64 a, .slice C nC cC, .slice PP mP cP] 31)).grown hg2 HGN.out)
              have HR2 := hide hrow2
              have HB7 := hide ((HBW6.out.alloc hszw _).trans hb2)
              clear hrow1 hrow2 hg2 hb2 f0 f1 f2
              have hap1 := rapply_any O n c a C PP nC cC mP cP cur dc dp w7 HO7.out.runes HC7.out.runes HP7.out.runes (by omega) (by omega) (by omega) hcap.1 hcap.2
              rw [HAPP.out, HNX.out] at hap1
              refine hap1.mono ?_
              clear hap1
              rintro e w8 ⟨O2, n2, c2', rfl, ho2, hb8⟩
              have hn2 := HST2.out.len
              have hof2 : ∀ b, blk O2 = some b → Off P w8 b := fun b hb => ⟨(ho2.blk_ge b hb).2, fun e => by
                have h1 := HTr.out.tree.lt b e
                have h2 := (ho2.blk_ge b hb).1
                have h3 := HB7.out.size
                omega⟩
              have HO2 := hide (ho2.mono (B' := 0) (Nat.zero_le _))
              have HOF2 := hide hof2
              have HR8 := hide (HR2.out.below hb8)
              have HE8 := hide (HE2.out.below hb8)
              have HB8 := hide (HB7.out.trans (hb8.mono HB7.out.size))
              have v5 : IntKind.i64.wrap ((y : Int) + 1) = ((y + 1 : Nat) : Int) := by rw [IntWalk.i64_in _ (by omega)]; rfl
              clear ho2 hof2 hb8
              go_wp2_with fail
              go_roundg (r + 1 - (y + 1))
              case measure => omega
              case rel => exact ⟨y + 1, n2, c2', O2, nx, _, c3, _, _, by omega, rfl, rfl, rfl, by go_num, HO2.out, HOF2.out, HR8.out, HE8.out, HB8.out, HST2.out⟩
          · have HY := hide (show y = r + 1 by omega)
            have HTw := hide (HTr.out.next (Nat.le_refl _) HW.out)
            have HXw := hide (HTx.out.stays HTw.out.2)
            have HLS := hide (show ls.length ≤ 3 by rw [HE.out.len, HR.out.len]; omega)
            have HCK := hide (chgs_keeps HR.out HE.out (fun b hb => HTr.out.tree.lt b hb))
            clear HTr HTx HR HE HW
            go_wp2_with fail
            refine (add_any wr P t (chainG f x) (chainG f x) x x A2 y c2 (vget vs) ls (x : Int) HTw.out.1.tree HCK.out (by omega) (by omega) (by omega) (.inl ⟨by rw [(chain_get f x).1]; omega, rfl, rfl⟩)).mono ?_
            intro e w6 ha6
            obtain ⟨rfl, Q, hT6, hst6⟩ := HTw.out.1.add (Nat.le_refl _) ha6
            rw [(chain_get f x).1, ← chain_upd] at hT6
            have HT6 := hide hT6
            have HX6 := hide (HXw.out.stays hst6)
            have HO6 := hide (HO.out.keepB fun b hb => (hst6 b (HOF.out b hb)).2)
            have HOF6 := hide (fun b hb => (hst6 b (HOF.out b hb)).1)
            clear hT6 hst6 ha6 HTw HXw HCK HO HOF
            go_wp2_with fail
            refine (undos_any w6 Q t (chainG (upd f x ls) (x + 1)) (x + 1) HT6.out.tree).mono ?_
            rw [chain_undos _ HT6.out.tree.wf (x + 1) (Nat.le_refl _)]
            rintro e w7 ⟨rfl, rfl⟩
            have v6 : IntKind.i64.wrap ((x : Int) + 1) = ((x + 1 : Nat) : Int) := by rw [IntWalk.i64_in _ (by omega)]; rfl
            go_wp2_with (at_builtin
                         refine wpList_appG textT rfl (.tmp 123) (.tmp 125) rfl w3.heap.size rfl (HX6.out.row.alloc _) (m := 1) (d := 1) rfl (us := [[.slice O n c]]) (news_box (cs := #[.slice O n c]) (Box.new _ _ _)) (Each.one rfl (fun u hu => by rw [List.mem_singleton.1 hu]; rfl)) rfl (by omega) (by omega) (by omega) (by simp; have := HT6.out.below.size; omega) ?_
                         intro g3 c3 w8 hr8 hg8 hb8 hor8)
            obtain ⟨hX8, hT8⟩ := HX6.out.add (v := ⟨O, n, c⟩) HT6.out (Nat.le_refl _) ((Below.refl _ _).alloc (Nat.le_refl _) _) hg8 (((Below.refl w3.heap.size w6).alloc HT6.out.below.size _).trans hb8) hr8 hor8 HO6.out HOF6.out
            have HX8 := hide hX8
            have HT8 := hide hT8
            have HS8 := hide (HSt.out.add HST.out HLS.out)
            clear hX8 hT8 hr8 hg8 hb8 hor8
            go_wp2_with fail
            go_roundg (12 - (x + 1))
            case measure => omega
            case rel => exact ⟨x + 1, Q, upd f x ls, upd Tx (x + 1) cur, upd V (x + 1) ⟨O, n, c⟩, _, c3, by omega, rfl, by first | rfl | go_num, by rw [upd_same], by go_num, HT8.out, HX8.out, HS8.out⟩
      · rcases hgo with hgo | hgo | hgo
        all_goals (go_wp2_with fail; go_meet; exact ⟨x, P, f, Tx, V, A, ca, hx, rfl, rfl, HTr.out, HTx.out, HSt.out⟩)
  case rest =>
    obtain ⟨x, P, f, Tx, V, A, ca, hx, rfl, rfl, hTr, hTx, hSt⟩ := hcut
    have HTr := hide hTr
    have HTx := hide hTx
    have HSt := hide hSt
    clear hTr hTx hSt HT5 HX5 HS5 HI HJ HU HMU
    have v7 : IntKind.i64.wrap (((x + 1 : Nat) : Int) - 2) = (x : Int) - 1 := by rw [IntWalk.i64_in _ (by omega)]; omega
    have v8 : IntKind.i64.wrap ((x : Int) + 1 - 2) = (x : Int) - 1 := by rw [IntWalk.i64_in _ (by omega)]; omega
    go_wp2_with fail
    go_loopg [13, 18] x (fun z s13 s18 wx => ∃ (y n c : Nat) (O : Option Addr) (v : Int), y ≤ x ∧ z = x - y ∧ s13 = .slice O n c ∧ s18 = .int .i64 v ∧ v = (x : Int) - 1 - (y : Int) ∧ Own wx 0 O n c (Tx (x - y)) ∧ (∀ b, blk O = some b → Off P wx b) ∧ Tr w3.heap.size w3 wx P t (chainG f x) (x - y) ∧ TextsU wx w3.heap.size P A ca V Tx x)
    case atStart => exact ⟨0, _, _, _, _, by omega, rfl, rfl, rfl, by omega, HTx.out.own x (Nat.le_refl _), HTx.out.off x (Nat.le_refl _), HTr.out, HTx.out⟩
    case round =>
      obtain ⟨y, n, c, O, v, hy, rfl, rfl, rfl, hv, hO, hOF, hT, hX⟩ := hrel
      by_cases hyx : y < x
      · obtain ⟨j, hj⟩ : ∃ j, x - y = j + 1 := ⟨x - y - 1, by omega⟩
        obtain rfl : v = (j : Int) := by omega
        rw [hj] at hO hT
        have hcap := hO.cap
        have hlen := (HSt.out.may (j + 1) (by omega)).2
        rw [hO.len] at hlen
        have hls := (HSt.out.st j (by omega))
        have HO := hide hO
        have HOF := hide hOF
        have HT := hide hT
        have HX := hide hX
        have HLS := hide hls
        obtain ⟨gx, hgx, gx1, gx2, -, -⟩ := (chain_get f x).2 (j + 1) (by omega)
        have hgl : gx.l = f j := (gx2 (by omega)).1
        have hgb : gx.before = (j : Int) := (gx2 (by omega)).2
        have HGX := hide hgx
        have HG := hide (show gx.above = j ∧ gx.l = f j ∧ gx.before = (j : Int) from ⟨gx1, hgl, hgb⟩)
        have HJ := hide hj
        have hjx : j < x := by omega
        clear hO hOF hT hX hls hgx gx1 gx2 hgl hgb HTr HTx hj hv
        have i0 : (0 : Int) ≤ (j : Int) := by omega
        go_wp2_with fail
        refine (undo_any wr P t (chainG f x) (j + 1) gx HT.out.tree HGX.out (by omega)).mono ?_
        rw [HG.out.1, HG.out.2.1, HG.out.2.2]
        intro e w6 hm6
        obtain ⟨A6, n6, c6, vs6, rfl, hr6, he6, -, hT6, hst6, -, hn6⟩ := HT.out.move (Nat.le_refl _) hm6
        have hl6 : n6 ≤ 3 := by rw [hn6, backC_len]; exact HLS.out.2
        have HC6 := hide (he6.chgs hr6)
        have HT6 := hide hT6
        have HX6 := hide (HX.out.stays hst6)
        have HO6 := hide (HO.out.keepB fun b hb => (hst6 b (HOF.out b hb)).2)
        have HOF6 := hide (fun b hb => (hst6 b (HOF.out b hb)).1)
        clear hm6 hr6 he6 hT6 hst6 hn6 HT HX HO HOF
        go_wp2_with fail
        have hrr := rrow_any O A6 n c n6 c6 (vget vs6) (Tx (j + 1)) (backC (f j)) w6 HO6.out.runes HC6.out (by omega) (by omega)
        rw [HLS.out.1.back] at hrr
        refine hrr.mono ?_
        clear hrr
        rintro e w7 ⟨O7, n7, c7, rfl, ho7, hb7⟩
        have HTS := hide (HT6.out.next (Nat.le_refl _) hb7)
        have HX7 := hide (HX6.out.stays HTS.out.2)
        have hcap7 := ho7.cap
        have hlen7 := (HSt.out.may j (by omega)).2
        rw [ho7.len] at hlen7
        have HOF7 := hide (show ∀ b, blk O7 = some b → Off P w7 b from fun b hb => ⟨(ho7.blk_ge b hb).2, fun e => by
          have h1 := HT6.out.tree.lt b e
          have h2 := (ho7.blk_ge b hb).1
          omega⟩)
        have HO7 := hide (ho7.mono (B' := 0) (Nat.zero_le _))
        obtain ⟨gt, rfl, ct⟩ := HX7.out.cell (j := j) (by omega)
        have hxo := HX7.out.own j (by omega)
        have hxl := hxo.len
        have hxc := hxo.cap
        have hxn : (V j).n ≤ 1000 := by rw [← hxl]; exact (HSt.out.may j (by omega)).2
        have HXO := hide hxo
        have i1 : (j : Int) < ((x + 1 : Nat) : Int) := by omega
        have i1' : (j : Int) < (x : Int) + 1 := by omega
        clear ho7 hb7 hxo hxl HX6 HO6 HOF6 HT6 HC6
        go_wp2_with fail
        refine (refSame_any O7 (V j).A n7 c7 (V j).n (V j).c (Tx j) (Tx j) w7 HO7.out.runes HXO.out.runes (by omega) (by omega)).mono ?_
        rintro e w8 ⟨rfl, q8, rfl⟩
        rw [show sameS (Tx j) (Tx j) = true by simp [sameS]]
        have HTD := hide (HTS.out.1.next (Nat.le_refl _) (below_drewN (Below.refl _ _) q8))
        have HX8 := hide (HX7.out.stays HTD.out.2)
        have HO8 := hide (HO7.out.keepB fun b hb => (HTD.out.2 b (HOF7.out b hb)).2)
        have HOF8 := hide (fun b hb => (HTD.out.2 b (HOF7.out b hb)).1)
        generalize w7.drewN q8 = w8 at HTD HX8 HO8 HOF8 ⊢
        have v9 : IntKind.i64.wrap ((j : Int) - 1) = (j : Int) - 1 := by rw [IntWalk.i64_in _ (by omega)]
        clear ct
        go_wp2_with fail
        go_roundg (x - (y + 1))
        case measure => omega
        case rel => exact ⟨y + 1, n7, c7, O7, (j : Int) - 1, by omega, rfl, rfl, rfl, by have := HJ.out; omega, by rw [show x - (y + 1) = j by have := HJ.out; omega]; exact HO8.out, HOF8.out, by rw [show x - (y + 1) = j by have := HJ.out; omega]; exact HTD.out.1, HX8.out⟩
      · obtain ⟨rfl⟩ : v = -1 := by omega
        rw [show x - y = 0 by omega] at hO hT
        have HO := hide hO
        have HOF := hide hOF
        have HT := hide hT
        have HX := hide hX
        clear hO hOF hT hX HTr HTx hv hyx hy
        go_wp2_with fail
        go_loopg [13, 24] x (fun z s13 s24 wx => ∃ (y n c : Nat) (O : Option Addr), y ≤ x ∧ z = x - y ∧ s13 = .slice O n c ∧ s24 = .int .i64 ((y + 1 : Nat) : Int) ∧ Own wx 0 O n c (Tx y) ∧ (∀ b, blk O = some b → Off P wx b) ∧ Tr w3.heap.size w3 wx P t (chainG f x) y ∧ TextsU wx w3.heap.size P A ca V Tx x)
        case atStart => exact ⟨0, _, _, _, by omega, rfl, rfl, rfl, HO.out, HOF.out, HT.out, HX.out⟩
        case round =>
          obtain ⟨y, n, c, O, hy, rfl, rfl, rfl, hO, hOF, hT, hX⟩ := hrel
          have hcap := hO.cap
          have hlen := (HSt.out.may y hy).2
          rw [hO.len] at hlen
          have HO2 := hide hO
          have HOF2 := hide hOF
          have HT2 := hide hT
          have HX2 := hide hX
          clear hO hOF hT hX HO HOF HT HX
          obtain ⟨gx, hgx, -, -, gx3, gx4⟩ := (chain_get f x).2 y hy
          have HGX := hide hgx
          have HG3 := hide gx3
          have HG4 := hide gx4
          clear hgx gx3 gx4
          by_cases hyx : y < x
          · have hls := (HSt.out.st y hyx)
            have HLS := hide hls
            obtain ⟨gy, hgy, -, gy2, -, -⟩ := (chain_get f x).2 (y + 1) (by omega)
            have hgl : gy.l = f y := (gy2 (by omega)).1
            have hgb : gy.before = (y : Int) := (gy2 (by omega)).2
            have HGY := hide hgy
            have HG := hide (show gy.l = f y ∧ gy.before = (y : Int) from ⟨hgl, hgb⟩)
            have i1 : ((y + 1 : Nat) : Int) < ((x + 1 : Nat) : Int) := by omega
            have i2 : (y : Int) + 1 < (x : Int) + 1 := by omega
            have i3 : (0 : Int) ≤ (y : Int) + 1 := by omega
            have v9 : IntKind.i64.wrap ((y : Int) + 1 - 1) = (y : Int) := by rw [IntWalk.i64_in _ (by omega)]; omega
            have v10 : IntKind.i64.wrap ((y : Int) + 1 + 1) = (y : Int) + 1 + 1 := by rw [IntWalk.i64_in _ (by omega)]
            clear hls hgy gy2 hgl hgb
            go_wp2_with fail
            refine (redo_any wr P t (chainG f x) y (y + 1) gx gy HT2.out.tree HGX.out (by rw [HG3.out, HG4.out, if_neg (by omega)]; rfl) HGY.out).mono ?_
            rw [HG.out.1, HG.out.2]
            intro e w6 hm6
            obtain ⟨A6, n6, c6, vs6, rfl, hr6, he6, -, hT6, hst6, -, hn6⟩ := HT2.out.move (Nat.le_refl _) hm6
            have hl6 : n6 ≤ 3 := by rw [hn6]; exact HLS.out.2
            have HC6 := hide (he6.chgs hr6)
            have HT6 := hide hT6
            have HX6 := hide (HX2.out.stays hst6)
            have HO6 := hide (HO2.out.keepB fun b hb => (hst6 b (HOF2.out b hb)).2)
            have HOF6 := hide (fun b hb => (hst6 b (HOF2.out b hb)).1)
            clear hm6 hr6 he6 hT6 hst6 hn6 HT2 HX2 HO2 HOF2
            go_wp2_with fail
            have hrr := rrow_any O A6 n c n6 c6 (vget vs6) (Tx y) (f y) w6 HO6.out.runes HC6.out (by omega) (by omega)
            rw [HLS.out.1.row] at hrr
            refine hrr.mono ?_
            clear hrr
            rintro e w7 ⟨O7, n7, c7, rfl, ho7, hb7⟩
            have HTS := hide (HT6.out.next (Nat.le_refl _) hb7)
            have HX7 := hide (HX6.out.stays HTS.out.2)
            have hcap7 := ho7.cap
            have hlen7 := (HSt.out.may (y + 1) (by omega)).2
            rw [ho7.len] at hlen7
            have HOF7 := hide (show ∀ b, blk O7 = some b → Off P w7 b from fun b hb => ⟨(ho7.blk_ge b hb).2, fun e => by
              have h1 := HT6.out.tree.lt b e
              have h2 := (ho7.blk_ge b hb).1
              omega⟩)
            have HO7 := hide (ho7.mono (B' := 0) (Nat.zero_le _))
            obtain ⟨gt, rfl, ct⟩ := HX7.out.cell (j := y + 1) (by omega)
            have hxo := HX7.out.own (y + 1) (by omega)
            have hxl := hxo.len
            have hxc := hxo.cap
            have hxn : (V (y + 1)).n ≤ 1000 := by rw [← hxl]; exact (HSt.out.may (y + 1) (by omega)).2
            have HXO := hide hxo
            clear ho7 hb7 hxo hxl HX6 HO6 HOF6 HT6 HC6
            go_wp2_with fail
            refine (refSame_any O7 (V (y + 1)).A n7 c7 (V (y + 1)).n (V (y + 1)).c (Tx (y + 1)) (Tx (y + 1)) w7 HO7.out.runes HXO.out.runes (by omega) (by omega)).mono ?_
            rintro e w8 ⟨rfl, q8, rfl⟩
            rw [show sameS (Tx (y + 1)) (Tx (y + 1)) = true by simp [sameS]]
            have HTD := hide (HTS.out.1.next (Nat.le_refl _) (below_drewN (Below.refl _ _) q8))
            have HX8 := hide (HX7.out.stays HTD.out.2)
            have HO8 := hide (HO7.out.keepB fun b hb => (HTD.out.2 b (HOF7.out b hb)).2)
            have HOF8 := hide (fun b hb => (HTD.out.2 b (HOF7.out b hb)).1)
            generalize w7.drewN q8 = w8 at HTD HX8 HO8 HOF8 ⊢
            clear ct
            go_wp2_with fail
            go_roundg (x - (y + 1))
            case measure => omega
            case rel => exact ⟨y + 1, n7, c7, O7, by omega, rfl, rfl, by first | rfl | go_num, HO8.out, HOF8.out, HTD.out.1, HX8.out⟩
          · have e : y = x := by omega
            have HG3' := hide (show gx.kids = [] from by rw [HG3.out, if_pos e])
            clear HG3 e
            have i1 : ¬ ((y + 1 : Nat) : Int) < ((x + 1 : Nat) : Int) := by omega
            have i2 : ¬ ((y : Int) + 1 < (x : Int) + 1) := by omega
            go_wp2_with fail
            refine (redo_none wr P t (chainG f x) y gx HT2.out.tree HGX.out HG3'.out).mono ?_
            intro e w6 hm6
            obtain ⟨A6, n6, c6, vs6, rfl, -, -, -, hT6, -, -, -⟩ := HT2.out.move (Nat.le_refl _) hm6
            have HT6 := hide hT6
            clear hm6 hT6 HT2
            go_wp2_with fail
            refine (known28_any w6).mono ?_
            rintro e w12 ⟨rfl, hb12⟩
            go_wp2_with fail
            go_ret
            exact ⟨rfl, HB3.out.trans ((HT6.out.below.trans (hb12.mono HT6.out.below.size)).mono HB3.out.size)⟩
end Go.Proofs.Ytjhnenljmmeflaa
