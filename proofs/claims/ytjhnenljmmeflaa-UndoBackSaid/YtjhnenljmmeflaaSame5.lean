/- The contract of standishlaw5.same: it answers true. -/
import Derived.Test.YtjhnenljmmeflaaFit
import Derived.Test.YtjhnenljmmeflaaApply
namespace Go.Proofs.Ytjhnenljmmeflaa
open Go.RowKit
set_option linter.unusedVariables false

theorem Runes.lent {w : World} {A : Option Addr} {n : Nat} {a : List Int} (h : Runes w A (n + 2) (a ++ [-77, -78])) (ha : a.length = n) : Runes w A n a := by
  have := h.take (m := n) (by omega)
  rwa [List.take_append_of_le_length (by omega), List.take_of_length_le (by omega)] at this

set_option maxHeartbeats 4000000 in
theorem same5_any (S : Option Addr) (k d : Nat) (at_ : Int) (C P : Option Addr) (n c m e' : Nat) (s cut put : List Int) (w : World) (hS : Runes w S k s) (hC : Runes w C n cut) (hP : Runes w P m put)
    (hk : k + 2 ≤ 35184372088832) (hn : n + 2 ≤ 35184372088832) (hm : m + 2 ≤ 35184372088832) (hd : k ≤ d) (hd2 : d ≤ 9223372036854775807) (hat : -9223372036854775808 ≤ at_ ∧ at_ ≤ 9223372036854775807) :
    Calls Try.prog 33 #[.slice S k d, .agg #[.int .i64 at_, .slice C n c, .slice P m e']] w fun e w' => e = .returned (.bool true) ∧ Below w.heap.size w w' := by
  have HX := hide (Box.new w 31 #[.int .i64 at_, .slice C n c, .slice P m e'])
  have HB := hide ((Below.refl w.heap.size w).alloc (Nat.le_refl _) (.cells #[.int .i64 at_, .slice C n c, .slice P m e'] 31))
  have H1 := hide (fun W (hb : Below w.heap.size w W) => lend_any S k d s W (hS.below hb) hk)
  have H2 := hide (fun W (hb : Below w.heap.size w W) => lend_any C n c cut W (hC.below hb) hn)
  have H3 := hide (fun W (hb : Below w.heap.size w W) => lend_any P m e' put W (hP.below hb) hm)
  have HS := hide hS
  have HC := hide hC
  have HP := hide hP
  clear hS hC hP
  go_enter Try.func33, Try.ntmps33
  go_wp2_with fail
  go_region_held3 (fun w' => w'.cell? ⟨w.heap.size, 0, none⟩ = some (.int .i64 at_) ∧ w'.cell? ⟨w.heap.size, 1, none⟩ = some (.slice C n c) ∧ w'.cell? ⟨w.heap.size, 2, none⟩ = some (.slice P m e'))
    (first | go_keep)
    (first
     | (go_at_call 35; (with_reducible refine (H1.out _ HB.out.drew).mono ?_); rintro e w1 ⟨gx, cx, rfl, hownx, hb1⟩; obtain ⟨⟨f0, f1, f2⟩, _⟩ := (HX.out.drew.below hb1).c3; have HB1 := hide (HB.out.drew.trans (hb1.mono (by simp))))
     | (go_at_call 35; (with_reducible refine (H2.out _ HB1.out).mono ?_); rintro e w2 ⟨gc, cc, rfl, hownc, hb2⟩; obtain ⟨⟨f3, f4, f5⟩, _⟩ := ((HX.out.drew.below hb1).below hb2).c3; have HB2 := hide (HB1.out.trans (hb2.mono HB1.out.size)))
     | (go_at_call 35; (with_reducible refine (H3.out _ HB2.out).mono ?_); rintro e w3 ⟨gp, cp, rfl, hownp, hb3⟩; obtain ⟨⟨f6, f7, f8⟩, _⟩ := (((HX.out.drew.below hb1).below hb2).below hb3).c3; have HB3 := hide (HB2.out.trans (hb3.mono HB2.out.size))))
  -- what stands in w3
  have hx3 := (((HX.out.drew.below hb1).below hb2).below hb3)
  have rx := ((hownx.below hb2).below hb3).runes
  have rc := (hownc.below hb3).runes
  have rp := hownp.runes
  have RX := hide rx
  have RC := hide rc
  have RP := hide rp
  have LX := hide (rx.lent HS.out.len)
  have LC := hide (rc.lent HC.out.len)
  have LP := hide (rp.lent HP.out.len)
  have HS3 := hide (HS.out.below HB3.out)
  have HC3 := hide (HC.out.below HB3.out)
  have HP3 := hide (HP.out.below HB3.out)
  have hcx := hownx.cap
  have hcc := hownc.cap
  have hcp := hownp.cap
  have HX3 := hide hx3
  have hlt := hx3.lt
  have HY3 := hide (Box.new w3 31 #[.int .i64 at_, .slice (some ⟨gc, 0, none⟩) n cc, .slice (some ⟨gp, 0, none⟩) m cp])
  have HB4 := hide ((Below.refl w3.heap.size w3).alloc (Nat.le_refl _) (.cells #[.int .i64 at_, .slice (some ⟨gc, 0, none⟩) n cc, .slice (some ⟨gp, 0, none⟩) m cp] 31))
  have M1 := hide (fun W (hb : Below w3.heap.size w3 W) => cmay_any (some ⟨gx, 0, none⟩) k cx at_ (some ⟨gc, 0, none⟩) (some ⟨gp, 0, none⟩) n cc m cp s cut put W (LX.out.below hb) (LC.out.below hb) (LP.out.below hb) (by omega) (by omega) (by omega) (by omega) (by omega) hat)
  have M2 := hide (fun W (hb : Below w3.heap.size w3 W) => rmay_any S k d at_ C P n c m e' s cut put W (HS3.out.below hb) (HC3.out.below hb) (HP3.out.below hb) (by omega) (by omega) (by omega) hd hd2)
  have A1 := hide (fun W (hb : Below w3.heap.size w3 W) => capply_any (some ⟨gx, 0, none⟩) k cx at_ (some ⟨gc, 0, none⟩) (some ⟨gp, 0, none⟩) n cc m cp s cut put W (LX.out.below hb) (LC.out.below hb) (LP.out.below hb) (by omega) (by omega) (by omega) (by omega) (by omega) hat)
  have A2 := hide (fun W (hb : Below w3.heap.size w3 W) => rapply_any S k d at_ C P n c m e' s cut put W (HS3.out.below hb) (HC3.out.below hb) (HP3.out.below hb) (by omega) (by omega) (by omega) hd hd2)
  have I1 := hide (fun W (hb : Below w3.heap.size w3 W) => cinvert_any at_ (some ⟨gc, 0, none⟩) (some ⟨gp, 0, none⟩) n cc m cp cut put W (LC.out.below hb) (LP.out.below hb) (by omega) (by omega))
  have I2 := hide (fun W (hb : Below w3.heap.size w3 W) => rinvert_any at_ C P n c m e' cut put W (HC3.out.below hb) (HP3.out.below hb) (by omega) (by omega))
  have K1 := hide (fun W (hb : Below w3.heap.size w3 W) => kept_yes (some ⟨gx, 0, none⟩) S k cx d s W (RX.out.below hb) (HS3.out.below hb) (by omega) (by omega))
  have K2 := hide (fun W (hb : Below w3.heap.size w3 W) => kept_yes (some ⟨gc, 0, none⟩) C n cc c cut W (RC.out.below hb) (HC3.out.below hb) (by omega) (by omega))
  have K3 := hide (fun W (hb : Below w3.heap.size w3 W) => kept_yes (some ⟨gp, 0, none⟩) P m cp e' put W (RP.out.below hb) (HP3.out.below hb) (by omega) (by omega))
  clear hx3 rx rc rp hownx hownc hownp hb1 hb2 hb3 hat
  generalize mayC s at_ cut put = bm at M1 M2
  generalize appE s at_ cut put = er at A1 A2
  generalize appS s at_ cut put = rs at A1 A2
  go_wp2_with fail
  go_region_held3 (fun w' => w'.cell? ⟨w.heap.size, 0, none⟩ = some (.int .i64 at_) ∧ w'.cell? ⟨w.heap.size, 1, none⟩ = some (.slice C n c) ∧ w'.cell? ⟨w.heap.size, 2, none⟩ = some (.slice P m e') ∧
      w'.cell? ⟨w3.heap.size, 0, none⟩ = some (.int .i64 at_) ∧ w'.cell? ⟨w3.heap.size, 1, none⟩ = some (.slice (some ⟨gc, 0, none⟩) n cc) ∧ w'.cell? ⟨w3.heap.size, 2, none⟩ = some (.slice (some ⟨gp, 0, none⟩) m cp))
    (first | go_keep)
    (first
     | (go_at_call 58; (with_reducible refine (M1.out _ HB4.out.drew).mono ?_); rintro e w4 ⟨rfl, hb4⟩; obtain ⟨⟨f10, f11, f12⟩, _⟩ := ((HX3.out.alloc _).drew.below hb4).c3; obtain ⟨⟨f13, f14, f15⟩, _⟩ := (HY3.out.drew.below hb4).c3; have HB5 := hide (HB4.out.drew.trans (hb4.mono (by simp))))
     | (go_at_call 49; (with_reducible refine (M2.out _ HB5.out).mono ?_); rintro e w5 ⟨rfl, hb5⟩; obtain ⟨⟨f20, f21, f22⟩, _⟩ := (((HX3.out.alloc _).drew.below hb4).below hb5).c3; obtain ⟨⟨f23, f24, f25⟩, _⟩ := ((HY3.out.drew.below hb4).below hb5).c3; have HB6 := hide (HB5.out.trans (hb5.mono HB5.out.size))))
  have HX5 := hide (((HX3.out.alloc _).drew.below hb4).below hb5)
  have HY5 := hide ((HY3.out.drew.below hb4).below hb5)
  clear hb4 hb5
  clear f0 f1 f2 f3 f4 f5 f6 f7 f8 f10 f11 f12 f13 f14 f15 f20 f21 f22 f23 f24 f25
  obtain ⟨⟨f0, f1, f2⟩, _⟩ := HX5.out.c3
  obtain ⟨⟨f3, f4, f5⟩, _⟩ := HY5.out.c3
  have hz5 := HY5.out.lt
  go_wp2_with fail
  refine (A1.out _ HB6.out).mono ?_
  rintro e w6 ⟨R1, r1, rc1, rfl, hownr, hb6⟩
  have hx6 := HX5.out.below hb6
  have hy6 := HY5.out.below hb6
  have HB7 := hide (HB6.out.trans (hb6.mono HB6.out.size))
  have HR6 := hide hownr
  have hcr := hownr.cap
  have HSZ6 := hide hb6.size
  have HX6 := hide hx6
  have HY6 := hide hy6
  clear hx6 hy6 hownr hb6 f0 f1 f2 f3 f4 f5
  obtain ⟨⟨f0, f1, f2⟩, _⟩ := HX6.out.c3
  obtain ⟨⟨f3, f4, f5⟩, _⟩ := HY6.out.c3
  go_wp2_with fail
  refine (A2.out _ HB7.out).mono ?_
  rintro e w7 ⟨R2, r2, rc2, rfl, hownr2, hb7⟩
  have HX7 := hide (HX6.out.below hb7)
  have HY7 := hide (HY6.out.below hb7)
  have HB8 := hide (HB7.out.trans (hb7.mono HB7.out.size))
  have HR7 := hide hownr2
  have HR67 := hide (HR6.out.below hb7)
  have HSZ7 := hide hb7.size
  clear hownr2 hb7 f0 f1 f2 f3 f4 f5
  obtain ⟨⟨f0, f1, f2⟩, _⟩ := HX7.out.c3
  obtain ⟨⟨f3, f4, f5⟩, _⟩ := HY7.out.c3
  go_wp2_with fail
  refine (I1.out _ HB8.out).mono ?_
  rintro e w8 ⟨IC, ic, icc, IP, ip, ipc, rfl, hoc, hop, hapi, hb8⟩
  have HX8 := hide (HX7.out.below hb8)
  have HB9 := hide (HB8.out.trans (hb8.mono HB8.out.size))
  have HR68 := hide (HR67.out.below hb8)
  have HR78 := hide (HR7.out.below hb8)
  have HSZ8 := hide hb8.size
  have HOC := hide hoc
  have HOP := hide hop
  have HAP := hide hapi
  have hc1 := hoc.cap
  have hc2 := hop.cap
  have hz8 := HX8.out.lt
  have HZ8 := hide (Box.new w8 31 #[.int .i64 at_, .slice IC ic icc, .slice IP ip ipc])
  have S1 := hide (refSame_yes R1 R2 r1 rc1 r2 rc2 _ w8 HR68.out.runes HR78.out.runes (by omega))
  have HBA := hide ((Below.refl w8.heap.size w8).alloc (Nat.le_refl _) (.cells #[.int .i64 at_, .slice IC ic icc, .slice IP ip ipc] 31))
  have HBC := hide ((HB9.out.trans ((HBA.out).mono HB9.out.size)))
  have HXC := hide (HX8.out.alloc (.cells #[.int .i64 at_, .slice IC ic icc, .slice IP ip ipc] 31))
  have HZC := hide HZ8.out
  have HOCC := hide (HOC.out.alloc (.cells #[.int .i64 at_, .slice IC ic icc, .slice IP ip ipc] 31))
  have HOPC := hide (HOP.out.alloc (.cells #[.int .i64 at_, .slice IC ic icc, .slice IP ip ipc] 31))
  clear hoc hop hapi hb8 f0 f1 f2 f3 f4 f5 hz5
  obtain ⟨⟨f0, f1, f2⟩, _⟩ := HX8.out.c3
  go_wp2_with fail
  go_region_held3 (fun w' => w'.cell? ⟨w.heap.size, 0, none⟩ = some (.int .i64 at_) ∧ w'.cell? ⟨w.heap.size, 1, none⟩ = some (.slice C n c) ∧ w'.cell? ⟨w.heap.size, 2, none⟩ = some (.slice P m e') ∧
      w'.cell? ⟨w8.heap.size, 0, none⟩ = some (.int .i64 at_) ∧ w'.cell? ⟨w8.heap.size, 1, none⟩ = some (.slice IC ic icc) ∧ w'.cell? ⟨w8.heap.size, 2, none⟩ = some (.slice IP ip ipc))
    (first | go_keep)
    (first
     | (go_at_call 22; (with_reducible refine (S1.out _ HBA.out.drew).mono ?_); rintro e w' ⟨rfl, q, rfl⟩)
     | (go_at_call 60; (with_reducible refine (I2.out _ (below_drewN HBC.out (1 + q))).mono ?_); rintro e w9 ⟨JC, jc, jcc, JP, jp, jpc, rfl, hjc, hjp, _, hb9⟩; obtain ⟨⟨f10, f11, f12⟩, _⟩ := ((HXC.out.drewN (1 + q)).below hb9).c3; obtain ⟨⟨f13, f14, f15⟩, _⟩ := ((HZC.out.drewN (1 + q)).below hb9).c3)
     | (go_at_call 37; (with_reducible refine (sameChange_yes at_ IC IP JC JP ic icc ip ipc jc jcc jp jpc put cut w9 (((HOCC.out.drewN (1 + q)).below hb9).runes) (((HOPC.out.drewN (1 + q)).below hb9).runes) hjc.runes hjp.runes (by omega) (by omega)).mono ?_); rintro e w10 ⟨rfl, hb10⟩; obtain ⟨⟨f20, f21, f22⟩, _⟩ := (((HXC.out.drewN (1 + q)).below hb9).below hb10).c3; obtain ⟨⟨f23, f24, f25⟩, _⟩ := (((HZC.out.drewN (1 + q)).below hb9).below hb10).c3))
  have hx10 := (((HXC.out.drewN (1 + q)).below hb9).below hb10)
  have hz10 := (((HZC.out.drewN (1 + q)).below hb9).below hb10)
  have hr10 := ((((HR68.out.alloc (.cells #[.int .i64 at_, .slice IC ic icc, .slice IP ip ipc] 31)).drewN (1 + q)).below hb9).below hb10)
  have hc10 := (((HOCC.out.drewN (1 + q)).below hb9).below hb10)
  have hp10 := (((HOPC.out.drewN (1 + q)).below hb9).below hb10)
  have hs9 := hb9.size
  have hs10 := hb10.size
  simp only [World.heap_drewN, World.size_alloc] at hs9
  have h35 := HB6.out.size
  have h67 := HSZ7.out
  have h78 := HSZ8.out
  have h56 := HSZ6.out
  have hB10 := (below_drewN HBC.out (1 + q)).trans ((hb9.mono (Nat.le_trans HBC.out.size (Nat.le_refl _))).trans (hb10.mono (by have := HB9.out.size; omega)))
  have hR := HR6.out.blk_ge
  have hC8 := HOC.out.blk_ge
  have hP8 := HOP.out.blk_ge
  have SP := hide (spoil_any w5.heap.size R1 r1 rc1 rs w10 hr10)
  have HB10 := hide hB10
  have HX10 := hide hx10
  have HZ10 := hide hz10
  have HC10 := hide hc10
  have HP10 := hide hp10
  have HR := hide hR
  have HC8 := hide hC8
  have HP8 := hide hP8
  clear hx10 hz10 hr10 hc10 hp10 hB10 hR hC8 hP8 hjc hjp hb9 hb10 f0 f1 f2 f10 f11 f12 f13 f14 f15 f20 f21 f22 f23 f24 f25
  go_wp2_with fail
  refine SP.out.mono ?_
  rintro e w11 ⟨rfl, ⟨l11, _⟩, hg11⟩
  have hx11 := HX10.out.grown hg11 (fun e => by have := HR.out _ e.symm; omega)
  have hz11 := HZ10.out.grown hg11 (fun e => by have := HR.out _ e.symm; omega)
  have hne : ∀ X : Option Addr, (∀ g, blk X = some g → w7.heap.size ≤ g ∧ g < w8.heap.size) → blk X = none ∨ blk X ≠ blk R1 := fun X hX => by
    rcases hp : blk X with _ | g
    · exact .inl rfl
    · exact .inr fun e => by
        have h1 := hX g hp
        have h2 := HR.out g e.symm
        omega
  have hc11 := HC10.out.kept hg11 (hne IC HC8.out)
  have hp11 := HP10.out.kept hg11 (hne IP HP8.out)
  have HB11 := hide (HB10.out.grown hg11 (by omega) (fun g hg => by have := HR.out g hg; omega))
  have hs11 := hg11.size
  obtain ⟨⟨f0, f1, f2⟩, _⟩ := hz11.c3
  have SC := hide (spoilC_any w7.heap.size at_ IC IP ic icc ip ipc put cut w11 hc11 hp11 HAP.out (by omega))
  have HX11 := hide hx11
  clear hx11 hz11 hne hc11 hp11 hg11
  go_wp2_with fail
  refine SC.out.mono ?_
  rintro e w12 ⟨rfl, hb12⟩
  have hx12 := HX11.out.low hb12 (by omega)
  have HB12 := hide (HB11.out.trans (hb12.mono (by omega)))
  clear f0 f1 f2 hb12
  obtain ⟨⟨f0, f1, f2⟩, _⟩ := hx12.c3
  clear hx12
  go_wp2_with fail
  refine (K1.out _ HB12.out).mono ?_
  rintro e w' ⟨rfl, q1, rfl⟩
  go_wp2_with fail
  refine (K2.out _ (below_drewN HB12.out q1)).mono ?_
  rintro e w' ⟨rfl, q2, rfl⟩
  go_wp2_with fail
  refine (K3.out _ (below_drewN HB12.out (q1 + q2))).mono ?_
  rintro e w' ⟨rfl, q3, rfl⟩
  go_wp2_with fail
  go_ret
  exact ⟨rfl, below_drewN (HB3.out.trans (HB12.out.mono HB3.out.size)) _⟩
end Go.Proofs.Ytjhnenljmmeflaa
