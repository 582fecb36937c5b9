/- The contract of the tree's Copy: another tree that is alike, in new memory. -/
import Derived.Test.YtjhnenljmmeflaaUndoE
import Derived.Deep.RegionLaw
namespace Go.Proofs.Ytjhnenljmmeflaa
open Go.RowKit
set_option linter.unusedVariables false

/-- How far the copy is. -/
structure CpSt (w wr : World) (q now : Nat) (gs : List Grp) (k : Nat) : Prop where
  ex : ∃ A c ps, CM wr w.heap.size q now A k c ps ∧ ps.map (·.2) = gs.take k ∧ Below w.heap.size w wr

theorem GrpM.copied {wr w1 w2 : World} {q5 s1 n1 c1 nK cK2 : Nat} {A1 K2 : Option Addr} {vs1 : List CV} {vk : GV} {x : Grp} (hx2 : Box w2 q5 75 (cellsP (vk, x)).toArray) (hb2 : Below w1.heap.size w1 w2) (hB2 : Below wr.heap.size wr w2)
    (hs1 : wr.heap.size ≤ s1) (hr1 : RowC w1 s1 A1 n1 c1 vs1) (he1 : Elts w1 s1 vs1 x.l) (hr2 : RowG w2 3 1 w1.heap.size K2 nK cK2 (kidC x.kids)) (hs2 : wr.heap.size ≤ w1.heap.size) (hq : wr.heap.size ≤ q5) :
    ∃ v' : GV, Box ((w2.setCell ⟨q5, 0, none⟩ (.slice A1 n1 c1)).setCell ⟨q5, 3, none⟩ (.slice K2 nK cK2)) q5 75 (cellsP (v', x)).toArray ∧
      GrpM ((w2.setCell ⟨q5, 0, none⟩ (.slice A1 n1 c1)).setCell ⟨q5, 3, none⟩ (.slice K2 nK cK2)) (fun b => wr.heap.size ≤ b ∧ b < ((w2.setCell ⟨q5, 0, none⟩ (.slice A1 n1 c1)).setCell ⟨q5, 3, none⟩ (.slice K2 nK cK2)).heap.size) v' x ∧
      Below wr.heap.size wr ((w2.setCell ⟨q5, 0, none⟩ (.slice A1 n1 c1)).setCell ⟨q5, 3, none⟩ (.slice K2 nK cK2)) := by
  have hsz : ((w2.setCell ⟨q5, 0, none⟩ (.slice A1 n1 c1)).setCell ⟨q5, 3, none⟩ (.slice K2 nK cK2)).heap.size = w2.heap.size := by simp [World.setCell]
  have hr1' := (hr1.below hb2).mono hs1
  have he1' := (he1.below hb2).mono hs1
  have hr2' := hr2.mono hs2
  have hg : GrpM w2 (fun b => wr.heap.size ≤ b ∧ b < w2.heap.size) ⟨A1, n1, c1, vs1, K2, nK, cK2⟩ x :=
    ⟨hr1'.mono (Nat.zero_le _), he1'.mono (Nat.zero_le _), hr2'.mono (Nat.zero_le _), hr1'.blk_ge, hr2'.blk_ge, fun u hu => by
      obtain ⟨j, hj⟩ := List.mem_iff_getElem?.1 hu
      obtain ⟨y, _, hy⟩ := he1'.at_ j u hj
      exact ⟨hy.cut.blk_ge, hy.put.blk_ge⟩⟩
  have hx3 := hx2.set 0 (.slice A1 n1 c1)
  have hx4 := hx3.set 3 (.slice K2 nK cK2)
  refine ⟨⟨A1, n1, c1, vs1, K2, nK, cK2⟩, hx4, ?_, (hB2.setCell (p := ⟨q5, 0, none⟩) hq _).setCell (p := ⟨q5, 3, none⟩) hq _⟩
  exact ((hg.stay hx2 (by decide) (by decide) (by decide) fun b _ hn => Below.heap_setCell w2 ⟨q5, 0, none⟩ _ b hn).stay hx3 (by decide) (by decide) (by decide) fun b _ hn => Below.heap_setCell _ ⟨q5, 3, none⟩ _ b hn).wider fun b hb' => ⟨hb'.1, by rw [hsz]; exact hb'.2⟩

theorem CpSt.next {w wr w5 W' w6 : World} {q now c c6 g6 k : Nat} {A : Option Addr} {gs : List Grp} {ps : List (GV × Grp)} {v' : GV} {x : Grp} (hcm : CM wr w.heap.size q now A k c ps) (hps : ps.map (·.2) = gs.take k) (hb : Below w.heap.size w wr) (hx : gs[k]? = some x)
    (hgm : GrpM w5 (fun b => wr.heap.size ≤ b ∧ b < w5.heap.size) v' x) (hb5 : Below wr.heap.size wr w5) (hbw : Below w5.heap.size w5 W') (hg : W'.grownBy w6 (blk A)) (hor : blk A = some g6 ∨ g6 = W'.heap.size)
    (hr : RowG w6 75 5 w.heap.size (some ⟨g6, 0, none⟩) (k + 1) c6 (ps.map cellsP ++ [cellsP (v', x)])) : CpSt w (w6.setCell ⟨q, 0, none⟩ (.slice (some ⟨g6, 0, none⟩) (k + 1) c6)) q now gs (k + 1) := by
  have hsw := hb.size
  have h5 := hb5.size
  have hw := hbw.size
  have hbW : Below wr.heap.size wr W' := hb5.trans (hbw.mono h5)
  have hgm6 : GrpM W' (fun b => wr.heap.size ≤ b ∧ b < W'.heap.size) v' x := hgm.same (fun b hb' => hbw.block b hb'.2) (fun b hb' => ⟨hb'.1, Nat.lt_of_lt_of_le hb'.2 hw⟩)
  refine ⟨some ⟨g6, 0, none⟩, c6, ps ++ [(v', x)], CM.grow (pn := (v', x)) hcm hsw hbW hgm6 hg ?_ hr, ?_, ?_⟩
  · rcases hor with e | e
    · exact .inl e.symm
    · refine .inr fun b hb' => ?_
      injection hb' with hb'
      have hb2 : g6 = b := hb'
      omega
  · rw [List.map_append, hps, List.take_add_one, hx]
    rfl
  · exact ((hb.trans (hbW.mono hsw)).grown hg (by omega) (fun b hb' => (hcm.row.blk_ge b hb').1)).setCell (p := ⟨q, 0, none⟩) hcm.tB _

set_option maxRecDepth 100000 in
set_option maxHeartbeats 8000000 in
theorem copy_any (w : World) (P : Nat → Prop) (t : Nat) (gs : List Grp) (now : Nat) (h : TreeM w P t gs now) :
    Calls Try.prog 56 #[.pointer (some ⟨t, 0, none⟩)] w fun e w' => ∃ t', e = .returned (.pointer (some ⟨t', 0, none⟩)) ∧ TreeM w' (fun b => w.heap.size ≤ b ∧ b < w'.heap.size) t' gs now ∧ Below w.heap.size w w' := by
  have H := hide h
  obtain ⟨g, n, c, v, x', hx', hgm, hn, hnc, hcc, hPg, ⟨t0, t1⟩, _, _, _, _⟩ := h.at_now h.wf.nw
  have hsz : gs.length ≤ 101 := h.wf.size
  have htl := h.lt t h.inT
  have HN := hide hn
  have hnb : n ≤ 101 := by omega
  have HT0 := hide t0
  have HB0 := hide ((Below.refl w.heap.size w).alloc (Nat.le_refl _) (.cells #[.slice none 0 0, .int .i64 (now : Int)] 72))
  have HX0 := hide (Box.new w 72 #[.slice none 0 0, .int .i64 (now : Int)])
  have t2 : (w.alloc (.cells #[.slice none 0 0, .int .i64 (now : Int)] 72)).cell? ⟨t, 0, none⟩ = some (.slice (some ⟨g, 0, none⟩) n c) := (HB0.out.cell (p := ⟨t, 0, none⟩) htl).trans t0
  obtain ⟨q, hq⟩ : ∃ q, w.heap.size = q := ⟨_, rfl⟩
  clear h hx' hgm hn hPg
  go_enter Try.func56, Try.ntmps56
  go_wp2_with fail
  go_loopw [19] (fun i wr => ∃ k : Nat, k ≤ n ∧ i = .int .i64 (k : Int) ∧ CpSt w wr q now gs k) (fun i _ => n - (intOf i).toNat)
  case atStart => exact ⟨0, Nat.zero_le _, rfl, none, 0, [], ⟨by rw [← hq]; exact HX0.out, RowG.nil _ _ _ _, (fun p hp => (by cases hp)), (fun i j p q hi => (by cases hi)), by omega⟩, rfl, HB0.out⟩
  case round =>
    obtain ⟨k, hk, rfl, ⟨A3, c3, ps, hcm, hps, hb⟩⟩ := hrel
    have HCM := hide hcm
    have HPS := hide hps
    have HB := hide hb
    have HTW := hide (H.out.below hb)
    by_cases hlt : k < n
    · obtain ⟨g2, n2, cc2, vk, x, hx, hgm, hn2, hnc2, hcc2, hPg2, ⟨s0, s1⟩, ⟨d0, d1, d2, d3, d4⟩, _, _, _⟩ := HTW.out.at_now (j := k) (by rw [← HN.out]; exact hlt)
      have e := s0.symm.trans ((hb.cell (p := ⟨t, 0, none⟩) htl).trans HT0.out)
      injection e with e
      injection e with e1 e2 e3
      injection e1 with e1
      injection e1 with e1
      subst e1 e2 e3
      have HX := hide hx
      have HGM := hide hgm
      have hkb := HTW.out.wf.few _ _ hx
      have hkl : vk.nK = x.kids.length := by
        have := hgm.kids.cnt
        simp [kidC] at this
        omega
      have hll : vk.us.length = vk.nL := hgm.row.len
      have hbl : vk.nL ≤ 2513167470000 := by
        rw [← hll]
        have := HTW.out.wf.len _ _ hx
        have := hgm.els.len
        omega
      have hnk : vk.nK ≤ 1000000 := by omega
      have hsw := HB.out.size
      have C1 := hide (fun W (hb : Below wr.heap.size wr W) => ccopy_any vk.L vk.nL vk.cL _ x.l W ((HGM.out.els.chgs HGM.out.row).below hb) hbl)
      have C2 := hide (fun W (hb : Below wr.heap.size wr W) => cloneK_any vk.K vk.nK vk.cK 0 x.kids W (HGM.out.kids.below hb) hnk)
      obtain ⟨q5, hq5⟩ : ∃ q5, wr.heap.size = q5 := ⟨_, rfl⟩
      have HX5 := hide (Box.newAt hq5 75 (cellsP (vk, x)).toArray)
      have HB5 := hide ((Below.refl wr.heap.size wr).alloc (Nat.le_refl _) (.cells (cellsP (vk, x)).toArray 75))
      have i0 : (0 : Int) ≤ (k : Int) := by omega
      have i1 : (k : Int) < (n2 : Int) := by omega
      clear hx hgm hn2 hnc2 hPg2 s0 s1 hkb hkl hll hbl hcm hps hb t0 t1 t2
      go_upto_region 7 with fail
      go_cut [] (fun wx => ∃ v' : GV, Box wx q5 75 (cellsP (v', x)).toArray ∧ GrpM wx (fun b => wr.heap.size ≤ b ∧ b < wx.heap.size) v' x ∧ Below wr.heap.size wr wx)
      case first =>
        have b0 : (wr.alloc (.cells (cellsP (vk, x)).toArray 75)).cell? ⟨q5, 0, none⟩ = some (.slice vk.L vk.nL vk.cL) := (HX5.out.cell 0).trans rfl
        have b3 : (wr.alloc (.cells (cellsP (vk, x)).toArray 75)).cell? ⟨q5, 3, none⟩ = some (.slice vk.K vk.nK vk.cK) := (HX5.out.cell 3).trans rfl
        have HS5 := hide HB5.out.size
        generalize hW5 : wr.alloc _ = W5
        have hW5' : wr.alloc (.cells (cellsP (vk, x)).toArray 75) = W5 := hW5
        rw [hW5'] at b0 b3 HX5 HB5
        clear hW5 hW5' d0 d1 d2 d3 d4
        go_region_law (first
          | (go_simp; go_at_call 51; (with_reducible refine (C1.out _ HB5.out.drew).mono ?_); rintro e w1 ⟨A1, n1, c1, vs1, rfl, hr1, he1, ha1, hb1⟩
             have HX1 := hide (HX5.out.drew.below hb1)
             have HB1 := hide (HB5.out.drew.trans (hb1.mono HB5.out.size))
             have k0 : w1.cell? ⟨q5, 0, none⟩ = some (.slice vk.L vk.nL vk.cL) := (HX1.out.cell 0).trans rfl
             have k3 : w1.cell? ⟨q5, 3, none⟩ = some (.slice vk.K vk.nK vk.cK) := (HX1.out.cell 3).trans rfl)
          | (go_simp; go_at_call 67; (with_reducible refine (C2.out _ HB1.out).mono ?_); rintro e w2 ⟨K2, cK2, rfl, hr2, hb2⟩
             have HX2 := hide (HX1.out.below hb2)
             have HB2 := hide (HB1.out.trans (hb2.mono HB1.out.size))
             have m0 : w2.cell? ⟨q5, 0, none⟩ = some (.slice vk.L vk.nL vk.cL) := (HX2.out.cell 0).trans rfl
             have m3 : w2.cell? ⟨q5, 3, none⟩ = some (.slice vk.K vk.nK vk.cK) := (HX2.out.cell 3).trans rfl
             have z0 := HX2.out.frozen 0
             have z3 := HX2.out.frozen 3))
        all_goals go_wp2_with fail
        all_goals go_meet
        all_goals exact GrpM.copied HX2.out hb2 HB2.out HB5.out.size hr1 he1 hr2 HB1.out.size (Nat.le_of_eq hq5)
      case rest =>
        obtain ⟨v', hx5, hgm', hb5⟩ := hcut
        generalize wc = w5 at *
        have hq0 : q ≤ q := Nat.le_refl _
        have HX5' := hide hx5
        have HGM' := hide hgm'
        have HB5' := hide hb5
        have hcm5 := HCM.out.below hb5
        have HCM5 := hide hcm5
        obtain ⟨⟨r0, r1⟩, y0, y1⟩ := hcm5.box.c2
        have a0 : w5.cell? ⟨q5, 0, none⟩ = some (.slice v'.L v'.nL v'.cL) := (hx5.cell 0).trans rfl
        have a1 : w5.cell? ⟨q5, 1, none⟩ = some (.int .i64 x.before) := (hx5.cell 1).trans rfl
        have a2 : w5.cell? ⟨q5, 2, none⟩ = some (.int .i64 (x.above : Int)) := (hx5.cell 2).trans rfl
        have a3 : w5.cell? ⟨q5, 3, none⟩ = some (.slice v'.K v'.nK v'.cK) := (hx5.cell 3).trans rfl
        have a4 : w5.cell? ⟨q5, 4, none⟩ = some (.int .i64 (x.picked : Int)) := (hx5.cell 4).trans rfl
        have hsw5 := hb5.size
        clear hx5 hgm' hb5 hcm5 d0 d1 d2 d3 d4 C1 C2 HX5 HB5
        have hqA : blk A3 ≠ some q := HCM5.out.box.ne_rowG HCM5.out.row (by decide)
        have HQA := hide hqA
        have hql := HCM5.out.box.lt
        have c5a : ∀ o, (w5.alloc o).cell? ⟨q, 0, none⟩ = some (.slice A3 k c3) := fun o => (((Below.refl _ w5).alloc (Nat.le_refl _) o).cell (p := ⟨q, 0, none⟩) hql).trans r0
        clear hqA
        go_upto_region 8 with fail
        go_region_law (first
          | (refine step_appG groupT (by rfl) (.tmp 35) (.tmp 37) (by rfl) w.heap.size (by rfl) (by first | exact RowG.drewN (RowG.alloc HCM5.out.row _) 1 | exact RowG.alloc HCM5.out.row _ | exact RowG.alloc (RowG.drewN HCM5.out.row 1) _) (m := 1) (d := 1) (by rfl) (us := [cellsP (v', x)]) (by first | exact news_box (cs := (cellsP (v', x)).toArray) (Box.drewN (Box.new w5 _ _) 1) | exact news_box (cs := (cellsP (v', x)).toArray) (Box.new _ _ _)) (Each.one rfl (cellsP_one _)) rfl (by omega) (by omega) (by omega) (by simp; omega) ?_
             intro g6 c6 w6 hr6 hg6 hb6 hor6
             have hbx6 : Box w6 q 72 #[.slice A3 k c3, .int .i64 (now : Int)] := (by first | exact ((HCM5.out.box.alloc _).drewN 1).grown hg6 (fun e => HQA.out e.symm) | exact (HCM5.out.box.alloc _).grown hg6 (fun e => HQA.out e.symm) | exact ((HCM5.out.box.drewN 1).alloc _).grown hg6 (fun e => HQA.out e.symm))
             obtain ⟨⟨r2, r3⟩, y2, y3⟩ := hbx6.c2))
        all_goals have HNEW := hide (CpSt.next HCM.out HPS.out HB.out HX.out HGM'.out HB5'.out (by first | exact below_drewN ((Below.refl _ _).alloc (Nat.le_refl _) _) 1 | exact (Below.refl _ _).alloc (Nat.le_refl _) _ | exact (below_drewN (Below.refl _ _) 1).alloc (Nat.le_refl _) _) hg6 hor6 hr6)
        all_goals go_wp2_with fail
        all_goals go_roundw
        all_goals first
          | exact ⟨k + 1, by omega, by go_num, HNEW.out⟩
          | (simp [intOf]; omega)
    · obtain rfl : k = n := by omega
      have HE := hide (show gs.take k = gs from List.take_of_length_le (by rw [← HN.out]; exact Nat.le_refl _))
      clear hcm hps hb
      go_wp2_with fail
      go_ret
      refine ⟨q, rfl, ?_, HB.out⟩
      have := HCM.out.tree (by rw [HPS.out, HE.out]; exact H.out.wf)
      rw [HPS.out, HE.out] at this
      exact this
end Go.Proofs.Ytjhnenljmmeflaa
