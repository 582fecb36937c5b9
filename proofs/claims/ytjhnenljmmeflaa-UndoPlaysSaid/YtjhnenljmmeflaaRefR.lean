/- The reference's tree: Redo with nothing below. -/
import Derived.Test.YtjhnenljmmeflaaRefN
namespace Go.Proofs.Ytjhnenljmmeflaa
open Go.RowKit
set_option linter.unusedVariables false

set_option maxRecDepth 100000 in
set_option maxHeartbeats 4000000 in
theorem rredo_none (w : World) (P : Nat → Prop) (t : Nat) (gs : List Grp) (now : Nat) (x : Grp) (h : TreeR w P t gs now) (hx : gs[now]? = some x) (hk : x.kids = []) :
    Calls Try.prog 53 #[.pointer (some ⟨t, 0, none⟩)] w (RMoveR w P t gs now [] 0 false) := by
  have H := hide h
  obtain ⟨g, n, c, v, x', hx', hgm, hn, hnc, hcc, hPg, ⟨t0, t1⟩, ⟨c0, c1, c2, c3, c4⟩, ⟨z0, z1⟩, _, _⟩ := h.at_now h.wf.nw
  obtain rfl : x' = x := by rw [hx] at hx'; exact (Option.some.inj hx').symm
  have hnw := h.wf.nw
  have hsz : gs.length ≤ 101 := h.wf.size
  have hkn : v.nK = 0 := by have := hgm.kids.cnt; rw [hk] at this; simpa [kidC] using this.symm
  have i0 : (0 : Int) ≤ (now : Int) := by omega
  have i1 : (now : Int) < (n : Int) := by omega
  have hnb : n ≤ 101 := by omega
  have HKN := hide hkn
  clear h hx hx' hgm hn hk hkn
  have e0 := World.new_ne w _ t0
  have e1 := World.new_ne w _ t1
  have e2 := World.new_ne w _ c0
  have e3 := World.new_ne w _ c1
  have e4 := World.new_ne w _ c2
  have e5 := World.new_ne w _ c3
  have e6 := World.new_ne w _ c4
  go_enter Try.func53, Try.ntmps53
  go_wp2_with fail
  go_region_held3 (fun w' => w'.cell? ⟨t, 0, none⟩ = some (.slice (some ⟨g, 0, none⟩) n c) ∧ w'.cell? ⟨t, 1, none⟩ = some (.int .i64 (now : Int)) ∧
     w'.cell? ⟨g, now * 5, none⟩ = some (.slice v.L v.nL v.cL) ∧ w'.cell? ⟨g, now * 5 + 1, none⟩ = some (.int .i64 x'.before) ∧ w'.cell? ⟨g, now * 5 + 2, none⟩ = some (.int .i64 (x'.above : Int)) ∧
       w'.cell? ⟨g, now * 5 + 3, none⟩ = some (.int .i64 (x'.picked : Int)) ∧ w'.cell? ⟨g, now * 5 + 4, none⟩ = some (.slice v.K v.nK v.cK))
    (first | go_keep)
    (fail)
  rename_i hh
  clear hh
  have HT1 := hide (H.out.below (((Below.refl w.heap.size w).alloc (Nat.le_refl _) (.cells (cellsR (v, x')).toArray 78)).drew))
  have HX1 := hide ((Box.new w 78 (cellsR (v, x')).toArray).drew)
  have HK1 := hide (((Keeps.refl (· = t) w).alloc (.cells (cellsR (v, x')).toArray 78)).drew)
  generalize hW : (w.alloc _).drew = W1
  have hW' : (w.alloc (.cells (cellsR (v, x')).toArray 78)).drew = W1 := hW
  rw [hW'] at HT1 HX1 HK1
  clear hW hW' t0 t1 c0 c1 c2 c3 c4 z0 z1 e0 e1 e2 e3 e4 e5 e6
  have b4 : W1.cell? ⟨w.heap.size, 4, none⟩ = some (.slice v.K 0 v.cK) := by
    have h4 : W1.cell? ⟨w.heap.size, 4, none⟩ = some (.slice v.K v.nK v.cK) := (HX1.out.cell 4).trans rfl
    rwa [HKN.out] at h4
  go_wp2_with fail
  go_ret3
  exact ⟨none, 0, 0, [], rfl, RowC.nil _ _, Elts.nil _ _, HT1.out, HK1.out⟩
set_option maxRecDepth 100000 in
set_option maxHeartbeats 4000000 in
theorem rredo_any (w : World) (P : Nat → Prop) (t : Nat) (gs : List Grp) (now k : Nat) (x y : Grp) (h : TreeR w P t gs now) (hx : gs[now]? = some x) (hk : x.kids[x.picked]? = some k) (hy : gs[k]? = some y) :
    Calls Try.prog 53 #[.pointer (some ⟨t, 0, none⟩)] w (RMoveR w P t gs k y.l y.before true) := by
  have H := hide h
  obtain ⟨g, n, c, v, x', hx', hgm, hn, hnc, hcc, hPg, ⟨t0, t1⟩, ⟨c0, c1, c2, c3, c4⟩, ⟨z0, z1⟩, _, _⟩ := h.at_now h.wf.nw
  obtain rfl : x' = x := by rw [hx] at hx'; exact (Option.some.inj hx').symm
  have hnw := h.wf.nw
  have hsz : gs.length ≤ 101 := h.wf.size
  have hpk : x'.picked < x'.kids.length := (List.getElem?_eq_some_iff.1 hk).1
  have hfew := h.wf.few _ _ hx
  have hkn : v.nK = x'.kids.length := by have := hgm.kids.cnt; simp [kidC] at this; omega
  have hkl : k < gs.length := (List.getElem?_eq_some_iff.1 hy).1
  have i2 : ((v.nK : Int) == 0) = false := by simp; omega
  have i3 : (0 : Int) ≤ (x'.picked : Int) := by omega
  have i4 : (x'.picked : Int) < (v.nK : Int) := by omega
  have HG := hide hgm
  have HK := hide hk
  have HY := hide hy
  have i0 : (0 : Int) ≤ (now : Int) := by omega
  have i1 : (now : Int) < (n : Int) := by omega
  have hnb : n ≤ 101 := by omega
  clear h hx hx' hgm hn hk hy hkn
  have e0 := World.new_ne w _ t0
  have e1 := World.new_ne w _ t1
  have e2 := World.new_ne w _ c0
  have e3 := World.new_ne w _ c1
  have e4 := World.new_ne w _ c2
  have e5 := World.new_ne w _ c3
  have e6 := World.new_ne w _ c4
  go_enter Try.func53, Try.ntmps53
  go_wp2_with fail
  go_region_held3 (fun w' => w'.cell? ⟨t, 0, none⟩ = some (.slice (some ⟨g, 0, none⟩) n c) ∧ w'.cell? ⟨t, 1, none⟩ = some (.int .i64 (now : Int)) ∧
     w'.cell? ⟨g, now * 5, none⟩ = some (.slice v.L v.nL v.cL) ∧ w'.cell? ⟨g, now * 5 + 1, none⟩ = some (.int .i64 x'.before) ∧ w'.cell? ⟨g, now * 5 + 2, none⟩ = some (.int .i64 (x'.above : Int)) ∧
       w'.cell? ⟨g, now * 5 + 3, none⟩ = some (.int .i64 (x'.picked : Int)) ∧ w'.cell? ⟨g, now * 5 + 4, none⟩ = some (.slice v.K v.nK v.cK))
    (first | go_keep)
    (fail)
  rename_i hh
  clear hh
  have HT1 := hide (H.out.below (((Below.refl w.heap.size w).alloc (Nat.le_refl _) (.cells (cellsR (v, x')).toArray 78)).drew))
  have HX1 := hide ((Box.new w 78 (cellsR (v, x')).toArray).drew)
  have HB1 := hide (((Below.refl w.heap.size w).alloc (Nat.le_refl _) (.cells (cellsR (v, x')).toArray 78)).drew)
  have HG1 := hide (HG.out.same (P := P) (Q := P) (fun g hg => HB1.out.block g (H.out.lt g hg)) (fun g hg => hg))
  have HK1 := hide (((Keeps.refl (· = t) w).alloc (.cells (cellsR (v, x')).toArray 78)).drew)
  generalize hW : (w.alloc _).drew = W1
  have hW' : (w.alloc (.cells (cellsR (v, x')).toArray 78)).drew = W1 := hW
  rw [hW'] at HT1 HX1 HK1 HB1 HG1
  clear hW hW' t0 t1 c0 c1 c2 c3 c4 z0 z1 e0 e1 e2 e3 e4 e5 e6
  obtain ⟨ga, na, ca, va, xa, hxa, _, hna, _, _, _, ⟨t0, t1⟩, _, ⟨z0, z1⟩, _⟩ := HT1.out.at_now hnw
  have b3 : W1.cell? ⟨w.heap.size, 4, none⟩ = some (.slice v.K v.nK v.cK) := (HX1.out.cell 4).trans rfl
  have b4 : W1.cell? ⟨w.heap.size, 3, none⟩ = some (.int .i64 (x'.picked : Int)) := (HX1.out.cell 3).trans rfl
  obtain ⟨gk, hgk, hck, _⟩ := HG1.out.kids.cell (kidC_get HK.out) (i := 0) (by omega) rfl
  rw [Nat.mul_one, Nat.add_zero] at hck
  rw [hgk] at b3
  go_wp2_with fail
  have HT2 := hide (HT1.out.setNow hkl)
  have HK2 := hide (HK1.out.set (p := ⟨t, 1, none⟩) (fun _ => rfl) (.int .i64 (k : Int)))
  generalize hW2 : W1.setCell ⟨t, 1, none⟩ (.int .i64 (k : Int)) = W2 at HT2 HK2 ⊢
  clear hW2 t0 t1 z0 z1 b3 b4 hck hna hxa HT1 HK1 HX1 HG1 HB1
  obtain ⟨gb, nb, cb, vb, y', hy', hgb, hnb', hnc', hcc', _, ⟨t0, t1⟩, ⟨c0, c1, c2, c3, c4⟩, _⟩ := HT2.out.at_now hkl
  obtain rfl : y' = y := by have := HY.out; rw [this] at hy'; exact (Option.some.inj hy').symm
  have j0 : (0 : Int) ≤ (k : Int) := by omega
  have j1 : (k : Int) < (nb : Int) := by omega
  have j2 : nb ≤ 101 := by omega
  have HGB := hide hgb
  have hrd := hgb.els.chgs hgb.row
  have hll : vb.us.length = vb.nL := hgb.row.len
  have HC := hide (fun W (hb : Below W2.heap.size W2 W) => rcopied_any vb.L vb.nL vb.cL _ y'.l W (hrd.below hb) (by rw [← hll]; have := HT2.out.wf.len _ _ HY.out; have := HGB.out.els.len; omega))
  clear hy' hgb hnb' hrd hll
  go_wp2_with fail
  go_region_held3 (fun w' => w'.cell? ⟨t, 0, none⟩ = some (.slice (some ⟨gb, 0, none⟩) nb cb) ∧ w'.cell? ⟨t, 1, none⟩ = some (.int .i64 (k : Int)) ∧ w'.cell? ⟨gb, k * 5, none⟩ = some (.slice vb.L vb.nL vb.cL) ∧ w'.cell? ⟨gb, k * 5 + 1, none⟩ = some (.int .i64 y'.before))
    (first | go_keep)
    (first
     | (go_at_call 66; (with_reducible refine (HC.out _ (Below.refl _ _).drew).mono ?_); rintro e w4 ⟨A4, n4, c4', vs4, rfl, hr4, he4, hb4⟩
        have hbq : Below W2.heap.size W2 w4 := (Below.refl _ W2).drew.trans hb4
        have htl := HT2.out.lt
        obtain ⟨gx, _, _, _, hgx, hTR⟩ := HT2.out.mem
        have k0 := (hbq.cell (p := ⟨t, 0, none⟩) hTR.box.lt).trans t0
        have k1 := (hbq.cell (p := ⟨t, 1, none⟩) hTR.box.lt).trans t1
        have hgbl : gb < W2.heap.size := World.block_lt_of_cell? W2 _ c0
        have k2 := (hbq.cell (p := ⟨gb, k * 5, none⟩) hgbl).trans c0
        have k3 := (hbq.cell (p := ⟨gb, k * 5 + 1, none⟩) hgbl).trans c1))
  have hs2 := HK2.out.size
  have HR4 := hide (hr4.mono hs2)
  have HE4 := hide (he4.mono hs2)
  have HT4 := hide (HT2.out.below ((Below.refl _ W2).drew.trans hb4))
  have HK4 := hide (HK2.out.below ((Below.refl _ W2).drew.trans hb4))
  clear hr4 he4 hb4
  go_wp2_with fail
  go_ret3
  exact ⟨A4, n4, c4', vs4, rfl, HR4.out, HE4.out, HT4.out, HK4.out⟩
end Go.Proofs.Ytjhnenljmmeflaa
