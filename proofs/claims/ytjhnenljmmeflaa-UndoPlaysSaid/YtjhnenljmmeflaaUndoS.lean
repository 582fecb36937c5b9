/- Contracts of the tree's Redo and Pick. -/
import Derived.Test.YtjhnenljmmeflaaUndoR
namespace Go.Proofs.Ytjhnenljmmeflaa
open Go.RowKit
set_option linter.unusedVariables false

theorem kidC_get {ks : List Nat} {i k : Nat} (h : ks[i]? = some k) : (kidC ks)[i]? = some [Value.int .i64 (k : Int)] := by
  simp [kidC, h]

set_option maxRecDepth 100000 in
set_option maxHeartbeats 8000000 in
theorem redo_any (w : World) (P : Nat → Prop) (t : Nat) (gs : List Grp) (now k : Nat) (x y : Grp) (h : TreeM w P t gs now) (hx : gs[now]? = some x) (hk : x.kids[x.picked]? = some k) (hy : gs[k]? = some y) :
    Calls Try.prog 23 #[.pointer (some ⟨t, 0, none⟩)] w (MoveR w P t gs k y.l y.before true) := by
  have H := hide h
  obtain ⟨g, n, c, v, x', hx', hgm, hn, hnc, hcc, hPg, ⟨t0, t1⟩, ⟨c0, c1, c2, c3, c4⟩, ⟨z0, z1⟩, _⟩ := h.at_now h.wf.nw
  obtain rfl : x' = x := by rw [hx] at hx'; exact (Option.some.inj hx').symm
  have hnw := h.wf.nw
  have hsz : gs.length ≤ 101 := h.wf.size
  have hpk : x'.picked < x'.kids.length := (List.getElem?_eq_some_iff.1 hk).1
  have hfew := h.wf.few _ _ hx
  have hkn : v.nK = x'.kids.length := by have := hgm.kids.cnt; simp [kidC] at this; omega
  have hkl : k < gs.length := (List.getElem?_eq_some_iff.1 hy).1
  have i0 : (0 : Int) ≤ (now : Int) := by omega
  have i1 : (now : Int) < (n : Int) := by omega
  have i2 : ((v.nK : Int) == 0) = false := by simp; omega
  have i3 : (0 : Int) ≤ (x'.picked : Int) := by omega
  have i4 : (x'.picked : Int) < (v.nK : Int) := by omega
  have HG := hide hgm
  have HX := hide hx
  have HK := hide hk
  have HY := hide hy
  have hnb : n ≤ 101 := by omega
  have hnn := hide hn
  clear h hx hx' hgm hn hk hy hkn
  go_enter Try.func23, Try.ntmps23
  go_wp2_with fail
  go_quiet (fail)
  go_wp2_with fail
  have HT0 := hide (H.out.below (below_drewN (Below.refl _ _) nq))
  have HG0 := hide (HG.out.same (P := P) (Q := P) (w' := w.drewN nq) (fun g hg => rfl) (fun g hg => hg))
  have HK0 := hide ((Keeps.refl (· = t) w).drewN nq)
  have hz0 : (w.drewN nq).heap.size = w.heap.size := rfl
  have hcs : ((w.drewN nq).cell? ⟨t, 0, none⟩ = some (.slice (some ⟨g, 0, none⟩) n c) ∧ (w.drewN nq).cell? ⟨t, 1, none⟩ = some (.int .i64 (now : Int))) ∧
     ((w.drewN nq).cell? ⟨g, now * 5, none⟩ = some (.slice v.L v.nL v.cL) ∧ (w.drewN nq).cell? ⟨g, now * 5 + 1, none⟩ = some (.int .i64 x'.before) ∧ (w.drewN nq).cell? ⟨g, now * 5 + 2, none⟩ = some (.int .i64 (x'.above : Int)) ∧
       (w.drewN nq).cell? ⟨g, now * 5 + 3, none⟩ = some (.slice v.K v.nK v.cK) ∧ (w.drewN nq).cell? ⟨g, now * 5 + 4, none⟩ = some (.int .i64 (x'.picked : Int))) := ⟨⟨t0, t1⟩, c0, c1, c2, c3, c4⟩
  generalize hW0 : w.drewN nq = W0 at HT0 HG0 HK0 hz0 hcs ⊢
  clear hW0 t0 t1 c0 c1 c2 c3 c4 z0 z1 HG
  obtain ⟨⟨t0, t1⟩, c0, c1, c2, c3, c4⟩ := hcs
  have e0 := World.new_ne W0 _ t0
  have e1 := World.new_ne W0 _ t1
  have e2 := World.new_ne W0 _ c0
  have e3 := World.new_ne W0 _ c1
  have e4 := World.new_ne W0 _ c2
  have e5 := World.new_ne W0 _ c3
  have e6 := World.new_ne W0 _ c4
  have HZ0 := hide hz0
  clear hz0
  go_region_held3 (fun w' => w'.cell? ⟨t, 0, none⟩ = some (.slice (some ⟨g, 0, none⟩) n c) ∧ w'.cell? ⟨t, 1, none⟩ = some (.int .i64 (now : Int)) ∧
     w'.cell? ⟨g, now * 5, none⟩ = some (.slice v.L v.nL v.cL) ∧ w'.cell? ⟨g, now * 5 + 1, none⟩ = some (.int .i64 x'.before) ∧ w'.cell? ⟨g, now * 5 + 2, none⟩ = some (.int .i64 (x'.above : Int)) ∧
       w'.cell? ⟨g, now * 5 + 3, none⟩ = some (.slice v.K v.nK v.cK) ∧ w'.cell? ⟨g, now * 5 + 4, none⟩ = some (.int .i64 (x'.picked : Int)))
    (first | go_keep)
    (fail)
  rename_i hh
  clear hh
  have HB1 := hide (((Below.refl W0.heap.size W0).alloc (Nat.le_refl _) (.cells (cellsP (v, x')).toArray 75)).drew)
  have HT1 := hide (HT0.out.below HB1.out)
  have HG1 := hide (HG0.out.same (P := P) (Q := P) (fun g hg => HB1.out.block g (HT0.out.lt g hg)) (fun g hg => hg))
  have HX1 := hide ((Box.new W0 75 (cellsP (v, x')).toArray).drew)
  have HK1 := hide ((HK0.out.alloc (.cells (cellsP (v, x')).toArray 75)).drew)
  generalize hW : (W0.alloc _).drew = W1
  have hW' : (W0.alloc (.cells (cellsP (v, x')).toArray 75)).drew = W1 := hW
  rw [hW'] at HT1 HX1 HK1 HB1 HG1
  clear hW hW' t0 t1 c0 c1 c2 c3 c4 e0 e2 e3 e4 e5 e6
  have hne := e1
  clear e1
  obtain ⟨ga, na, ca, va, xa, hxa, _, hna, _, _, _, ⟨t0, t1⟩, _, ⟨z0, z1⟩, _⟩ := HT1.out.at_now hnw
  have b3 : W1.cell? ⟨W0.heap.size, 3, none⟩ = some (.slice v.K v.nK v.cK) := (HX1.out.cell 3).trans rfl
  have b4 : W1.cell? ⟨W0.heap.size, 4, none⟩ = some (.int .i64 (x'.picked : Int)) := (HX1.out.cell 4).trans rfl
  obtain ⟨gk, hgk, hck, _⟩ := HG1.out.kids.cell (kidC_get HK.out) (i := 0) (by omega) rfl
  rw [Nat.mul_one, Nat.add_zero] at hck
  rw [hgk] at b3
  go_wp2_with fail
  have HT2 := hide (HT1.out.setNow hkl)
  have HK2 := hide (HK1.out.set (p := ⟨t, 1, none⟩) (fun _ => rfl) (.int .i64 (k : Int)))
  generalize hW2 : W1.setCell ⟨t, 1, none⟩ (.int .i64 (k : Int)) = W2 at HT2 HK2 ⊢
  clear hW2 t0 t1 z0 z1 b3 b4 hck hna hxa HT1 HK1 HX1 HG1 HB1 HT0 HG0 HK0
  obtain ⟨gb, nb, cb, vb, y', hy', hgb, hnb', hnc', hcc', _, ⟨t0, t1⟩, ⟨c0, c1, c2, c3, c4⟩, _⟩ := HT2.out.at_now hkl
  obtain rfl : y' = y := by have := HY.out; rw [this] at hy'; exact (Option.some.inj hy').symm
  have j0 : (0 : Int) ≤ (k : Int) := by omega
  have j1 : (k : Int) < (nb : Int) := by omega
  have j2 : nb ≤ 101 := by omega
  have HGB := hide hgb
  clear hy' hgb hnb'
  have e0 := World.new_ne W2 _ t0
  have e1 := World.new_ne W2 _ t1
  have e2 := World.new_ne W2 _ c0
  have e3 := World.new_ne W2 _ c1
  have e4 := World.new_ne W2 _ c2
  have e5 := World.new_ne W2 _ c3
  have e6 := World.new_ne W2 _ c4
  go_region_held3 (fun w' => w'.cell? ⟨t, 0, none⟩ = some (.slice (some ⟨gb, 0, none⟩) nb cb) ∧ w'.cell? ⟨t, 1, none⟩ = some (.int .i64 (k : Int)) ∧
     w'.cell? ⟨gb, k * 5, none⟩ = some (.slice vb.L vb.nL vb.cL) ∧ w'.cell? ⟨gb, k * 5 + 1, none⟩ = some (.int .i64 y'.before) ∧ w'.cell? ⟨gb, k * 5 + 2, none⟩ = some (.int .i64 (y'.above : Int)) ∧
       w'.cell? ⟨gb, k * 5 + 3, none⟩ = some (.slice vb.K vb.nK vb.cK) ∧ w'.cell? ⟨gb, k * 5 + 4, none⟩ = some (.int .i64 (y'.picked : Int)))
    (first | go_keep)
    (fail)
  rename_i hh
  clear hh
  have HB3 := hide (((Below.refl W2.heap.size W2).alloc (Nat.le_refl _) (.cells (cellsP (vb, y')).toArray 75)).drew)
  have HT3 := hide (HT2.out.below HB3.out)
  have HG3 := hide (HGB.out.same (P := P) (Q := P) (fun g hg => HB3.out.block g (HT2.out.lt g hg)) (fun g hg => hg))
  have HX3 := hide ((Box.new W2 75 (cellsP (vb, y')).toArray).drew)
  have HK3 := hide ((HK2.out.alloc (.cells (cellsP (vb, y')).toArray 75)).drew)
  generalize hW : (W2.alloc _).drew = W3
  have hW' : (W2.alloc (.cells (cellsP (vb, y')).toArray 75)).drew = W3 := hW
  rw [hW'] at HT3 HX3 HK3 HB3 HG3
  clear hW hW' t0 t1 c0 c1 c2 c3 c4 e0 e1 e2 e3 e4 e5 e6
  have hrd := (HG3.out.els.chgs HG3.out.row)
  have hll : vb.us.length = vb.nL := HG3.out.row.len
  have HC := hide (fun W (hb : Below W3.heap.size W3 W) => ccopy_any vb.L vb.nL vb.cL _ y'.l W (hrd.below hb) (by rw [← hll]; have := HT3.out.wf.len _ _ HY.out; have := HG3.out.els.len; omega))
  have b0 : W3.cell? ⟨W2.heap.size, 0, none⟩ = some (.slice vb.L vb.nL vb.cL) := (HX3.out.cell 0).trans rfl
  have b1 : W3.cell? ⟨W2.heap.size, 1, none⟩ = some (.int .i64 y'.before) := (HX3.out.cell 1).trans rfl
  clear hrd hll
  go_wp2_with fail
  go_region_held3 (fun w' => w'.cell? ⟨W2.heap.size, 0, none⟩ = some (.slice vb.L vb.nL vb.cL) ∧ w'.cell? ⟨W2.heap.size, 1, none⟩ = some (.int .i64 y'.before))
    (first | go_keep)
    (first
     | (go_at_call 51; (with_reducible refine (HC.out _ (Below.refl _ _).drew).mono ?_); rintro e w4 ⟨A4, n4, c4, vs4, rfl, hr4, he4, ha4, hb4⟩; have k0 : w4.cell? ⟨W2.heap.size, 0, none⟩ = some (.slice vb.L vb.nL vb.cL) := ((HX3.out.drew.below hb4).cell 0).trans rfl; have k1 : w4.cell? ⟨W2.heap.size, 1, none⟩ = some (.int .i64 y'.before) := ((HX3.out.drew.below hb4).cell 1).trans rfl))
  have hs3 := HK3.out.size
  have HR4 := hide (hr4.mono hs3)
  have HE4 := hide (he4.mono hs3)
  have HT4 := hide (HT3.out.below ((Below.refl _ W3).drew.trans hb4))
  have HK4 := hide (HK3.out.below ((Below.refl _ W3).drew.trans hb4))
  have HA4 := hide ha4
  clear hr4 he4 hb4 k0 k1 b0 b1 ha4
  go_wp2_with fail
  go_ret3
  exact ⟨A4, n4, c4, vs4, rfl, HR4.out, HE4.out, HA4.out, HT4.out, HK4.out⟩
end Go.Proofs.Ytjhnenljmmeflaa
