/- Contracts of the tree's calls that read, or move now: Undo. -/
import Derived.Test.YtjhnenljmmeflaaUndoM
import Derived.Deep.CutBlock
import Derived.Deep.DeepCutAuto
namespace Go.Proofs.Ytjhnenljmmeflaa
open Go.RowKit
set_option linter.unusedVariables false

/-- The cells of the group that is now, and the tree's own two. -/
theorem TreeM.at_now {w : World} {P : Nat → Prop} {t : Nat} {gs : List Grp} {now : Nat} (h : TreeM w P t gs now) {j : Nat} (hj : j < gs.length) :
    ∃ (g n c : Nat) (v : GV) (x : Grp), gs[j]? = some x ∧ GrpM w P v x ∧ n = gs.length ∧ n ≤ c ∧ c ≤ 9223372036854775807 ∧ P g ∧
      (w.cell? ⟨t, 0, none⟩ = some (.slice (some ⟨g, 0, none⟩) n c) ∧ w.cell? ⟨t, 1, none⟩ = some (.int .i64 (now : Int))) ∧
      (w.cell? ⟨g, j * 5, none⟩ = some (.slice v.L v.nL v.cL) ∧ w.cell? ⟨g, j * 5 + 1, none⟩ = some (.int .i64 x.before) ∧ w.cell? ⟨g, j * 5 + 2, none⟩ = some (.int .i64 (x.above : Int)) ∧
       w.cell? ⟨g, j * 5 + 3, none⟩ = some (.slice v.K v.nK v.cK) ∧ w.cell? ⟨g, j * 5 + 4, none⟩ = some (.int .i64 (x.picked : Int))) ∧
      (w.frozen? ⟨t, 0, none⟩ = false ∧ w.frozen? ⟨t, 1, none⟩ = false) ∧ w.frozen? ⟨g, j * 5 + 4, none⟩ = false ∧ w.frozen? ⟨g, j * 5 + 3, none⟩ = false := by
  obtain ⟨A, n, c, ps, rfl, h2, h3, h4, h5, h6⟩ := h.mem
  obtain ⟨p, hp⟩ : ∃ p, ps[j]? = some p := ⟨_, List.getElem?_eq_getElem (by simpa using hj)⟩
  have hv : (ps.map cellsP)[j]? = some (cellsP p) := by simp [hp]
  have hcap := h3.cap
  have hn : n = (ps.map (·.2)).length := by
    have := h3.cnt
    simp at this ⊢
    omega
  rcases h3.form with ⟨_, h0, _⟩ | ⟨g, rfl, _, _⟩
  · simp at hj
    simp at hn
    omega
  · have key : ∀ i u, i < 5 → (cellsP p)[i]? = some u → w.cell? ⟨g, j * 5 + i, none⟩ = some u := fun i u hi hu => by
      obtain ⟨g', e, hc, _⟩ := h3.cell hv hi hu
      cases e
      exact hc
    have fz : ∀ i, i < 5 → w.frozen? ⟨g, j * 5 + i, none⟩ = false := fun i hi => by
      obtain ⟨u, hu⟩ : ∃ u, (cellsP p)[i]? = some u := ⟨_, List.getElem?_eq_getElem hi⟩
      obtain ⟨g', e, _, hf⟩ := h3.cell hv hi hu
      cases e
      exact hf
    exact ⟨g, n, c, p.1, p.2, by simp [hp], h4 p (List.mem_of_getElem? hp), hn, hcap.1, hcap.2, h6 g rfl, h2.c2.1, ⟨key 0 _ (by omega) rfl, key 1 _ (by omega) rfl, key 2 _ (by omega) rfl, key 3 _ (by omega) rfl, key 4 _ (by omega) rfl⟩, h2.c2.2, fz 4 (by omega), fz 3 (by omega)⟩

/-- What Undo and Redo hand back: changes in new memory, a place, whether; the tree as it is then. -/
def MoveR (w : World) (P : Nat → Prop) (t : Nat) (gs : List Grp) (now' : Nat) (l : List Chg) (before : Int) (ok : Bool) (e : Ending) (w' : World) : Prop :=
  ∃ A n c vs, e = .returned (.tuple #[.slice A n c, .int .i64 before, .bool ok]) ∧ RowC w' w.heap.size A n c vs ∧ Elts w' w.heap.size vs l ∧ Ap vs ∧ TreeM w' P t gs now' ∧ Keeps (· = t) w w'

set_option maxRecDepth 100000 in
set_option maxHeartbeats 4000000 in
theorem undo_any (w : World) (P : Nat → Prop) (t : Nat) (gs : List Grp) (now : Nat) (x : Grp) (h : TreeM w P t gs now) (hx : gs[now]? = some x) (h0 : 0 < now) :
    Calls Try.prog 20 #[.pointer (some ⟨t, 0, none⟩)] w (MoveR w P t gs x.above (backC x.l) x.before true) := by
  have H := hide h
  obtain ⟨g, n, c, v, x', hx', hgm, hn, hnc, hcc, hPg, ⟨t0, t1⟩, ⟨c0, c1, c2, c3, c4⟩, ⟨z0, z1⟩, _, _⟩ := h.at_now h.wf.nw
  obtain rfl : x' = x := by rw [hx] at hx'; exact (Option.some.inj hx').symm
  have hnw := h.wf.nw
  have HG := hide hgm
  have hsz : gs.length ≤ 101 := h.wf.size
  have i0 : (0 : Int) ≤ (now : Int) := by omega
  have i1 : (now : Int) < (n : Int) := by omega
  have i2 : ((now : Int) == 0) = false := by simp; omega
  have HX := hide hx
  have HN := hide hn
  have hnb : n ≤ 101 := by omega
  have H0 := hide h0
  clear h hx hx' hgm hn h0
  have e0 := World.new_ne w _ t0
  have e1 := World.new_ne w _ t1
  have e2 := World.new_ne w _ c0
  have e3 := World.new_ne w _ c1
  have e4 := World.new_ne w _ c2
  have e5 := World.new_ne w _ c3
  have e6 := World.new_ne w _ c4
  go_enter Try.func20, Try.ntmps20
  go_wp2_with fail
  go_region_held3 (fun w' => w'.cell? ⟨t, 0, none⟩ = some (.slice (some ⟨g, 0, none⟩) n c) ∧ w'.cell? ⟨t, 1, none⟩ = some (.int .i64 (now : Int)) ∧
     w'.cell? ⟨g, now * 5, none⟩ = some (.slice v.L v.nL v.cL) ∧ w'.cell? ⟨g, now * 5 + 1, none⟩ = some (.int .i64 x'.before) ∧ w'.cell? ⟨g, now * 5 + 2, none⟩ = some (.int .i64 (x'.above : Int)) ∧
       w'.cell? ⟨g, now * 5 + 3, none⟩ = some (.slice v.K v.nK v.cK) ∧ w'.cell? ⟨g, now * 5 + 4, none⟩ = some (.int .i64 (x'.picked : Int)))
    (first | go_keep)
    (fail)
  rename_i hh
  clear hh
  have HT1 := hide (H.out.below (((Below.refl w.heap.size w).alloc (Nat.le_refl _) (.cells (cellsP (v, x')).toArray 75)).drew))
  have HX1 := hide ((Box.new w 75 (cellsP (v, x')).toArray).drew)
  have HK1 := hide (((Keeps.refl (· = t) w).alloc (.cells (cellsP (v, x')).toArray 75)).drew)
  have HB1 := hide (((Below.refl w.heap.size w).alloc (Nat.le_refl _) (.cells (cellsP (v, x')).toArray 75)).drew)
  generalize hW : (w.alloc _).drew = W1
  have hW' : (w.alloc (.cells (cellsP (v, x')).toArray 75)).drew = W1 := hW
  rw [hW'] at HT1 HX1 HK1 HB1
  clear hW hW' t0 t1 c0 c1 c2 c3 c4 z0 z1 e0 e2 e3 e4 e5 e6
  obtain ⟨_, _, _, _, _, _, _, _, _, _, _, ⟨t0, t1⟩, _, ⟨z0, z1⟩, _, _⟩ := HT1.out.at_now hnw
  have b0 : W1.cell? ⟨w.heap.size, 0, none⟩ = some (.slice v.L v.nL v.cL) := (HX1.out.cell 0).trans rfl
  have b1 : W1.cell? ⟨w.heap.size, 1, none⟩ = some (.int .i64 x'.before) := (HX1.out.cell 1).trans rfl
  have b2 : W1.cell? ⟨w.heap.size, 2, none⟩ = some (.int .i64 (x'.above : Int)) := (HX1.out.cell 2).trans rfl
  have hne := e1
  clear e1
  have hup : x'.above < gs.length := by
    have := H.out.wf.up _ _ HX.out H0.out
    omega
  have hll : v.us.length = v.nL := HG.out.row.len
  go_wp2_with fail
  have HT2 := hide (HT1.out.setNow hup)
  have HG2 := hide (by
    obtain ⟨cs, hbx⟩ := HT1.out.box
    exact (HG.out.same (fun g hg => HB1.out.block g (H.out.lt g hg)) (fun g hg => hg)).stay hbx (by decide) (by decide) (by decide) fun g _ hg => Below.heap_setCell W1 ⟨t, 1, none⟩ (.int .i64 (x'.above : Int)) g hg : GrpM (W1.setCell ⟨t, 1, none⟩ (.int .i64 (x'.above : Int))) P v x')
  have HX2 := hide (HX1.out.far (p := ⟨t, 1, none⟩) hne (.int .i64 (x'.above : Int)))
  have HK2 := hide (HK1.out.set (p := ⟨t, 1, none⟩) (fun _ => rfl) (.int .i64 (x'.above : Int)))
  generalize hW2 : W1.setCell ⟨t, 1, none⟩ (.int .i64 (x'.above : Int)) = W2 at HT2 HX2 HK2 HG2 ⊢
  clear hW2 t0 t1 z0 z1 b0 b1 b2 HT1 HX1 HK1
  have hrd := (HG2.out.els.chgs HG2.out.row)
  have HC := hide (fun W (hb : Below W2.heap.size W2 W) => cback_apart v.L v.nL v.cL _ x'.l W (hrd.below hb) (by rw [← hll]; have := H.out.wf.len _ _ HX.out; have := HG.out.els.len; omega))
  have b0 : W2.cell? ⟨w.heap.size, 0, none⟩ = some (.slice v.L v.nL v.cL) := (HX2.out.cell 0).trans rfl
  have b1 : W2.cell? ⟨w.heap.size, 1, none⟩ = some (.int .i64 x'.before) := (HX2.out.cell 1).trans rfl
  clear hrd
  go_region_held3 (fun w' => w'.cell? ⟨w.heap.size, 0, none⟩ = some (.slice v.L v.nL v.cL) ∧ w'.cell? ⟨w.heap.size, 1, none⟩ = some (.int .i64 x'.before))
    (first | go_keep)
    (first
     | (go_at_call 44; (with_reducible refine (HC.out _ (Below.refl _ _).drew).mono ?_); rintro e w3 ⟨A3, n3, c3, vs3, rfl, hr3, he3, ha3, hb3⟩; have k0 : w3.cell? ⟨w.heap.size, 0, none⟩ = some (.slice v.L v.nL v.cL) := ((HX2.out.drew.below hb3).cell 0).trans rfl; have k1 : w3.cell? ⟨w.heap.size, 1, none⟩ = some (.int .i64 x'.before) := ((HX2.out.drew.below hb3).cell 1).trans rfl))
  have hs2 := HK2.out.size
  have HR3 := hide (hr3.mono hs2)
  have HE3 := hide (he3.mono hs2)
  have HT3 := hide (HT2.out.below ((Below.refl _ W2).drew.trans hb3))
  have HK3 := hide (HK2.out.below ((Below.refl _ W2).drew.trans hb3))
  have HA3 := hide ha3
  clear hr3 he3 hb3 k0 k1 b0 b1 ha3
  go_wp2_with fail
  go_ret3
  exact ⟨A3, n3, c3, vs3, rfl, HR3.out, HE3.out, HA3.out, HT3.out, HK3.out⟩
end Go.Proofs.Ytjhnenljmmeflaa
