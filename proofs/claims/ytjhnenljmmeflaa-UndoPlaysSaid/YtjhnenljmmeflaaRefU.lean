/- The reference's tree: Undo. -/
import Derived.Test.YtjhnenljmmeflaaRefP
namespace Go.Proofs.Ytjhnenljmmeflaa
open Go.RowKit
set_option linter.unusedVariables false

theorem TreeR.lt {w : World} {P : Nat → Prop} {t : Nat} {gs : List Grp} {now : Nat} (h : TreeR w P t gs now) : ∀ b, P b → b < w.heap.size := by
  obtain ⟨g, n, c, ps, h1, h2⟩ := h.mem
  exact h2.lt
theorem TreeR.box {w : World} {P : Nat → Prop} {t : Nat} {gs : List Grp} {now : Nat} (h : TreeR w P t gs now) : ∃ cs, Box w t 81 cs := by
  obtain ⟨g, n, c, ps, h1, h2⟩ := h.mem
  exact ⟨_, h2.box⟩
theorem TreeR.setNow {w : World} {P : Nat → Prop} {t : Nat} {gs : List Grp} {now now' : Nat} (h : TreeR w P t gs now) (hn : now' < gs.length) : TreeR (w.setCell ⟨t, 1, none⟩ (.int .i64 (now' : Int))) P t gs now' := by
  obtain ⟨g, n, c, ps, h1, h2⟩ := h.mem
  exact ⟨h.wf.move hn, g, n, c, ps, h1, h2.setNow now'⟩
/-- What the reference's Undo and Redo hand back. -/
def RMoveR (w : World) (P : Nat → Prop) (t : Nat) (gs : List Grp) (now' : Nat) (l : List Chg) (before : Int) (ok : Bool) (e : Ending) (w' : World) : Prop :=
  ∃ A n c vs, e = .returned (.tuple #[.slice A n c, .int .i64 before, .bool ok]) ∧ RowC w' w.heap.size A n c vs ∧ Elts w' w.heap.size vs l ∧ TreeR w' P t gs now' ∧ Keeps (· = t) w w'

set_option maxRecDepth 100000 in
set_option maxHeartbeats 4000000 in
theorem rundo_any (w : World) (P : Nat → Prop) (t : Nat) (gs : List Grp) (now : Nat) (x : Grp) (h : TreeR w P t gs now) (hx : gs[now]? = some x) (h0 : 0 < now) :
    Calls Try.prog 52 #[.pointer (some ⟨t, 0, none⟩)] w (RMoveR w P t gs x.above (backC x.l) x.before true) := by
  have H := hide h
  obtain ⟨g, n, c, v, x', hx', hgm, hn, hnc, hcc, hPg, ⟨t0, t1⟩, ⟨c0, c1, c2, c3, c4⟩, ⟨z0, z1⟩, _, _⟩ := h.at_now h.wf.nw
  obtain rfl : x' = x := by rw [hx] at hx'; exact (Option.some.inj hx').symm
  have hnw := h.wf.nw
  have HG := hide hgm
  have hsz : gs.length ≤ 101 := h.wf.size
  have i0 : (0 : Int) ≤ (now : Int) := by omega
  have i1 : (now : Int) < (n : Int) := by omega
  have i2 : ((now : Int) == 0) = false := by simp; omega
  have HX := hide hx
  have HN := hide hn
  have hnb : n ≤ 101 := by omega
  have H0 := hide h0
  clear h hx hx' hgm hn h0
  have e0 := World.new_ne w _ t0
  have e1 := World.new_ne w _ t1
  have e2 := World.new_ne w _ c0
  have e3 := World.new_ne w _ c1
  have e4 := World.new_ne w _ c2
  have e5 := World.new_ne w _ c3
  have e6 := World.new_ne w _ c4
  go_enter Try.func52, Try.ntmps52
  go_wp2_with fail
  go_region_held3 (fun w' => w'.cell? ⟨t, 0, none⟩ = some (.slice (some ⟨g, 0, none⟩) n c) ∧ w'.cell? ⟨t, 1, none⟩ = some (.int .i64 (now : Int)) ∧
     w'.cell? ⟨g, now * 5, none⟩ = some (.slice v.L v.nL v.cL) ∧ w'.cell? ⟨g, now * 5 + 1, none⟩ = some (.int .i64 x'.before) ∧ w'.cell? ⟨g, now * 5 + 2, none⟩ = some (.int .i64 (x'.above : Int)) ∧
       w'.cell? ⟨g, now * 5 + 3, none⟩ = some (.int .i64 (x'.picked : Int)) ∧ w'.cell? ⟨g, now * 5 + 4, none⟩ = some (.slice v.K v.nK v.cK))
    (first | go_keep)
    (fail)
  rename_i hh
  clear hh
  have HT1 := hide (H.out.below (((Below.refl w.heap.size w).alloc (Nat.le_refl _) (.cells (cellsR (v, x')).toArray 78)).drew))
  have HX1 := hide ((Box.new w 78 (cellsR (v, x')).toArray).drew)
  have HK1 := hide (((Keeps.refl (· = t) w).alloc (.cells (cellsR (v, x')).toArray 78)).drew)
  have HB1 := hide (((Below.refl w.heap.size w).alloc (Nat.le_refl _) (.cells (cellsR (v, x')).toArray 78)).drew)
  generalize hW : (w.alloc _).drew = W1
  have hW' : (w.alloc (.cells (cellsR (v, x')).toArray 78)).drew = W1 := hW
  rw [hW'] at HT1 HX1 HK1 HB1
  clear hW hW' t0 t1 c0 c1 c2 c3 c4 z0 z1 e0 e2 e3 e4 e5 e6
  obtain ⟨_, _, _, _, _, _, _, _, _, _, _, ⟨t0, t1⟩, _, ⟨z0, z1⟩, _, _⟩ := HT1.out.at_now hnw
  have b0 : W1.cell? ⟨w.heap.size, 0, none⟩ = some (.slice v.L v.nL v.cL) := (HX1.out.cell 0).trans rfl
  have b1 : W1.cell? ⟨w.heap.size, 1, none⟩ = some (.int .i64 x'.before) := (HX1.out.cell 1).trans rfl
  have b2 : W1.cell? ⟨w.heap.size, 2, none⟩ = some (.int .i64 (x'.above : Int)) := (HX1.out.cell 2).trans rfl
  have hne := e1
  clear e1
  have hup : x'.above < gs.length := by
    have := H.out.wf.up _ _ HX.out H0.out
    omega
  have hll : v.us.length = v.nL := HG.out.row.len
  go_wp2_with fail
  have HT2 := hide (HT1.out.setNow hup)
  have HG2 := hide (by
    obtain ⟨cs, hbx⟩ := HT1.out.box
    exact (HG.out.same (fun g hg => HB1.out.block g (H.out.lt g hg)) (fun g hg => hg)).stay hbx (by decide) (by decide) (by decide) fun g _ hg => Below.heap_setCell W1 ⟨t, 1, none⟩ (.int .i64 (x'.above : Int)) g hg : GrpM (W1.setCell ⟨t, 1, none⟩ (.int .i64 (x'.above : Int))) P v x')
  have HX2 := hide (HX1.out.far (p := ⟨t, 1, none⟩) hne (.int .i64 (x'.above : Int)))
  have HK2 := hide (HK1.out.set (p := ⟨t, 1, none⟩) (fun _ => rfl) (.int .i64 (x'.above : Int)))
  generalize hW2 : W1.setCell ⟨t, 1, none⟩ (.int .i64 (x'.above : Int)) = W2 at HT2 HX2 HK2 HG2 ⊢
  clear hW2 t0 t1 z0 z1 b0 b1 b2 HT1 HX1 HK1
  have hrd := (HG2.out.els.chgs HG2.out.row)
  have HC := hide (fun W (hb : Below W2.heap.size W2 W) => rback_any v.L v.nL v.cL _ x'.l W (hrd.below hb) (by rw [← hll]; have := H.out.wf.len _ _ HX.out; have := HG.out.els.len; omega))
  have b0 : W2.cell? ⟨w.heap.size, 0, none⟩ = some (.slice v.L v.nL v.cL) := (HX2.out.cell 0).trans rfl
  have b1 : W2.cell? ⟨w.heap.size, 1, none⟩ = some (.int .i64 x'.before) := (HX2.out.cell 1).trans rfl
  clear hrd
  go_region_held3 (fun w' => w'.cell? ⟨w.heap.size, 0, none⟩ = some (.slice v.L v.nL v.cL) ∧ w'.cell? ⟨w.heap.size, 1, none⟩ = some (.int .i64 x'.before))
    (first | go_keep)
    (first
     | (go_at_call 46; (with_reducible refine (HC.out _ (Below.refl _ _).drew).mono ?_); rintro e w3 ⟨A3, n3, c3, vs3, rfl, hr3, he3, hb3⟩; have k0 : w3.cell? ⟨w.heap.size, 0, none⟩ = some (.slice v.L v.nL v.cL) := ((HX2.out.drew.below hb3).cell 0).trans rfl; have k1 : w3.cell? ⟨w.heap.size, 1, none⟩ = some (.int .i64 x'.before) := ((HX2.out.drew.below hb3).cell 1).trans rfl))
  have hs2 := HK2.out.size
  have HR3 := hide (hr3.mono hs2)
  have HE3 := hide (he3.mono hs2)
  have HT3 := hide (HT2.out.below ((Below.refl _ W2).drew.trans hb3))
  have HK3 := hide (HK2.out.below ((Below.refl _ W2).drew.trans hb3))
  clear hr3 he3 hb3 k0 k1 b0 b1
  go_wp2_with fail
  go_ret3
  exact ⟨A3, n3, c3, vs3, rfl, HR3.out, HE3.out, HT3.out, HK3.out⟩
end Go.Proofs.Ytjhnenljmmeflaa
