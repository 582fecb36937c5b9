/- Contracts of the tree's Redo, Pick and New. -/
import Derived.Test.YtjhnenljmmeflaaUndoG
import Derived.Laws.MakeOwn
namespace Go.Proofs.Ytjhnenljmmeflaa
open Go.RowKit
set_option linter.unusedVariables false

theorem KAp.root (v : GV) : KAp [(v, root0)] := fun i j p q hp hq hij => by
  match i, j, hp, hq with
  | 0, 0, _, _ => exact absurd rfl hij
  | 0, j + 1, _, hq => simp at hq
  | i + 1, _, hp, _ => simp at hp

def NewT (w : World) (e : Ending) (w' : World) : Prop :=
  ∃ t, e = .returned (.pointer (some ⟨t, 0, none⟩)) ∧ TreeM w' (fun g => w.heap.size ≤ g ∧ g < w'.heap.size) t [root0] 0 ∧ Below w.heap.size w w'

def GV0 : GV := ⟨none, 0, 0, [], none, 0, 0⟩
theorem GrpM.root (w : World) (P : Nat → Prop) : GrpM w P GV0 root0 :=
  ⟨RowC.nil _ _, Elts.nil _ _, RowG.nil _ _ _ _, (fun g h => by cases h), (fun g h => by cases h), (fun u h => by cases h)⟩

theorem run_makeG (W : World) : (Instr.makeSlice 70 (.int .i64 1) (.int .i64 1)).run Try.prog W = .ok (.slice (some ⟨W.heap.size, 0, none⟩) 1 1) (W.alloc (.cells (cellsP (GV0, root0)).toArray 75)) := by
  obtain ⟨z, hzs, hinfo⟩ := groupT.info
  obtain rfl : z = .agg #[.slice none 0 0, .int .i64 0, .int .i64 0, .slice none 0 0, .int .i64 0] := by
    have h : (Try.prog.info? 75).map (fun i => (i.zero, i.size, i.bytes)) = some (some (.agg #[.slice none 0 0, .int .i64 0, .int .i64 0, .slice none 0 0, .int .i64 0]), 5, 72) := by kernel_rfl
    rw [h] at hinfo
    injection hinfo with hinfo
    injection hinfo with hinfo _
    injection hinfo with hinfo
    exact hinfo.symm
  obtain ⟨i0, hi, hz0, hz1, hz2⟩ := info_parts hinfo
  have h := run_make (P := Try.prog) W 70 75 i0 _ Try.underlying70 hi hz0 .i64 .i64 1 1 (by omega) (by omega) (by rw [hz2]; omega) (by omega)
  rw [hz1] at h
  have e : madeCells (Value.agg #[.slice none 0 0, .int .i64 0, .int .i64 0, .slice none 0 0, .int .i64 0]).cells (Int.toNat 1 * 5) = (cellsP (GV0, root0)).toArray := by kernel_rfl
  rw [e] at h
  exact h

set_option maxHeartbeats 4000000 in
theorem new_any (w : World) : Calls Try.prog 15 #[] w (NewT w) := by
  go_enter Try.func15, Try.ntmps15
  have hm := run_makeG w
  have hX0 := Box.new w 75 (cellsP (GV0, root0)).toArray
  have HX0 := hide hX0
  have HB0 := hide ((Below.refl w.heap.size w).alloc (Nat.le_refl _) (.cells (cellsP (GV0, root0)).toArray 75))
  generalize hW : w.alloc (.cells (cellsP (GV0, root0)).toArray 75) = W1 at hm HX0 HB0
  have hs : W1.heap.size = w.heap.size + 1 := by rw [← hW]; simp
  have HS := hide hs
  clear hW hX0 hs
  go_wp2_with fail
  go_ret
  have hT := Box.new W1 72 #[.slice (some ⟨w.heap.size, 0, none⟩) 1 1, .int .i64 0]
  have hG := HX0.out.alloc (.cells #[.slice (some ⟨w.heap.size, 0, none⟩) 1 1, .int .i64 0] 72)
  have hs := HS.out
  refine ⟨W1.heap.size, rfl, ⟨WF.root, fun g hg => hg.2, ⟨by omega, by simp⟩, some ⟨w.heap.size, 0, none⟩, 1, 1, [(GV0, root0)], rfl, hT,
    RowG.ofBox hG (Nat.zero_le _) (each_P _) rfl rfl (by decide), fun p hp => ?_, KAp.root _, fun g hg => ?_⟩, HB0.out.alloc HB0.out.size _⟩
  · obtain rfl := List.mem_singleton.1 hp
    exact GrpM.root _ _
  · injection hg with hg
    have hg' : w.heap.size = g := hg
    simp
    omega

set_option maxRecDepth 100000 in
set_option maxHeartbeats 4000000 in
theorem redo_none (w : World) (P : Nat → Prop) (t : Nat) (gs : List Grp) (now : Nat) (x : Grp) (h : TreeM w P t gs now) (hx : gs[now]? = some x) (hk : x.kids = []) :
    Calls Try.prog 23 #[.pointer (some ⟨t, 0, none⟩)] w (MoveR w P t gs now [] 0 false) := by
  have H := hide h
  obtain ⟨g, n, c, v, x', hx', hgm, hn, hnc, hcc, hPg, ⟨t0, t1⟩, ⟨c0, c1, c2, c3, c4⟩, _⟩ := h.at_now h.wf.nw
  obtain rfl : x' = x := by rw [hx] at hx'; exact (Option.some.inj hx').symm
  have hnw := h.wf.nw
  have hsz : gs.length ≤ 101 := h.wf.size
  have hkn : v.nK = 0 := by have := hgm.kids.cnt; rw [hk] at this; simpa [kidC] using this.symm
  rw [hkn] at c3
  have i0 : (0 : Int) ≤ (now : Int) := by omega
  have i1 : (now : Int) < (n : Int) := by omega
  clear h hx hx' hgm hn hkn hk
  go_enter Try.func23, Try.ntmps23
  go_wp2_with fail
  go_quiet (fail)
  go_wp2_with fail
  go_ret3
  exact ⟨none, 0, 0, [], rfl, RowC.nil _ _, Elts.nil _ _, Ap.nil, H.out.below (below_drewN (Below.refl _ _) _), (Keeps.refl _ _).drewN _⟩
end Go.Proofs.Ytjhnenljmmeflaa
