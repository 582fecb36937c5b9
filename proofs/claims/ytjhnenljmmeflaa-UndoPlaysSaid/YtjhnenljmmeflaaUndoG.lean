/- Contracts of the tree's calls that read, or move now: Undo at the root, Redo, Kids, Undos. -/
import Derived.Test.YtjhnenljmmeflaaUndoF
import Derived.Deep.LoopGhost
namespace Go.Proofs.Ytjhnenljmmeflaa
open Go.RowKit
set_option linter.unusedVariables false

set_option maxRecDepth 100000 in
set_option maxHeartbeats 4000000 in
theorem undo_root (w : World) (P : Nat → Prop) (t : Nat) (gs : List Grp) (h : TreeM w P t gs 0) :
    Calls Try.prog 20 #[.pointer (some ⟨t, 0, none⟩)] w (MoveR w P t gs 0 [] 0 false) := by
  have H := hide h
  obtain ⟨g, n, c, v, x', hx', hgm, hn, hnc, hcc, hPg, ⟨t0, t1⟩, _⟩ := h.at_now h.wf.nw
  clear h hx' hgm hn
  have t1' : w.cell? ⟨t, 1, none⟩ = some (.int .i64 0) := t1
  clear t1
  go_enter Try.func20, Try.ntmps20
  go_wp2_with fail
  go_ret3
  exact ⟨none, 0, 0, [], rfl, RowC.nil _ _, Elts.nil _ _, Ap.nil, H.out, Keeps.refl _ _⟩

set_option maxRecDepth 100000 in
set_option maxHeartbeats 4000000 in
theorem kids_any (w : World) (P : Nat → Prop) (t : Nat) (gs : List Grp) (now : Nat) (x : Grp) (h : TreeM w P t gs now) (hx : gs[now]? = some x) :
    Calls Try.prog 26 #[.pointer (some ⟨t, 0, none⟩)] w fun e w' => e = .returned (.int .i64 (x.kids.length : Int)) ∧ ∃ q, w' = w.drewN q := by
  obtain ⟨g, n, c, v, x', hx', hgm, hn, hnc, hcc, hPg, ⟨t0, t1⟩, ⟨c0, c1, c2, c3, c4⟩, _⟩ := h.at_now h.wf.nw
  obtain rfl : x' = x := by rw [hx] at hx'; exact (Option.some.inj hx').symm
  have hnw := h.wf.nw
  have hsz : gs.length ≤ 101 := h.wf.size
  have hkn : v.nK = x'.kids.length := by have := hgm.kids.cnt; simp [kidC] at this; omega
  have HK := hide hkn
  have i0 : (0 : Int) ≤ (now : Int) := by omega
  have i1 : (now : Int) < (n : Int) := by omega
  have hnb : n ≤ 101 := by omega
  clear h hx hx' hgm hn hkn
  rw [← HK.out]
  go_enter Try.func26, Try.ntmps26
  go_wp2_with fail
  go_quiet (fail)
  go_wp2_with fail
  go_ret
  exact ⟨rfl, _, rfl⟩

theorem kids_nil (w : World) : Calls Try.prog 26 #[.pointer none] w fun e w' => e = .returned (.int .i64 0) ∧ w = w' := by
  go_enter Try.func26, Try.ntmps26
  go_wp2_with fail
  go_ret
  exact ⟨rfl, rfl⟩

set_option maxRecDepth 100000 in
set_option maxHeartbeats 4000000 in
theorem undos_any (w : World) (P : Nat → Prop) (t : Nat) (gs : List Grp) (now : Nat) (h : TreeM w P t gs now) :
    Calls Try.prog 19 #[.pointer (some ⟨t, 0, none⟩)] w fun e w' => e = .returned (.int .i64 (undosG gs now : Int)) ∧ w = w' := by
  have H := hide h
  obtain ⟨g0, n0, c0', _, _, _, _, hn, _, _, _, ⟨t0, t1⟩, _⟩ := h.at_now h.wf.nw
  have hsz : gs.length ≤ 101 := h.wf.size
  have hnw := h.wf.nw
  clear h
  go_enter Try.func19, Try.ntmps19
  go_wp2_with fail
  go_loop [3, 4] (fun n a => ∃ j k : Nat, n = .int .i64 j ∧ a = .int .i64 k ∧ k < gs.length ∧ j + k ≤ now ∧ Hid (j + undosG gs k = undosG gs now)) (fun _ a => (intOf a).toNat)
  case atStart => exact ⟨0, now, rfl, rfl, hnw, by omega, by show 0 + _ = _; omega⟩
  case round =>
    obtain ⟨j, k, rfl, rfl, hk, hjk, hst⟩ := hrel
    rcases Nat.eq_zero_or_pos k with rfl | hpos
    · have HE := hide (show undosG gs now = j by have h1 := hst.out; rw [undosG_zero] at h1; omega)
      go_wp2_with fail
      go_ret
      exact ⟨retI (by rw [HE.out]), rfl⟩
    · obtain ⟨g, n, c, v, x, hx, hgm, hn2, hnc, hcc, hPg, ⟨s0, s1⟩, ⟨c0, c1, c2, c3, c4⟩, _⟩ := H.out.at_now hk
      rw [t0] at s0
      cases s0
      have hup := H.out.wf.up _ _ hx hpos
      have HU := hide (undosG_up H.out.wf hpos hx)
      have i0 : (0 : Int) ≤ (k : Int) := by omega
      have i1 : (k : Int) < (n0 : Int) := by omega
      have i2 : ((k : Int) != 0) = true := by simp; omega
      clear hx hgm hn2 hn
      go_wp2_with fail
      go_round
      case rel => exact ⟨j + 1, x.above, by first | rfl | go_num, rfl, by omega, by omega, by
        have h1 := hst.out
        rw [HU.out] at h1
        show j + 1 + undosG gs x.above = undosG gs now
        omega⟩
      case measure => simp [intOf]; omega
end Go.Proofs.Ytjhnenljmmeflaa
