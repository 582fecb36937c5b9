/- The reference's tree: read: Kids, Undos. -/
import Derived.Test.YtjhnenljmmeflaaRefM
import Derived.Test.YtjhnenljmmeflaaUndoG
namespace Go.Proofs.Ytjhnenljmmeflaa
open Go.RowKit
set_option linter.unusedVariables false

/-- The reference's tree. -/
structure TreeR (w : World) (P : Nat → Prop) (t : Nat) (gs : List Grp) (now : Nat) : Prop where
  wf : WF gs now
  mem : ∃ g n c ps, gs = ps.map (·.2) ∧ TR w P t g n c now ps
theorem TreeR.at_now {w : World} {P : Nat → Prop} {t : Nat} {gs : List Grp} {now : Nat} (h : TreeR w P t gs now) {j : Nat} (hj : j < gs.length) :
    ∃ (g n c : Nat) (v : GV) (x : Grp), gs[j]? = some x ∧ GrpM w P v x ∧ n = gs.length ∧ n ≤ c ∧ c ≤ 9223372036854775807 ∧ P g ∧
      (w.cell? ⟨t, 0, none⟩ = some (.slice (some ⟨g, 0, none⟩) n c) ∧ w.cell? ⟨t, 1, none⟩ = some (.int .i64 (now : Int))) ∧
      (w.cell? ⟨g, j * 5, none⟩ = some (.slice v.L v.nL v.cL) ∧ w.cell? ⟨g, j * 5 + 1, none⟩ = some (.int .i64 x.before) ∧ w.cell? ⟨g, j * 5 + 2, none⟩ = some (.int .i64 (x.above : Int)) ∧
       w.cell? ⟨g, j * 5 + 3, none⟩ = some (.int .i64 (x.picked : Int)) ∧ w.cell? ⟨g, j * 5 + 4, none⟩ = some (.slice v.K v.nK v.cK)) ∧
      (w.frozen? ⟨t, 0, none⟩ = false ∧ w.frozen? ⟨t, 1, none⟩ = false) ∧ w.frozen? ⟨g, j * 5 + 4, none⟩ = false ∧ w.frozen? ⟨g, j * 5 + 3, none⟩ = false := by
  obtain ⟨g, n, c, ps, rfl, h2⟩ := h.mem
  obtain ⟨p, hp⟩ : ∃ p, ps[j]? = some p := ⟨_, List.getElem?_eq_getElem (by simpa using hj)⟩
  have hv : (ps.map cellsR)[j]? = some (cellsR p) := by simp [hp]
  have hcap := h2.row.cap
  have hn : n = (ps.map (·.2)).length := by
    have := h2.row.cnt
    simp at this ⊢
    omega
  have key : ∀ i u, i < 5 → (cellsR p)[i]? = some u → w.cell? ⟨g, j * 5 + i, none⟩ = some u := fun i u hi hu => by
    obtain ⟨g', e, hc, _⟩ := h2.row.cell hv hi hu
    cases e
    exact hc
  have fz : ∀ i, i < 5 → w.frozen? ⟨g, j * 5 + i, none⟩ = false := fun i hi => by
    obtain ⟨u, hu⟩ : ∃ u, (cellsR p)[i]? = some u := ⟨_, List.getElem?_eq_getElem hi⟩
    obtain ⟨g', e, _, hf⟩ := h2.row.cell hv hi hu
    cases e
    exact hf
  exact ⟨g, n, c, p.1, p.2, by simp [hp], h2.each p (List.mem_of_getElem? hp), hn, hcap.1, hcap.2, h2.inG, h2.box.c2.1, ⟨key 0 _ (by omega) rfl, key 1 _ (by omega) rfl, key 2 _ (by omega) rfl, key 3 _ (by omega) rfl, key 4 _ (by omega) rfl⟩, h2.box.c2.2, fz 4 (by omega), fz 3 (by omega)⟩

theorem rkids_any (w : World) (P : Nat → Prop) (t : Nat) (gs : List Grp) (now : Nat) (x : Grp) (h : TreeR w P t gs now) (hx : gs[now]? = some x) :
    Calls Try.prog 31 #[.pointer (some ⟨t, 0, none⟩)] w fun e w' => e = .returned (.int .i64 (x.kids.length : Int)) ∧ ∃ q, w' = w.drewN q := by
  obtain ⟨g, n, c, v, x', hx', hgm, hn, hnc, hcc, hPg, ⟨t0, t1⟩, ⟨c0, c1, c2, c3, c4⟩, _⟩ := h.at_now h.wf.nw
  obtain rfl : x' = x := by rw [hx] at hx'; exact (Option.some.inj hx').symm
  have hnw := h.wf.nw
  have hsz : gs.length ≤ 101 := h.wf.size
  have hkn : v.nK = x'.kids.length := by have := hgm.kids.cnt; simp [kidC] at this; omega
  have HK := hide hkn
  have i0 : (0 : Int) ≤ (now : Int) := by omega
  have i1 : (now : Int) < (n : Int) := by omega
  have hnb : n ≤ 101 := by omega
  clear h hx hx' hgm hn hkn
  rw [← HK.out]
  go_enter Try.func31, Try.ntmps31
  go_wp2_with fail
  go_quiet (fail)
  go_wp2_with fail
  go_ret
  exact ⟨rfl, _, rfl⟩

set_option maxRecDepth 100000 in
set_option maxHeartbeats 4000000 in
theorem rundos_any (w : World) (P : Nat → Prop) (t : Nat) (gs : List Grp) (now : Nat) (h : TreeR w P t gs now) :
    Calls Try.prog 30 #[.pointer (some ⟨t, 0, none⟩)] w fun e w' => e = .returned (.int .i64 (undosG gs now : Int)) ∧ w = w' := by
  have H := hide h
  obtain ⟨g0, n0, c0', _, _, _, _, hn, _, _, _, ⟨t0, t1⟩, _⟩ := h.at_now h.wf.nw
  have hsz : gs.length ≤ 101 := h.wf.size
  have hnw := h.wf.nw
  clear h
  go_enter Try.func30, Try.ntmps30
  go_wp2_with fail
  go_loop [3, 4] (fun n a => ∃ j k : Nat, n = .int .i64 j ∧ a = .int .i64 k ∧ k < gs.length ∧ j + k ≤ now ∧ Hid (j + undosG gs k = undosG gs now)) (fun _ a => (intOf a).toNat)
  case atStart => exact ⟨0, now, rfl, rfl, hnw, by omega, by show 0 + _ = _; omega⟩
  case round =>
    obtain ⟨j, k, rfl, rfl, hk, hjk, hst⟩ := hrel
    rcases Nat.eq_zero_or_pos k with rfl | hpos
    · have HE := hide (show undosG gs now = j by have h1 := hst.out; rw [undosG_zero] at h1; omega)
      go_wp2_with fail
      go_ret
      exact ⟨retI (by rw [HE.out]), rfl⟩
    · obtain ⟨g, n, c, v, x, hx, hgm, hn2, hnc, hcc, hPg, ⟨s0, s1⟩, ⟨c0, c1, c2, c3, c4⟩, _⟩ := H.out.at_now hk
      rw [t0] at s0
      cases s0
      have hup := H.out.wf.up _ _ hx hpos
      have HU := hide (undosG_up H.out.wf hpos hx)
      have i0 : (0 : Int) ≤ (k : Int) := by omega
      have i1 : (k : Int) < (n0 : Int) := by omega
      have i2 : ((k : Int) != 0) = true := by simp; omega
      clear hx hgm hn2 hn
      go_wp2_with fail
      go_round
      case rel => exact ⟨j + 1, x.above, by first | rfl | go_num, rfl, by omega, by omega, by
        have h1 := hst.out
        rw [HU.out] at h1
        show j + 1 + undosG gs x.above = undosG gs now
        omega⟩
      case measure => simp [intOf]; omega
end Go.Proofs.Ytjhnenljmmeflaa
