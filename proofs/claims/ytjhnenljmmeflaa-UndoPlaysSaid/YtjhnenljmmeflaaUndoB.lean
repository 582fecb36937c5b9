/- Contracts of the tree's Add with no changes, of Add without a tree, of Pick. -/
import Derived.Test.YtjhnenljmmeflaaUndoA
namespace Go.Proofs.Ytjhnenljmmeflaa
open Go.RowKit
set_option linter.unusedVariables false

theorem add_nil (w : World) (X : Option Addr) (m d : Nat) (before : Int) : Calls Try.prog 18 #[.pointer none, .slice X m d, .int .i64 before] w fun e w' => e = .returned (.bool false) ∧ w = w' := by
  go_enter Try.func18, Try.ntmps18
  go_wp2_with fail
  go_ret
  exact ⟨rfl, rfl⟩
theorem add_empty (w : World) (t : Nat) (X : Option Addr) (d : Nat) (before : Int) : Calls Try.prog 18 #[.pointer (some ⟨t, 0, none⟩), .slice X 0 d, .int .i64 before] w fun e w' => e = .returned (.bool false) ∧ w = w' := by
  go_enter Try.func18, Try.ntmps18
  go_wp2_with fail
  go_ret
  exact ⟨rfl, rfl⟩

/-- What Pick hands back. -/
def PickR (w : World) (P : Nat → Prop) (t : Nat) (gs : List Grp) (now : Nat) (x : Grp) (i : Int) (e : Ending) (w' : World) : Prop :=
  (e = .returned (.bool false) ∧ ¬ (0 ≤ i ∧ i < x.kids.length) ∧ ∃ q, w' = w.drewN q) ∨
    (e = .returned (.bool true) ∧ 0 ≤ i ∧ i < x.kids.length ∧ TreeM w' P t (pickG gs now i.toNat) now ∧ Keeps P w w')
set_option maxRecDepth 100000 in
set_option maxHeartbeats 4000000 in
theorem pick_any (w : World) (P : Nat → Prop) (t : Nat) (gs : List Grp) (now : Nat) (x : Grp) (i : Int) (h : TreeM w P t gs now) (hx : gs[now]? = some x) :
    Calls Try.prog 27 #[.pointer (some ⟨t, 0, none⟩), .int .i64 i] w (PickR w P t gs now x i) := by
  have H := hide h
  obtain ⟨g, n, c, v, x', hx', hgm, hn, hnc, hcc, hPg, ⟨t0, t1⟩, ⟨c0, c1, c2, c3, c4⟩, ⟨_, _⟩, z4, _⟩ := h.at_now h.wf.nw
  obtain rfl : x' = x := by rw [hx] at hx'; exact (Option.some.inj hx').symm
  have hnw := h.wf.nw
  have hsz : gs.length ≤ 101 := h.wf.size
  have hkn : v.nK = x'.kids.length := by have := hgm.kids.cnt; simp [kidC] at this; omega
  have HK := hide hkn
  have HX := hide hx
  have HPG := hide hPg
  have i0 : (0 : Int) ≤ (now : Int) := by omega
  have i1 : (now : Int) < (n : Int) := by omega
  have hnb : n ≤ 101 := by omega
  clear h hx hx' hgm hn hkn hPg
  by_cases ha : i < 0
  · have HA := hide ha
    have d1 : decide (i < 0) = true := by simp [ha]
    go_enter Try.func27, Try.ntmps27
    go_wp2_with fail
    go_quiet (fail)
    go_wp2_with fail
    go_ret
    exact .inl ⟨rfl, by have := HA.out; omega, _, rfl⟩
  have d1 : decide (i < 0) = false := by simp; omega
  by_cases hb : (v.nK : Int) ≤ i
  · have HB := hide hb
    have d2 : decide ((v.nK : Int) ≤ i) = true := by simp [hb]
    go_enter Try.func27, Try.ntmps27
    go_wp2_with fail
    go_quiet (fail)
    go_wp2_with fail
    go_ret
    exact .inl ⟨rfl, by have := HB.out; have := HK.out; omega, _, rfl⟩
  have d2 : decide ((v.nK : Int) ≤ i) = false := by simp; omega
  obtain ⟨k, rfl⟩ : ∃ k : Nat, i = (k : Int) := ⟨i.toNat, by omega⟩
  have HB := hide hb
  have d3 : ¬ (v.nK ≤ k) := by omega
  have d4 : decide (v.nK ≤ k) = false := by simp; omega
  clear ha hb
  go_enter Try.func27, Try.ntmps27
  go_upto_region 3 with (first | go_quiet (fail))
  have HT := hide (H.out.below (below_drewN (Below.refl _ _) nq))
  have hcs : ((w.drewN nq).cell? ⟨t, 0, none⟩ = some (.slice (some ⟨g, 0, none⟩) n c) ∧ (w.drewN nq).cell? ⟨t, 1, none⟩ = some (.int .i64 (now : Int)) ∧ (w.drewN nq).cell? ⟨g, now * 5 + 4, none⟩ = some (.int .i64 (x'.picked : Int))) ∧ (w.drewN nq).frozen? ⟨g, now * 5 + 4, none⟩ = false := ⟨⟨t0, t1, c4⟩, z4⟩
  have HKP := hide ((Keeps.refl P w).drewN nq)
  generalize w.drewN nq = W1 at HT hcs HKP ⊢
  clear t0 t1 c0 c1 c2 c3 c4 z4
  obtain ⟨⟨t0, t1, c4⟩, z4⟩ := hcs
  have k0 : (k : Int) < x'.kids.length := by have := HB.out; have := HK.out; omega
  have HK0 := hide k0
  clear k0
  have HU := hide (show ∀ W, (∃ q, W = (W1.setCell ⟨g, now * 5 + 4, none⟩ (.int .i64 (k : Int))).drewN q) → PickR w P t gs now x' k (.returned (.bool true)) W from fun W hW => by
    obtain ⟨q, rfl⟩ := hW
    exact .inr ⟨rfl, by omega, HK0.out, (HT.out.setPick t0 HX.out (by have := HK0.out; omega)).below (below_drewN (Below.refl _ _) q), ((HKP.out.set (p := ⟨g, now * 5 + 4, none⟩) (fun _ => HPG.out) _).drewN q)⟩)
  go_wp2_with fail
  go_region
  all_goals go_wp2_with fail
  all_goals go_ret
  all_goals exact HU.out _ ⟨_, rfl⟩
end Go.Proofs.Ytjhnenljmmeflaa
