/- The reference's tree: Pick. -/
import Derived.Test.YtjhnenljmmeflaaRefK
import Derived.Test.YtjhnenljmmeflaaUndoB
namespace Go.Proofs.Ytjhnenljmmeflaa
open Go.RowKit
set_option linter.unusedVariables false

theorem TreeR.below {w w' : World} {P : Nat → Prop} {t : Nat} {gs : List Grp} {now : Nat} (h : TreeR w P t gs now) (hb : Below w.heap.size w w') : TreeR w' P t gs now := by
  obtain ⟨g, n, c, ps, h1, h2⟩ := h.mem
  exact ⟨h.wf, g, n, c, ps, h1, h2.below hb⟩
theorem TreeR.setPick {w : World} {P : Nat → Prop} {t g n c now i : Nat} {gs : List Grp} {x : Grp} (h : TreeR w P t gs now) (h0 : w.cell? ⟨t, 0, none⟩ = some (.slice (some ⟨g, 0, none⟩) n c)) (hx : gs[now]? = some x) (hi : i < x.kids.length) :
    TreeR (w.setCell ⟨g, now * 5 + 3, none⟩ (.int .i64 (i : Int))) P t (pickG gs now i) now := by
  have hwf := h.wf.pickG hx hi
  obtain ⟨g', n', c', ps, h1, h2⟩ := h.mem
  have hc := h2.box.c2.1.1
  rw [h0] at hc
  injection hc with hc
  injection hc with hc hn hcc
  injection hc with hc
  injection hc with hc
  subst hc hn hcc
  obtain ⟨p, hp, rfl⟩ : ∃ p, ps[now]? = some p ∧ p.2 = x := by
    rw [h1, List.getElem?_map] at hx
    cases hp : ps[now]? with
    | none => rw [hp] at hx; cases hx
    | some p => exact ⟨p, rfl, by rw [hp] at hx; simpa using hx⟩
  have hm := h2.each p (List.mem_of_getElem? hp)
  have key := h2.setG (i := 3) (p' := (p.1, { p.2 with picked := i })) (u := .int .i64 (i : Int)) hp (by omega) rfl rfl ⟨hm.row, hm.els, hm.kids, hm.inL, hm.inK, hm.inU⟩ (h2.ap.set_same hp rfl)
  exact ⟨hwf, g, n, c, _, by rw [pickG_at hx, h1, List.map_set], key⟩

/-- What Pick hands back. -/
def RPickR (w : World) (P : Nat → Prop) (t : Nat) (gs : List Grp) (now : Nat) (x : Grp) (i : Int) (e : Ending) (w' : World) : Prop :=
  (e = .returned (.bool false) ∧ ¬ (0 ≤ i ∧ i < x.kids.length) ∧ ∃ q, w' = w.drewN q) ∨
    (e = .returned (.bool true) ∧ 0 ≤ i ∧ i < x.kids.length ∧ TreeR w' P t (pickG gs now i.toNat) now ∧ Keeps P w w')
set_option maxRecDepth 100000 in
set_option maxHeartbeats 4000000 in
theorem rpick_any (w : World) (P : Nat → Prop) (t : Nat) (gs : List Grp) (now : Nat) (x : Grp) (i : Int) (h : TreeR w P t gs now) (hx : gs[now]? = some x) :
    Calls Try.prog 55 #[.pointer (some ⟨t, 0, none⟩), .int .i64 i] w (RPickR w P t gs now x i) := by
  have H := hide h
  obtain ⟨g, n, c, v, x', hx', hgm, hn, hnc, hcc, hPg, ⟨t0, t1⟩, ⟨c0, c1, c2, c4, c3⟩, ⟨_, _⟩, _, z4⟩ := h.at_now h.wf.nw
  obtain rfl : x' = x := by rw [hx] at hx'; exact (Option.some.inj hx').symm
  have hnw := h.wf.nw
  have hsz : gs.length ≤ 101 := h.wf.size
  have hkn : v.nK = x'.kids.length := by have := hgm.kids.cnt; simp [kidC] at this; omega
  have HK := hide hkn
  have HX := hide hx
  have HPG := hide hPg
  have i0 : (0 : Int) ≤ (now : Int) := by omega
  have i1 : (now : Int) < (n : Int) := by omega
  have hnb : n ≤ 101 := by omega
  clear h hx hx' hgm hn hkn hPg
  by_cases ha : i < 0
  · have HA := hide ha
    have d1 : decide (i < 0) = true := by simp [ha]
    go_enter Try.func55, Try.ntmps55
    go_wp2_with fail
    go_quiet (fail)
    go_wp2_with fail
    go_ret
    exact .inl ⟨rfl, by have := HA.out; omega, _, rfl⟩
  have d1 : decide (i < 0) = false := by simp; omega
  by_cases hb : (v.nK : Int) ≤ i
  · have HB := hide hb
    have d2 : decide ((v.nK : Int) ≤ i) = true := by simp [hb]
    go_enter Try.func55, Try.ntmps55
    go_wp2_with fail
    go_quiet (fail)
    go_wp2_with fail
    go_ret
    exact .inl ⟨rfl, by have := HB.out; have := HK.out; omega, _, rfl⟩
  have d2 : decide ((v.nK : Int) ≤ i) = false := by simp; omega
  obtain ⟨k, rfl⟩ : ∃ k : Nat, i = (k : Int) := ⟨i.toNat, by omega⟩
  have HB := hide hb
  have d3 : ¬ (v.nK ≤ k) := by omega
  have d4 : decide (v.nK ≤ k) = false := by simp; omega
  clear ha hb
  go_enter Try.func55, Try.ntmps55
  go_upto_region 3 with (first | go_quiet (fail))
  have HT := hide (H.out.below (below_drewN (Below.refl _ _) nq))
  have hcs : ((w.drewN nq).cell? ⟨t, 0, none⟩ = some (.slice (some ⟨g, 0, none⟩) n c) ∧ (w.drewN nq).cell? ⟨t, 1, none⟩ = some (.int .i64 (now : Int)) ∧ (w.drewN nq).cell? ⟨g, now * 5 + 3, none⟩ = some (.int .i64 (x'.picked : Int))) ∧ (w.drewN nq).frozen? ⟨g, now * 5 + 3, none⟩ = false := ⟨⟨t0, t1, c4⟩, z4⟩
  have HKP := hide ((Keeps.refl P w).drewN nq)
  generalize w.drewN nq = W1 at HT hcs HKP ⊢
  clear t0 t1 c0 c1 c2 c3 c4 z4
  obtain ⟨⟨t0, t1, c4⟩, z4⟩ := hcs
  have k0 : (k : Int) < x'.kids.length := by have := HB.out; have := HK.out; omega
  have HK0 := hide k0
  clear k0
  have HU := hide (show ∀ W, (∃ q, W = (W1.setCell ⟨g, now * 5 + 3, none⟩ (.int .i64 (k : Int))).drewN q) → RPickR w P t gs now x' k (.returned (.bool true)) W from fun W hW => by
    obtain ⟨q, rfl⟩ := hW
    exact .inr ⟨rfl, by omega, HK0.out, (HT.out.setPick t0 HX.out (by have := HK0.out; omega)).below (below_drewN (Below.refl _ _) q), ((HKP.out.set (p := ⟨g, now * 5 + 3, none⟩) (fun _ => HPG.out) _).drewN q)⟩)
  go_wp2_with fail
  go_region
  all_goals go_wp2_with fail
  all_goals go_ret
  all_goals exact HU.out _ ⟨_, rfl⟩
end Go.Proofs.Ytjhnenljmmeflaa
