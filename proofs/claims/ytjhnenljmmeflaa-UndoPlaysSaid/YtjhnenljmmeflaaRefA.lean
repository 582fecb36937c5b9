/- The reference's tree: Add: words. -/
import Derived.Test.YtjhnenljmmeflaaRefR
namespace Go.Proofs.Ytjhnenljmmeflaa
open Go.RowKit
set_option linter.unusedVariables false

theorem TR.added {w w1 w2 : World} {P : Nat → Prop} {t g n c now g2 c2 : Nat} {ps : List (GV × Grp)} {L : Option Addr} {nL cL : Nat} {vs : List CV} {l : List Chg} {before : Int} {o : Obj} (h : TR w P t g n c now ps) (hrw : RowC w1 w.heap.size L nL cL vs) (hel : Elts w1 w.heap.size vs l)
    (hb : Below w.heap.size w w1) (hg : (w1.alloc o).grownBy w2 (some g)) (hor : some g = some g2 ∨ g2 = (w1.alloc o).heap.size)
    (hr : RowG w2 78 5 0 (some ⟨g2, 0, none⟩) (n + 1) c2 (ps.map cellsR ++ [cellsR (⟨L, nL, cL, vs, none, 0, 0⟩, ⟨l, before, now, [], 0⟩)])) :
    TR (w2.setCell ⟨t, 0, none⟩ (.slice (some ⟨g2, 0, none⟩) (n + 1) c2)) (fun b => P b ∨ (w.heap.size ≤ b ∧ b < (w2.setCell ⟨t, 0, none⟩ (.slice (some ⟨g2, 0, none⟩) (n + 1) c2)).heap.size)) t g2 (n + 1) c2 now (ps ++ [(⟨L, nL, cL, vs, none, 0, 0⟩, ⟨l, before, now, [], 0⟩)]) ∧
      Keeps P w (w2.setCell ⟨t, 0, none⟩ (.slice (some ⟨g2, 0, none⟩) (n + 1) c2)) := by
  have hba := hb.alloc hb.size o
  have hbo : Below w1.heap.size w1 (w1.alloc o) := (Below.refl _ _).alloc (Nat.le_refl _) o
  have hn : GrpM (w1.alloc o) (fun b => w.heap.size ≤ b ∧ b < (w1.alloc o).heap.size) ⟨L, nL, cL, vs, none, 0, 0⟩ ⟨l, before, now, [], 0⟩ :=
    (GrpM.new before now hrw hel).same (fun b hb' => hbo.block b hb'.2) fun b hb' => ⟨hb'.1, by simp; omega⟩
  have hT := h.grow hba hg (by rcases hor with e | e; exact .inl (by injection e); exact .inr e) hr hn rfl
  refine ⟨hT.same (fun _ _ => rfl) (fun b hb' => ?_) (fun b hb' => ?_), ?_⟩
  · rcases hb' with hb' | hb'
    · exact .inl hb'
    · exact .inr ⟨hb'.1, by simpa [World.setCell] using hb'.2⟩
  · rcases hb' with hb' | hb'
    · exact hT.lt b (.inl hb')
    · exact hb'.2
  · refine Keeps.set (p := ⟨t, 0, none⟩) ?_ (fun _ => h.inT) _
    exact Keeps.grown ((Keeps.refl P w).below hba) hg fun b hb' _ => by
      injection hb' with hb'
      exact hb' ▸ h.inG


/-- One more kid: all that the walk needs of it. -/
theorem TR.kid {w W0 w2 : World} {P Q : Nat → Prop} {t g n2 c2 now n k2 ck2 : Nat} {ps : List (GV × Grp)} {p : GV × Grp} {o : Obj} (h : TR W0 Q t g n2 c2 now ps) (hk : Keeps P w W0) (hq : ∀ b, Q b → P b ∨ w.heap.size ≤ b) (hp : ps[now]? = some p)
    (hg : (W0.alloc o).drew.grownBy w2 (blk p.1.K)) (hor : blk p.1.K = some k2 ∨ k2 = (W0.alloc o).drew.heap.size) (hr : RowG w2 3 1 0 (some ⟨k2, 0, none⟩) (p.1.nK + 1) ck2 (kidC p.2.kids ++ [[.int .i64 (n : Int)]])) :
    ∃ (k2' ck2' : Nat) (Q2 : Nat → Prop), TR (w2.setCell ⟨g, now * 5 + 4, none⟩ (.slice (some ⟨k2, 0, none⟩) (p.1.nK + 1) ck2)) Q2 t g n2 c2 now (ps.set now ({ p.1 with K := some ⟨k2', 0, none⟩, nK := p.1.nK + 1, cK := ck2' }, { p.2 with kids := p.2.kids ++ [n] })) ∧
      Keeps P w (w2.setCell ⟨g, now * 5 + 4, none⟩ (.slice (some ⟨k2, 0, none⟩) (p.1.nK + 1) ck2)) ∧ ∀ b, Q2 b → P b ∨ w.heap.size ≤ b := by
  have hbb : Below W0.heap.size W0 (W0.alloc o).drew := ((Below.refl _ _).alloc (Nat.le_refl _) _).drew
  have e : kidC (p.2.kids ++ [n]) = kidC p.2.kids ++ [[.int .i64 (n : Int)]] := by unfold kidC; rw [List.map_append]; rfl
  rw [← e] at hr
  refine ⟨k2, ck2, _, h.addKid hp hbb hg hor hr, ?_, fun b hb' => ?_⟩
  · refine (Keeps.grown (hk.below hbb) hg fun b hb' hlt => ?_).set (p := ⟨g, now * 5 + 4, none⟩) (fun hlt => ?_) _
    · rcases hq b ((h.each p (List.mem_of_getElem? hp)).inK b hb') with h1 | h1
      · exact h1
      · omega
    · rcases hq g h.inG with h1 | h1
      · exact h1
      · exact absurd hlt (by show ¬ g < w.heap.size; omega)
  · rcases hb' with hb' | hb'
    · exact hq b hb'
    · have := hk.size
      exact .inr (by omega)


/-- What the reference's Add hands back. -/
def RAddR (w : World) (P : Nat → Prop) (t : Nat) (gs : List Grp) (now : Nat) (l : List Chg) (before : Int) (e : Ending) (w' : World) : Prop :=
  e = .returned (.bool true) ∧ ∃ Q, TreeR w' Q t (addG gs now l before) gs.length ∧ Keeps P w w' ∧ ∀ b, Q b → P b ∨ w.heap.size ≤ b
theorem radd_done {w W : World} {P Q : Nat → Prop} {t g n now k2 ck2 c2 : Nat} {gs : List Grp} {ps : List (GV × Grp)} {p : GV × Grp} {l : List Chg} {before : Int} {vn : GV} {e : Ending} (hwf : WF (addG gs now l before) gs.length) (hgs : gs = ps.map (·.2)) (hp : ps[now]? = some p) (hn : n = gs.length) (hkl : p.1.nK = p.2.kids.length)
    (hT : TR W Q t g (n + 1) c2 now ((ps ++ [(vn, (⟨l, before, now, [], 0⟩ : Grp))]).set now ({ p.1 with K := some ⟨k2, 0, none⟩, nK := p.1.nK + 1, cK := ck2 }, { p.2 with kids := p.2.kids ++ [n], picked := p.1.nK }))) (hk : Keeps P w W) (hq : ∀ b, Q b → P b ∨ w.heap.size ≤ b) (he : e = .returned (.bool true)) :
    RAddR w P t gs now l before e (W.setCell ⟨t, 1, none⟩ (.int .i64 (n : Int))) := by
  have hlt := (List.getElem?_eq_some_iff.1 hp).1
  have h2 := hT.setNow n
  have hxx : gs[now]? = some p.2 := by rw [hgs, List.getElem?_map, hp]; rfl
  have e1 : (((ps ++ [(vn, (⟨l, before, now, [], 0⟩ : Grp))]).set now ({ p.1 with K := some ⟨k2, 0, none⟩, nK := p.1.nK + 1, cK := ck2 }, { p.2 with kids := p.2.kids ++ [n], picked := p.1.nK })).map (·.2)) = addG gs now l before := by
    rw [addG_at hxx, List.map_set, List.map_append, ← hgs, List.set_append_left _ _ (by rw [hgs]; simpa using hlt)]
    simp [kidded, hn, hkl]
  refine ⟨he, Q, ⟨hwf, g, n + 1, c2, _, e1.symm, by rw [← hn]; exact h2⟩, ?_, hq⟩
  refine hk.set (p := ⟨t, 1, none⟩) (fun hl => ?_) _
  rcases hq t hT.inT with h | h
  · exact h
  · exact absurd hl (by show ¬ t < w.heap.size; omega)

theorem radd_empty (w : World) (t : Nat) (X : Option Addr) (d : Nat) (before : Int) : Calls Try.prog 57 #[.pointer (some ⟨t, 0, none⟩), .slice X 0 d, .int .i64 before] w fun e w' => e = .returned (.bool false) ∧ w = w' := by
  go_enter Try.func57, Try.ntmps57
  go_wp2_with fail
  go_ret
  exact ⟨rfl, rfl⟩

end Go.Proofs.Ytjhnenljmmeflaa
