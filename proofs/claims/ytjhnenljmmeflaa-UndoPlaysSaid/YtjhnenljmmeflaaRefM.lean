/- The reference's tree in memory: what each store and append leaves (the like of XUndoT, at the reference's cells). -/
import Derived.Test.YtjhnenljmmeflaaUndoT
namespace Go.Proofs.Ytjhnenljmmeflaa
open Go.RowKit
set_option linter.unusedVariables false

def cellsR (p : GV × Grp) : List Value := [.slice p.1.L p.1.nL p.1.cL, .int .i64 p.2.before, .int .i64 (p.2.above : Int), .int .i64 (p.2.picked : Int), .slice p.1.K p.1.nK p.1.cK]
theorem refT : RowT 79 78 5 72 := ⟨Try.underlying79, ⟨.agg #[.slice none 0 0, .int .i64 0, .int .i64 0, .int .i64 0, .slice none 0 0], by kernel_rfl, by kernel_rfl⟩, by omega⟩
theorem cellsR_one (p : GV × Grp) : ∀ u ∈ cellsR p, u.oneCell' = true := fun u hu => by
  simp only [cellsR, List.mem_cons, List.not_mem_nil, or_false] at hu
  rcases hu with rfl | rfl | rfl | rfl | rfl <;> rfl
theorem each_R (ps : List (GV × Grp)) : Each 5 (ps.map cellsR) := fun v hv => by
  obtain ⟨p, _, rfl⟩ := List.mem_map.1 hv
  exact ⟨rfl, cellsR_one p⟩

structure TR (w : World) (P : Nat → Prop) (t g n c now : Nat) (ps : List (GV × Grp)) : Prop where
  box : Box w t 81 #[.slice (some ⟨g, 0, none⟩) n c, .int .i64 (now : Int)]
  row : RowG w 78 5 0 (some ⟨g, 0, none⟩) n c (ps.map cellsR)
  each : ∀ p ∈ ps, GrpM w P p.1 p.2
  ap : KAp ps
  lt : ∀ b, P b → b < w.heap.size
  inT : P t
  inG : P g
section
variable {w w' : World} {P Q : Nat → Prop} {t g n c now : Nat} {ps : List (GV × Grp)}
theorem TR.same (h : TR w P t g n c now ps) (hs : ∀ b, P b → w'.heap[b]? = w.heap[b]?) (hq : ∀ b, P b → Q b) (hl : ∀ b, Q b → b < w'.heap.size) : TR w' Q t g n c now ps :=
  ⟨(hs t h.inT).trans h.box, h.row.keep fun b hb => by
    injection hb with hb
    exact hs b (hb ▸ h.inG), fun p hp => (h.each p hp).same hs hq, h.ap, hl, hq _ h.inT, hq _ h.inG⟩
theorem TR.below (h : TR w P t g n c now ps) (hb : Below w.heap.size w w') : TR w' P t g n c now ps :=
  h.same (fun b hb' => hb.block b (h.lt b hb')) (fun _ h => h) fun b hb' => Nat.lt_of_lt_of_le (h.lt b hb') hb.size
theorem TR.ne (h : TR w P t g n c now ps) : g ≠ t := fun e => h.box.ne_rowG h.row (by decide) (by rw [← e]; rfl)
theorem TR.setNow (h : TR w P t g n c now ps) (now' : Nat) : TR (w.setCell ⟨t, 1, none⟩ (.int .i64 (now' : Int))) P t g n c now' ps :=
  ⟨h.box.set 1 _, h.row.far (p := ⟨t, 1, none⟩) (fun e => h.ne (by injection e)) _, fun p hp => (h.each p hp).stay h.box (by decide) (by decide) (by decide) fun b _ hb => Below.heap_setCell w ⟨t, 1, none⟩ _ b hb, h.ap, fun b hb => by have := h.lt b hb; simpa [World.setCell] using this, h.inT, h.inG⟩
theorem TR.setG (h : TR w P t g n c now ps) {j i : Nat} {p p' : GV × Grp} {u : Value} (hp : ps[j]? = some p) (hi : i < 5) (hu : u.oneCell' = true) (hc : cellsR p' = (cellsR p).set i u) (hm : GrpM w P p'.1 p'.2) (hap : KAp (ps.set j p')) :
    TR (w.setCell ⟨g, j * 5 + i, none⟩ u) P t g n c now (ps.set j p') := by
  obtain ⟨cur, hbox⟩ := h.row.box
  have hv : (ps.map cellsR)[j]? = some (cellsR p) := by simp [hp]
  refine ⟨h.box.far (p := ⟨g, j * 5 + i, none⟩) (fun e => h.ne e.symm) _, ?_, fun q hq => ?_, hap, fun b hb => by have := h.lt b hb; simpa [World.setCell] using this, h.inT, h.inG⟩
  · have hr := h.row.set (i := i) hv hi hu
    rw [← hc, ← List.map_set] at hr
    exact hr
  · have key : GrpM w P q.1 q.2 := by
      rcases List.mem_or_eq_of_mem_set hq with hq | hq
      · exact h.each q hq
      · rw [hq]; exact hm
    exact key.stay hbox (by decide) (by decide) (by decide) fun b _ hb => Below.heap_setCell w ⟨g, j * 5 + i, none⟩ _ b hb
end
theorem TR.grow {w w1 w2 : World} {P : Nat → Prop} {t g n c now g2 c2 : Nat} {ps : List (GV × Grp)} {pn : GV × Grp} (h : TR w P t g n c now ps) (hb : Below w.heap.size w w1) (hg : w1.grownBy w2 (some g)) (hg2 : g = g2 ∨ g2 = w1.heap.size)
    (hr : RowG w2 78 5 0 (some ⟨g2, 0, none⟩) (n + 1) c2 (ps.map cellsR ++ [cellsR pn])) (hn : GrpM w1 (fun b => w.heap.size ≤ b ∧ b < w1.heap.size) pn.1 pn.2) (hk : blk pn.1.K = none) :
    TR (w2.setCell ⟨t, 0, none⟩ (.slice (some ⟨g2, 0, none⟩) (n + 1) c2)) (fun b => P b ∨ (w.heap.size ≤ b ∧ b < w2.heap.size)) t g2 (n + 1) c2 now (ps ++ [pn]) := by
  have htl := h.lt t h.inT
  have h1 := h.below hb
  have hs1 := hb.size
  have hs2 := hg.size
  obtain ⟨cur, hbox⟩ := h1.row.box
  have hgl := h.lt g h.inG
  have hne2 : g2 ≠ t := by
    rcases hg2 with e | e
    · have := h.ne; omega
    · omega
  have hbt : Box w2 t 81 #[.slice (some ⟨g, 0, none⟩) n c, .int .i64 (now : Int)] := h1.box.grown hg (fun e => by injection e with e; exact h.ne e.symm)
  have hst : ∀ (Q : Nat → Prop) (p : GV × Grp), GrpM w1 Q p.1 p.2 → GrpM (w2.setCell ⟨t, 0, none⟩ (.slice (some ⟨g2, 0, none⟩) (n + 1) c2)) Q p.1 p.2 := fun Q p hp =>
    (hp.stay hbox (by decide) (by decide) (by decide) fun b hb' hne => hg.block b hb' (fun e => hne (by injection e))).stay hbt (by decide) (by decide) (by decide) fun b _ hne => Below.heap_setCell w2 ⟨t, 0, none⟩ _ b hne
  refine ⟨hbt.set 0 _, ?_, fun p hp => ?_, h.ap.snoc hk, fun b hb' => ?_, .inl h.inT, ?_⟩
  · have := hr.far (p := ⟨t, 0, none⟩) (fun e => hne2 (by injection e)) (.slice (some ⟨g2, 0, none⟩) (n + 1) c2)
    rw [List.map_append]
    exact this
  · rcases List.mem_append.1 hp with hp | hp
    · exact (hst _ p (h1.each p hp)).wider fun b hb' => .inl hb'
    · obtain rfl := List.mem_singleton.1 hp
      exact (hst _ p hn).wider fun b hb' => .inr ⟨hb'.1, by omega⟩
  · have : b < w2.heap.size := by
      rcases hb' with hb' | hb'
      · have := h.lt b hb'; omega
      · exact hb'.2
    simpa [World.setCell] using this
  · rcases hg2 with e | e
    · exact .inl (e ▸ h.inG)
    · have := (hr.blk_ge g2 rfl).2
      exact .inr ⟨by omega, this⟩
theorem TR.addKid {w w1 w2 : World} {P : Nat → Prop} {t g n c now k2 ck2 j m : Nat} {ps : List (GV × Grp)} {p : GV × Grp} (h : TR w P t g n c now ps) (hp : ps[j]? = some p) (hb : Below w.heap.size w w1) (hg : w1.grownBy w2 (blk p.1.K)) (hk2 : blk p.1.K = some k2 ∨ k2 = w1.heap.size)
    (hr : RowG w2 3 1 0 (some ⟨k2, 0, none⟩) (p.1.nK + 1) ck2 (kidC (p.2.kids ++ [m]))) :
    TR (w2.setCell ⟨g, j * 5 + 4, none⟩ (.slice (some ⟨k2, 0, none⟩) (p.1.nK + 1) ck2)) (fun b => P b ∨ (w.heap.size ≤ b ∧ b < w2.heap.size)) t g n c now
      (ps.set j ({ p.1 with K := some ⟨k2, 0, none⟩, nK := p.1.nK + 1, cK := ck2 }, { p.2 with kids := p.2.kids ++ [m] })) := by
  have h1 := h.below hb
  have hs1 := hb.size
  have hs2 := hg.size
  have hjl := (List.getElem?_eq_some_iff.1 hp).1
  have hm := h1.each p (List.mem_of_getElem? hp)
  have hrow : ∀ b, blk p.1.K = some b → ∃ cur, Box w1 b 3 cur := fun b hb' => by
    rcases hm.kids.form with ⟨e, _⟩ | ⟨b', e, _⟩
    · rw [e] at hb'; cases hb'
    · rw [e] at hb'
      injection hb' with hb'
      have hk := hm.kids
      rw [e] at hk
      obtain ⟨cur, hx⟩ := hk.box
      have : b' = b := hb'
      exact ⟨cur, this ▸ hx⟩
  have hbt : Box w2 t 81 #[.slice (some ⟨g, 0, none⟩) n c, .int .i64 (now : Int)] := h1.box.grown hg (fun e => by
    obtain ⟨cur, hx⟩ := hrow t e.symm
    have h2 := h1.box
    unfold Box at hx h2
    rw [h2] at hx
    injection hx with hx
    injection hx with _ hx
    exact absurd hx (by decide))
  have hgr : RowG w2 78 5 0 (some ⟨g, 0, none⟩) n c (ps.map cellsR) := h1.row.kept hg (.inr fun e => by
    obtain ⟨cur, hx⟩ := hrow g e.symm
    exact hx.ne_rowG h1.row (by decide) rfl)
  obtain ⟨cur, hbox⟩ := hgr.box
  have hv : (ps.map cellsR)[j]? = some (cellsR p) := by simp [hp]
  have hP : ∀ b, P b → b < w2.heap.size := fun b hb' => by have := h.lt b hb'; omega
  have hkin : ∀ b, blk (some (⟨k2, 0, none⟩ : Addr)) = some b → P b ∨ (w.heap.size ≤ b ∧ b < w2.heap.size) := fun b hb' => by
    injection hb' with hb'
    have hb'' : k2 = b := hb'
    subst hb''
    rcases hk2 with e | e
    · exact .inl (hm.inK _ e)
    · exact .inr ⟨by omega, (hr.blk_ge _ rfl).2⟩
  refine ⟨hbt.far (p := ⟨g, j * 5 + 4, none⟩) (fun e => h.ne e.symm) _, ?_, fun q hq => ?_, ?_, fun b hb' => ?_, .inl h.inT, .inl h.inG⟩
  · have := hgr.set (i := 4) hv (by omega) (u := .slice (some ⟨k2, 0, none⟩) (p.1.nK + 1) ck2) rfl
    rw [show (cellsR p).set 4 (.slice (some ⟨k2, 0, none⟩) (p.1.nK + 1) ck2) = cellsR ({ p.1 with K := some ⟨k2, 0, none⟩, nK := p.1.nK + 1, cK := ck2 }, { p.2 with kids := p.2.kids ++ [m] }) from rfl, ← List.map_set] at this
    exact this
  · obtain ⟨i, hi⟩ := List.mem_iff_getElem?.1 hq
    have key : GrpM w2 (fun b => P b ∨ (w.heap.size ≤ b ∧ b < w2.heap.size)) q.1 q.2 := by
      by_cases hij : i = j
      · subst hij
        rw [List.getElem?_set_self hjl] at hi
        obtain rfl := Option.some.inj hi
        have hm2 : GrpM w1 P { p.1 with K := none, nK := 0, cK := 0 } { p.2 with kids := [] } := ⟨hm.row, hm.els, RowG.nil _ _ _ _, hm.inL, (fun b hb' => by cases hb'), hm.inU⟩
        have hm3 := (hm2.stayK hrow (fun b hb' => by cases hb') hg).wider (Q := fun b => P b ∨ (w.heap.size ≤ b ∧ b < w2.heap.size)) fun b hb' => .inl hb'
        exact ⟨hm3.row, hm3.els, hr, hm3.inL, hkin, hm3.inU⟩
      · rw [List.getElem?_set_ne (fun e => hij e.symm)] at hi
        exact ((h1.each q (List.mem_of_getElem? hi)).stayK hrow (fun b hb' e => h.ap i j q p hi hp hij b hb' e) hg).wider fun b hb' => .inl hb'
    exact key.stay hbox (by decide) (by decide) (by decide) fun b _ hne => Below.heap_setCell w2 ⟨g, j * 5 + 4, none⟩ _ b hne
  · refine h.ap.set_new fun i q hi hij b hb1 hb2 => ?_
    injection hb2 with hb2
    have hb2' : k2 = b := hb2
    subst hb2'
    rcases hk2 with e | e
    · exact h.ap i j q p hi hp hij _ hb1 e
    · have := ((h.each q (List.mem_of_getElem? hi)).kids.blk_ge _ hb1).2
      omega
  · have : b < w2.heap.size := by
      rcases hb' with hb' | hb'
      · exact hP b hb'
      · exact hb'.2
    simpa [World.setCell] using this

end Go.Proofs.Ytjhnenljmmeflaa
