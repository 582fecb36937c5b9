/- A tree that is being copied: the part that is there already. -/
import Derived.Test.YtjhnenljmmeflaaUndoD
namespace Go.Proofs.Ytjhnenljmmeflaa
open Go.RowKit
set_option linter.unusedVariables false

/-- The copy so far: its groups lie in blocks from B on. -/
structure CM (w : World) (B t now : Nat) (A : Option Addr) (n c : Nat) (ps : List (GV × Grp)) : Prop where
  box : Box w t 72 #[.slice A n c, .int .i64 (now : Int)]
  row : RowG w 75 5 B A n c (ps.map cellsP)
  each : ∀ p ∈ ps, GrpM w (fun b => B ≤ b ∧ b < w.heap.size) p.1 p.2
  ap : KAp ps
  tB : B ≤ t
theorem CM.below {w w' : World} {B t now n c : Nat} {A : Option Addr} {ps : List (GV × Grp)} (h : CM w B t now A n c ps) (hb : Below w.heap.size w w') : CM w' B t now A n c ps :=
  ⟨h.box.below hb, h.row.below hb, fun p hp => (h.each p hp).same (fun b hb' => hb.block b hb'.2) (fun b hb' => ⟨hb'.1, Nat.lt_of_lt_of_le hb'.2 hb.size⟩), h.ap, h.tB⟩
theorem CM.tree {w : World} {B t now n c : Nat} {A : Option Addr} {ps : List (GV × Grp)} (h : CM w B t now A n c ps) (hw : WF (ps.map (·.2)) now) : TreeM w (fun b => B ≤ b ∧ b < w.heap.size) t (ps.map (·.2)) now :=
  ⟨hw, fun g hg => hg.2, ⟨h.tB, h.box.lt⟩, A, n, c, ps, rfl, h.box, h.row.mono (Nat.zero_le _), h.each, h.ap, fun g hg => h.row.blk_ge g hg⟩
theorem KAp.snocA {ps : List (GV × Grp)} {pn : GV × Grp} (h : KAp ps) (hp : ∀ p ∈ ps, Apart p.1.K pn.1.K) : KAp (ps ++ [pn]) := fun i j p q hi hj hij => by
  by_cases h1 : i < ps.length
  · rw [List.getElem?_append_left h1] at hi
    by_cases h2 : j < ps.length
    · rw [List.getElem?_append_left h2] at hj
      exact h i j p q hi hj hij
    · rw [List.getElem?_append_right (by omega)] at hj
      have hj0 : j - ps.length = 0 := by
        rcases Nat.eq_zero_or_pos (j - ps.length) with e | e
        · exact e
        · rw [List.getElem?_eq_none (by simp; omega)] at hj; cases hj
      rw [hj0] at hj
      obtain rfl : pn = q := Option.some.inj hj
      exact hp p (List.mem_of_getElem? hi)
  · rw [List.getElem?_append_right (by omega)] at hi
    have hi0 : i - ps.length = 0 := by
      rcases Nat.eq_zero_or_pos (i - ps.length) with e | e
      · exact e
      · rw [List.getElem?_eq_none (by simp; omega)] at hi; cases hi
    rw [hi0] at hi
    obtain rfl : pn = p := Option.some.inj hi
    by_cases h2 : j < ps.length
    · rw [List.getElem?_append_left h2] at hj
      exact (hp q (List.mem_of_getElem? hj)).symm
    · rw [List.getElem?_append_right (by omega)] at hj
      have hj0 : j - ps.length = 0 := by
        rcases Nat.eq_zero_or_pos (j - ps.length) with e | e
        · exact e
        · rw [List.getElem?_eq_none (by simp; omega)] at hj; cases hj
      omega
/-- One more group. -/
theorem CM.grow {w w1 w2 : World} {B t now n c c2 : Nat} {A A2 : Option Addr} {ps : List (GV × Grp)} {pn : GV × Grp} (h : CM w B t now A n c ps) (hB : B ≤ w.heap.size) (hb : Below w.heap.size w w1) (hn : GrpM w1 (fun b => w.heap.size ≤ b ∧ b < w1.heap.size) pn.1 pn.2)
    (hg : w1.grownBy w2 (blk A)) (hor : blk A2 = blk A ∨ ∀ b, blk A2 = some b → w.heap.size ≤ b) (hr : RowG w2 75 5 B A2 (n + 1) c2 (ps.map cellsP ++ [cellsP pn])) :
    CM (w2.setCell ⟨t, 0, none⟩ (.slice A2 (n + 1) c2)) B t now A2 (n + 1) c2 (ps ++ [pn]) := by
  have h1 := h.below hb
  have hs1 := hb.size
  have hs2 := hg.size
  have htl := h.box.lt
  have hrow1 := h1.row
  have hnA : blk A ≠ some t := h.box.ne_rowG h.row (by decide)
  have hnA2 : blk A2 ≠ some t := fun e => by
    rcases hor with e2 | e2
    · exact hnA (e2 ▸ e)
    · have := e2 t e; omega
  have hbt : Box w2 t 72 #[.slice A n c, .int .i64 (now : Int)] := h1.box.grown hg (fun e => hnA e.symm)
  have hbx : ∀ (p : GV × Grp) (P : Nat → Prop), (∀ b, P b → b < w1.heap.size) → GrpM w1 P p.1 p.2 → GrpM (w2.setCell ⟨t, 0, none⟩ (.slice A2 (n + 1) c2)) P p.1 p.2 := fun p P hl hp => by
    have hp2 : GrpM w2 P p.1 p.2 := by
      rcases hrow1.form with ⟨rfl, _, _⟩ | ⟨g, rfl, _, hgl⟩
      · exact hp.same (fun b hb' => hg.block b (hl b hb') (fun e => by cases e)) fun _ hq => hq
      · obtain ⟨cur, hx⟩ := hrow1.box
        exact hp.stay hx (by decide) (by decide) (by decide) fun b h1 h2 => hg.block b h1 (fun e => h2 (by injection e))
    exact hp2.stay hbt (by decide) (by decide) (by decide) fun b _ hne => Below.heap_setCell w2 ⟨t, 0, none⟩ _ b hne
  have hsz : (w2.setCell ⟨t, 0, none⟩ (.slice A2 (n + 1) c2)).heap.size = w2.heap.size := by simp [World.setCell]
  refine ⟨hbt.set 0 _, ?_, fun p hp => ?_, h.ap.snocA fun p hp => ?_, h.tB⟩
  · have := hr.far (p := ⟨t, 0, none⟩) hnA2 (.slice A2 (n + 1) c2)
    rw [List.map_append]
    exact this
  · rcases List.mem_append.1 hp with hp | hp
    · exact (hbx p _ (fun b hb' => hb'.2) (h1.each p hp)).wider fun b hb' => ⟨hb'.1, by rw [hsz]; omega⟩
    · obtain rfl := List.mem_singleton.1 hp
      exact (hbx p _ (fun b hb' => hb'.2) hn).wider fun b hb' => ⟨by omega, by rw [hsz]; omega⟩
  · exact apart_of (k := w.heap.size) (fun g hg' => ((h.each p hp).inK g hg').2) (fun g hg' => (hn.inK g hg').1)
end Go.Proofs.Ytjhnenljmmeflaa
