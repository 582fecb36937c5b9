/- Words for a tree of groups in memory: which blocks it lies in, what of it stays when other blocks turn. -/
import Derived.Test.YtjhnenljmmeflaaUndoC
import Derived.Test.YtjhnenljmmeflaaRowG
namespace Go.Proofs.Ytjhnenljmmeflaa
open Go.RowKit
set_option linter.unusedVariables false

/-- Only blocks of P have turned, and what is new. -/
structure Keeps (P : Nat → Prop) (w w' : World) : Prop where
  os : w'.os = w.os
  tape : w'.tape = w.tape
  output : w'.output = w.output
  size : w.heap.size ≤ w'.heap.size
  block : ∀ g, g < w.heap.size → ¬ P g → w'.heap[g]? = w.heap[g]?
section
variable {P Q : Nat → Prop} {w w1 w2 : World}
theorem Keeps.refl (P : Nat → Prop) (w : World) : Keeps P w w := ⟨rfl, rfl, rfl, Nat.le_refl _, fun _ _ _ => rfl⟩
theorem Keeps.trans (h : Keeps P w w1) (k : Keeps Q w1 w2) (hq : ∀ g, g < w.heap.size → Q g → P g) : Keeps P w w2 :=
  ⟨k.os.trans h.os, k.tape.trans h.tape, k.output.trans h.output, Nat.le_trans h.size k.size, fun g hg hn => (k.block g (Nat.lt_of_lt_of_le hg h.size) (fun e => hn (hq g hg e))).trans (h.block g hg hn)⟩
theorem Keeps.drewN (h : Keeps P w w1) (n : Nat) : Keeps P w (w1.drewN n) := ⟨h.os, h.tape, h.output, h.size, h.block⟩
theorem Keeps.drew (h : Keeps P w w1) : Keeps P w w1.drew := ⟨h.os, h.tape, h.output, h.size, h.block⟩
theorem Keeps.below (h : Keeps P w w1) (k : Below w1.heap.size w1 w2) : Keeps P w w2 :=
  ⟨k.os.trans h.os, k.tape.trans h.tape, k.output.trans h.output, Nat.le_trans h.size k.size, fun g hg hn => (k.block g (Nat.lt_of_lt_of_le hg h.size)).trans (h.block g hg hn)⟩
theorem Keeps.alloc (h : Keeps P w w1) (o : Obj) : Keeps P w (w1.alloc o) := h.below ((Below.refl _ _).alloc (Nat.le_refl _) o)
theorem Keeps.set (h : Keeps P w w1) {p : Addr} (hp : p.block < w.heap.size → P p.block) (u : Value) : Keeps P w (w1.setCell p u) :=
  ⟨h.os, h.tape, h.output, by simpa [World.setCell] using h.size, fun g hg hn => (Below.heap_setCell w1 p u g (fun e => hn (e ▸ hp (e ▸ hg)))).trans (h.block g hg hn)⟩
theorem Keeps.grown {row : Option Nat} (h : Keeps P w w1) (k : w1.grownBy w2 row) (hr : ∀ g, row = some g → g < w.heap.size → P g) : Keeps P w w2 :=
  ⟨k.os.trans h.os, k.tape.trans h.tape, k.output.trans h.output, Nat.le_trans h.size k.size, fun g hg hn => (k.block g (Nat.lt_of_lt_of_le hg h.size) (fun e => hn (hr g e.symm hg))).trans (h.block g hg hn)⟩
theorem Keeps.wider (h : Keeps P w w1) (hq : ∀ g, P g → Q g) : Keeps Q w w1 := ⟨h.os, h.tape, h.output, h.size, fun g hg hn => h.block g hg (fun e => hn (hq g e))⟩
/-- All of P is new: nothing that was there has turned. -/
theorem Keeps.to_below {B : Nat} {w0 : World} (hb : Below B w0 w) (h : Keeps P w w1) (hB : B ≤ w.heap.size) (hp : ∀ g, P g → B ≤ g) : Below B w0 w1 :=
  hb.trans ⟨h.os, h.tape, h.output, h.size, fun g hg => h.block g (by omega) (fun e => by have := hp g e; omega)⟩
end

section
variable {w w' : World} {B n c : Nat} {A : Option Addr} {vs : List CV} {l : List Chg} {t : List Int}
theorem Own.keepB (h : Own w B A n c t) (hk : ∀ g, blk A = some g → w'.heap[g]? = w.heap[g]?) : Own w' B A n c t := h.keep fun g hg => hk g (by rw [hg]; rfl)
theorem RowC.keepB (h : RowC w B A n c vs) (hk : ∀ g, blk A = some g → w'.heap[g]? = w.heap[g]?) : RowC w' B A n c vs := by
  refine ⟨⟨h.row.1, ?_⟩⟩
  rcases h.row.2 with h1 | ⟨g, cap, cur, h1, hB, hg, h3⟩
  · exact .inl h1
  · refine .inr ⟨g, cap, cur, h1, hB, ?_, h3⟩
    injection h1 with h1
    rw [hk g (by rw [h1]; rfl)]; exact hg
/-- A change's texts lie in blocks of P. -/
def CVIn (P : Nat → Prop) (u : CV) : Prop := (∀ g, blk u.C = some g → P g) ∧ (∀ g, blk u.P = some g → P g)
theorem Elts.keepB {P : Nat → Prop} (h : Elts w B vs l) (hin : ∀ u ∈ vs, CVIn P u) (hk : ∀ g, P g → w'.heap[g]? = w.heap[g]?) : Elts w' B vs l :=
  ⟨h.len, fun j v hj => by
    obtain ⟨x, h1, h2⟩ := h.at_ j v hj
    have hi := hin v (List.mem_of_getElem? hj)
    exact ⟨x, h1, h2.at_, h2.cut.keepB fun g hg => hk g (hi.1 g hg), h2.put.keepB fun g hg => hk g (hi.2 g hg), h2.ap, h2.ok⟩⟩
end

/-- How a group lies in memory. -/
structure GV where
  L : Option Addr
  nL : Nat
  cL : Nat
  us : List CV
  K : Option Addr
  nK : Nat
  cK : Nat
def kidC (ks : List Nat) : List (List Value) := ks.map fun (k : Nat) => [Value.int .i64 (k : Int)]
def cellsP (p : GV × Grp) : List Value := [.slice p.1.L p.1.nL p.1.cL, .int .i64 p.2.before, .int .i64 (p.2.above : Int), .slice p.1.K p.1.nK p.1.cK, .int .i64 (p.2.picked : Int)]
structure GrpM (w : World) (P : Nat → Prop) (v : GV) (x : Grp) : Prop where
  row : RowC w 0 v.L v.nL v.cL v.us
  els : Elts w 0 v.us x.l
  kids : RowG w 3 1 0 v.K v.nK v.cK (kidC x.kids)
  inL : ∀ g, blk v.L = some g → P g
  inK : ∀ g, blk v.K = some g → P g
  inU : ∀ u ∈ v.us, CVIn P u
theorem GrpM.same {w w' : World} {P Q : Nat → Prop} {v : GV} {x : Grp} (h : GrpM w P v x) (hs : ∀ g, P g → w'.heap[g]? = w.heap[g]?) (hq : ∀ g, P g → Q g) : GrpM w' Q v x :=
  ⟨h.row.keepB fun g hg => hs g (h.inL g hg), h.els.keepB h.inU hs, h.kids.keep fun g hg => hs g (h.inK g hg), fun g hg => hq g (h.inL g hg), fun g hg => hq g (h.inK g hg), fun u hu => ⟨fun g hg => hq g ((h.inU u hu).1 g hg), fun g hg => hq g ((h.inU u hu).2 g hg)⟩⟩
/-- The rows of different groups' kids share no block. -/
def KAp (ps : List (GV × Grp)) : Prop := ∀ (i j : Nat) (p q : GV × Grp), ps[i]? = some p → ps[j]? = some q → i ≠ j → Apart p.1.K q.1.K

structure TreeM (w : World) (P : Nat → Prop) (t : Nat) (gs : List Grp) (now : Nat) : Prop where
  wf : WF gs now
  lt : ∀ g, P g → g < w.heap.size
  inT : P t
  mem : ∃ (A : Option Addr) (n c : Nat) (ps : List (GV × Grp)), gs = ps.map (·.2) ∧ Box w t 72 #[.slice A n c, .int .i64 (now : Int)] ∧ RowG w 75 5 0 A n c (ps.map cellsP) ∧ (∀ p ∈ ps, GrpM w P p.1 p.2) ∧ KAp ps ∧ (∀ g, blk A = some g → P g)
theorem TreeM.same {w w' : World} {P Q : Nat → Prop} {t : Nat} {gs : List Grp} {now : Nat} (h : TreeM w P t gs now) (hs : ∀ g, P g → w'.heap[g]? = w.heap[g]?) (hq : ∀ g, P g → Q g) (hl : ∀ g, Q g → g < w'.heap.size) : TreeM w' Q t gs now := by
  obtain ⟨A, n, c, ps, h1, h2, h3, h4, h5, h6⟩ := h.mem
  exact ⟨h.wf, hl, hq _ h.inT, A, n, c, ps, h1, (hs t h.inT).trans h2, h3.keep fun g hg => hs g (h6 g hg), fun p hp => (h4 p hp).same hs hq, h5, fun g hg => hq g (h6 g hg)⟩
theorem TreeM.below {w w' : World} {P : Nat → Prop} {t : Nat} {gs : List Grp} {now : Nat} (h : TreeM w P t gs now) (hb : Below w.heap.size w w') : TreeM w' P t gs now :=
  h.same (fun g hg => hb.block g (h.lt g hg)) (fun g hg => hg) (fun g hg => Nat.lt_of_lt_of_le (h.lt g hg) hb.size)
/-- Blocks that are not the tree's have turned. -/
theorem TreeM.keeps {w w' : World} {P Q : Nat → Prop} {t : Nat} {gs : List Grp} {now : Nat} (h : TreeM w P t gs now) (hb : Keeps Q w w') (hq : ∀ g, P g → ¬ Q g) : TreeM w' P t gs now :=
  h.same (fun g hg => hb.block g (h.lt g hg) (hq g hg)) (fun g hg => hg) (fun g hg => Nat.lt_of_lt_of_le (h.lt g hg) hb.size)

theorem groupT : RowT 70 75 5 72 := ⟨Try.underlying70, ⟨.agg #[.slice none 0 0, .int .i64 0, .int .i64 0, .slice none 0 0, .int .i64 0], by kernel_rfl, by kernel_rfl⟩, by omega⟩
theorem intT : RowT 23 3 1 8 := ⟨Try.underlying23, ⟨.int .i64 0, by kernel_rfl, by kernel_rfl⟩, by omega⟩
theorem cellsP_len (p : GV × Grp) : (cellsP p).length = 5 := rfl
theorem cellsP_one (p : GV × Grp) : ∀ u ∈ cellsP p, u.oneCell' = true := fun u hu => by
  simp only [cellsP, List.mem_cons, List.not_mem_nil, or_false] at hu
  rcases hu with rfl | rfl | rfl | rfl | rfl <;> rfl
theorem each_P (ps : List (GV × Grp)) : Each 5 (ps.map cellsP) := fun v hv => by
  obtain ⟨p, _, rfl⟩ := List.mem_map.1 hv
  exact ⟨rfl, cellsP_one p⟩
theorem kidC_each (ks : List Nat) : Each 1 (kidC ks) := fun v hv => by
  obtain ⟨k, _, rfl⟩ := List.mem_map.1 hv
  exact ⟨rfl, fun u hu => by rw [List.mem_singleton.1 hu]; rfl⟩

/-- A block that is known whole is no row's of another type. -/
theorem Box.ne_rowG {w : World} {t B sz n c : Nat} {tt et : TypeId} {cs : Array Value} {A : Option Addr} {vs : List (List Value)} (h : Box w t tt cs) (k : RowG w et sz B A n c vs) (ht : tt ≠ et) : blk A ≠ some t := fun e => by
  rcases k.row.2 with ⟨h1, _⟩ | ⟨g, cap, cur, h1, _, hg, _⟩
  · injection h1 with h1
    subst h1
    cases e
  · injection h1 with h1
    subst h1
    injection e with e
    have e' : g = t := e
    subst e'
    unfold Box at h
    rw [h] at hg
    injection hg with hg
    injection hg with _ h2
    exact ht h2
theorem Box.ne_rowC {w : World} {t B n c : Nat} {tt : TypeId} {cs : Array Value} {A : Option Addr} {vs : List CV} (h : Box w t tt cs) (k : RowC w B A n c vs) (ht : tt ≠ 31) : blk A ≠ some t := fun e => by
  rcases k.row.2 with ⟨h1, _⟩ | ⟨g, cap, cur, h1, _, hg, _⟩
  · injection h1 with h1
    subst h1
    cases e
  · injection h1 with h1
    subst h1
    injection e with e
    have e' : g = t := e
    subst e'
    unfold Box at h
    rw [h] at hg
    injection hg with hg
    injection hg with _ h2
    exact ht h2
theorem Box.ne_own {w : World} {t B n c : Nat} {tt : TypeId} {cs : Array Value} {A : Option Addr} {l : List Int} (h : Box w t tt cs) (k : Own w B A n c l) (ht : tt ≠ 21) : blk A ≠ some t := fun e => by
  rcases k.row.2 with ⟨h1, _⟩ | ⟨g, cap, cur, h1, _, hg, _⟩
  · injection h1 with h1
    subst h1
    cases e
  · injection h1 with h1
    subst h1
    injection e with e
    have e' : g = t := e
    subst e'
    unfold Box at h
    rw [h] at hg
    injection hg with hg
    injection hg with _ h2
    exact ht h2
/-- A group stays where its own blocks stay. -/
theorem GrpM.stay {w w' : World} {P : Nat → Prop} {v : GV} {x : Grp} {t : Nat} {tt : TypeId} {cs : Array Value} (h : GrpM w P v x) (hb : Box w t tt cs) (h1 : tt ≠ 31) (h2 : tt ≠ 21) (h3 : tt ≠ 3)
    (hs : ∀ g, g < w.heap.size → g ≠ t → w'.heap[g]? = w.heap[g]?) : GrpM w' P v x := by
  have kB : ∀ {A : Option Addr}, blk A ≠ some t → (∀ g, blk A = some g → g < w.heap.size) → ∀ g, blk A = some g → w'.heap[g]? = w.heap[g]? := fun hA hl g hg => hs g (hl g hg) (fun e => hA (by rw [hg, e]))
  refine ⟨h.row.keepB (kB (hb.ne_rowC h.row h1) fun g hg => (h.row.blk_ge g hg).2), ⟨h.els.len, fun j u hu => ?_⟩, h.kids.keep (kB (hb.ne_rowG h.kids h3) fun g hg => (h.kids.blk_ge g hg).2), h.inL, h.inK, h.inU⟩
  obtain ⟨y, hy1, hy2⟩ := h.els.at_ j u hu
  exact ⟨y, hy1, hy2.at_, hy2.cut.keepB (kB (hb.ne_own hy2.cut h2) fun g hg => (hy2.cut.blk_ge g hg).2), hy2.put.keepB (kB (hb.ne_own hy2.put h2) fun g hg => (hy2.put.blk_ge g hg).2), hy2.ap, hy2.ok⟩
/-- A group stays where another row of kids turns. -/
theorem GrpM.stayK {w w' : World} {P : Nat → Prop} {v : GV} {x : Grp} {row : Option Nat} (h : GrpM w P v x) (hrow : ∀ b, row = some b → ∃ cur, Box w b 3 cur) (hne : ∀ b, blk v.K = some b → row ≠ some b) (hg : w.grownBy w' row) : GrpM w' P v x := by
  have kB : ∀ {A : Option Addr}, (∀ b, row = some b → blk A ≠ some b) → (∀ g, blk A = some g → g < w.heap.size) → ∀ g, blk A = some g → w'.heap[g]? = w.heap[g]? := fun hA hl g hg' => hg.block g (hl g hg') (fun e => hA g e.symm hg')
  refine ⟨h.row.keepB (kB (fun b hb => by obtain ⟨cur, hx⟩ := hrow b hb; exact hx.ne_rowC h.row (by decide)) fun g hg => (h.row.blk_ge g hg).2), ⟨h.els.len, fun j u hu => ?_⟩, h.kids.keep (kB (fun b hb e => hne b e hb) fun g hg => (h.kids.blk_ge g hg).2), h.inL, h.inK, h.inU⟩
  obtain ⟨y, hy1, hy2⟩ := h.els.at_ j u hu
  exact ⟨y, hy1, hy2.at_, hy2.cut.keepB (kB (fun b hb => by obtain ⟨cur, hx⟩ := hrow b hb; exact hx.ne_own hy2.cut (by decide)) fun g hg => (hy2.cut.blk_ge g hg).2), hy2.put.keepB (kB (fun b hb => by obtain ⟨cur, hx⟩ := hrow b hb; exact hx.ne_own hy2.put (by decide)) fun g hg => (hy2.put.blk_ge g hg).2), hy2.ap, hy2.ok⟩
theorem GrpM.wider {w : World} {P Q : Nat → Prop} {v : GV} {x : Grp} (h : GrpM w P v x) (hq : ∀ g, P g → Q g) : GrpM w Q v x := h.same (fun _ _ => rfl) hq
theorem TreeM.box {w : World} {P : Nat → Prop} {t : Nat} {gs : List Grp} {now : Nat} (h : TreeM w P t gs now) : ∃ cs, Box w t 72 cs := by
  obtain ⟨A, n, c, ps, h1, h2, h3⟩ := h.mem
  exact ⟨_, h2⟩
/-- Now moves. -/
theorem TreeM.setNow {w : World} {P : Nat → Prop} {t : Nat} {gs : List Grp} {now now' : Nat} (h : TreeM w P t gs now) (hn : now' < gs.length) : TreeM (w.setCell ⟨t, 1, none⟩ (.int .i64 (now' : Int))) P t gs now' := by
  obtain ⟨A, n, c, ps, h1, h2, h3, h4, h5, h6⟩ := h.mem
  refine ⟨h.wf.move hn, fun g hg => by have := h.lt g hg; simpa [World.setCell] using this, h.inT, A, n, c, ps, h1, h2.set 1 _, h3.far (p := ⟨t, 1, none⟩) (h2.ne_rowG h3 (by decide)) _, fun p hp => ?_, h5, h6⟩
  exact (h4 p hp).stay h2 (by decide) (by decide) (by decide) fun g _ hg => Below.heap_setCell w ⟨t, 1, none⟩ _ g hg
theorem RowG.box {w : World} {et : TypeId} {sz B g n c : Nat} {vs : List (List Value)} (h : RowG w et sz B (some ⟨g, 0, none⟩) n c vs) : ∃ cur, Box w g et cur := by
  rcases h.row.2 with ⟨h1, _⟩ | ⟨g', cap, cur, h1, _, hg, _⟩
  · cases h1
  · injection h1 with h1
    injection h1 with h1
    injection h1 with h1
    subst h1
    exact ⟨cur, hg⟩
/-- The groups' block is not the tree's own. -/
theorem TreeM.apart {w : World} {P : Nat → Prop} {t g n c now : Nat} {gs : List Grp} (h : TreeM w P t gs now) (h0 : w.cell? ⟨t, 0, none⟩ = some (.slice (some ⟨g, 0, none⟩) n c)) : g ≠ t ∧ P g := by
  obtain ⟨A, n', c', ps, h1, h2, h3, h4, h5, h6⟩ := h.mem
  have hc := h2.c2.1.1
  rw [h0] at hc
  injection hc with hc
  injection hc with hc _ _
  subst hc
  exact ⟨fun e => h2.ne_rowG h3 (by decide) (by rw [← e]; rfl), h6 g rfl⟩
/-- One of the kids is picked. -/
theorem TreeM.setPick {w : World} {P : Nat → Prop} {t g n c now i : Nat} {gs : List Grp} {x : Grp} (h : TreeM w P t gs now) (h0 : w.cell? ⟨t, 0, none⟩ = some (.slice (some ⟨g, 0, none⟩) n c)) (hx : gs[now]? = some x) (hi : i < x.kids.length) :
    TreeM (w.setCell ⟨g, now * 5 + 4, none⟩ (.int .i64 (i : Int))) P t (pickG gs now i) now := by
  have hgt := h.apart h0
  have hwf := h.wf.pickG hx hi
  obtain ⟨A, n', c', ps, h1, h2, h3, h4, h5, h6⟩ := h.mem
  have hc := h2.c2.1.1
  rw [h0] at hc
  injection hc with hc
  injection hc with hc hn hcc
  subst hc hn hcc
  obtain ⟨p, hp, rfl⟩ : ∃ p, ps[now]? = some p ∧ p.2 = x := by
    rw [h1, List.getElem?_map] at hx
    cases hp : ps[now]? with
    | none => rw [hp] at hx; cases hx
    | some p => exact ⟨p, rfl, by rw [hp] at hx; simpa using hx⟩
  have hv : (ps.map cellsP)[now]? = some (cellsP p) := by simp [hp]
  have hps : gs = ps.map (·.2) := h1
  obtain ⟨cur, hbox⟩ := h3.box
  refine ⟨hwf, fun g' hg' => by have := h.lt g' hg'; simpa [World.setCell] using this, h.inT, some ⟨g, 0, none⟩, n, c, ps.set now (p.1, { p.2 with picked := i }), ?_, h2.far (p := ⟨g, now * 5 + 4, none⟩) (fun e => hgt.1 e.symm) _, ?_, fun q hq => ?_, ?_, h6⟩
  · rw [pickG_at hx, hps, List.map_set]
  · have hr := h3.set (i := 4) hv (by omega) (u := .int .i64 (i : Int)) rfl
    have e : (cellsP p).set 4 (.int .i64 (i : Int)) = cellsP (p.1, { p.2 with picked := i }) := rfl
    rw [e, ← List.map_set] at hr
    exact hr
  · have key : GrpM w P q.1 { q.2 with picked := q.2.picked } := by
      rcases List.mem_or_eq_of_mem_set hq with hq | hq
      · exact h4 q hq
      · have := h4 p (List.mem_of_getElem? hp)
        rw [hq]
        exact ⟨this.row, this.els, this.kids, this.inL, this.inK, this.inU⟩
    exact key.stay hbox (by decide) (by decide) (by decide) fun b _ hb => Below.heap_setCell w ⟨g, now * 5 + 4, none⟩ _ b hb
  · intro a b q r hq hr hab
    have key : ∀ (a : Nat) (q : GV × Grp), (ps.set now (p.1, { p.2 with picked := i }))[a]? = some q → ∃ q', ps[a]? = some q' ∧ q'.1 = q.1 := fun a q hq => by
      by_cases ha : a = now
      · subst ha
        rw [List.getElem?_set_self (List.getElem?_eq_some_iff.1 hp).1] at hq
        exact ⟨p, hp, by rw [← Option.some.inj hq]⟩
      · rw [List.getElem?_set_ne (fun e => ha e.symm)] at hq
        exact ⟨q, hq, rfl⟩
    obtain ⟨q', hq1, hq2⟩ := key a q hq
    obtain ⟨r', hr1, hr2⟩ := key b r hr
    rw [← hq2, ← hr2]
    exact h5 a b q' r' hq1 hr1 hab
end Go.Proofs.Ytjhnenljmmeflaa
