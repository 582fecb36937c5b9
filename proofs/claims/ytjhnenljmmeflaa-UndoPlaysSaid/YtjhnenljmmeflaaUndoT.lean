/- The tree in memory while it is added to: what each store and append leaves. -/
import Derived.Test.YtjhnenljmmeflaaUndoS
namespace Go.Proofs.Ytjhnenljmmeflaa
open Go.RowKit
set_option linter.unusedVariables false

/-- The tree in memory, with its parts named; the groups need not be a tree yet. -/
structure TM (w : World) (P : Nat → Prop) (t g n c now : Nat) (ps : List (GV × Grp)) : Prop where
  box : Box w t 72 #[.slice (some ⟨g, 0, none⟩) n c, .int .i64 (now : Int)]
  row : RowG w 75 5 0 (some ⟨g, 0, none⟩) n c (ps.map cellsP)
  each : ∀ p ∈ ps, GrpM w P p.1 p.2
  ap : KAp ps
  lt : ∀ b, P b → b < w.heap.size
  inT : P t
  inG : P g
theorem TreeM.tm {w : World} {P : Nat → Prop} {t : Nat} {gs : List Grp} {now : Nat} (h : TreeM w P t gs now) : ∃ g n c ps, gs = ps.map (·.2) ∧ TM w P t g n c now ps ∧ n = gs.length := by
  obtain ⟨A, n, c, ps, h1, h2, h3, h4, h5, h6⟩ := h.mem
  have hn : ps.length = n := by have := h3.cnt; simpa using this
  have hl : gs.length = ps.length := by rw [h1]; simp
  have hw := h.wf.nw
  rcases h3.form with ⟨_, h0, _⟩ | ⟨g, rfl, _, _⟩
  · omega
  · exact ⟨g, n, c, ps, h1, ⟨h2, h3, h4, h5, h.lt, h.inT, h6 g rfl⟩, by omega⟩
theorem TM.tree {w : World} {P : Nat → Prop} {t g n c now : Nat} {ps : List (GV × Grp)} (h : TM w P t g n c now ps) (hw : WF (ps.map (·.2)) now) : TreeM w P t (ps.map (·.2)) now :=
  ⟨hw, h.lt, h.inT, some ⟨g, 0, none⟩, n, c, ps, rfl, h.box, h.row, h.each, h.ap, fun b hb => by
    injection hb with hb
    exact hb ▸ h.inG⟩

section
variable {w w' : World} {P Q : Nat → Prop} {t g n c now : Nat} {ps : List (GV × Grp)}
theorem TM.same (h : TM w P t g n c now ps) (hs : ∀ b, P b → w'.heap[b]? = w.heap[b]?) (hq : ∀ b, P b → Q b) (hl : ∀ b, Q b → b < w'.heap.size) : TM w' Q t g n c now ps :=
  ⟨(hs t h.inT).trans h.box, h.row.keep fun b hb => by
    injection hb with hb
    exact hs b (hb ▸ h.inG), fun p hp => (h.each p hp).same hs hq, h.ap, hl, hq _ h.inT, hq _ h.inG⟩
theorem TM.below (h : TM w P t g n c now ps) (hb : Below w.heap.size w w') : TM w' P t g n c now ps :=
  h.same (fun b hb' => hb.block b (h.lt b hb')) (fun _ h => h) fun b hb' => Nat.lt_of_lt_of_le (h.lt b hb') hb.size
theorem TM.ne (h : TM w P t g n c now ps) : g ≠ t := fun e => h.box.ne_rowG h.row (by decide) (by rw [← e]; rfl)
theorem TM.setNow (h : TM w P t g n c now ps) (now' : Nat) : TM (w.setCell ⟨t, 1, none⟩ (.int .i64 (now' : Int))) P t g n c now' ps :=
  ⟨h.box.set 1 _, h.row.far (p := ⟨t, 1, none⟩) (fun e => h.ne (by injection e)) _, fun p hp => (h.each p hp).stay h.box (by decide) (by decide) (by decide) fun b _ hb => Below.heap_setCell w ⟨t, 1, none⟩ _ b hb, h.ap, fun b hb => by have := h.lt b hb; simpa [World.setCell] using this, h.inT, h.inG⟩
/-- A cell of one group is written. -/
theorem TM.setG (h : TM w P t g n c now ps) {j i : Nat} {p p' : GV × Grp} {u : Value} (hp : ps[j]? = some p) (hi : i < 5) (hu : u.oneCell' = true) (hc : cellsP p' = (cellsP p).set i u) (hm : GrpM w P p'.1 p'.2) (hap : KAp (ps.set j p')) :
    TM (w.setCell ⟨g, j * 5 + i, none⟩ u) P t g n c now (ps.set j p') := by
  obtain ⟨cur, hbox⟩ := h.row.box
  have hv : (ps.map cellsP)[j]? = some (cellsP p) := by simp [hp]
  refine ⟨h.box.far (p := ⟨g, j * 5 + i, none⟩) (fun e => h.ne e.symm) _, ?_, fun q hq => ?_, hap, fun b hb => by have := h.lt b hb; simpa [World.setCell] using this, h.inT, h.inG⟩
  · have hr := h.row.set (i := i) hv hi hu
    rw [← hc, ← List.map_set] at hr
    exact hr
  · have key : GrpM w P q.1 q.2 := by
      rcases List.mem_or_eq_of_mem_set hq with hq | hq
      · exact h.each q hq
      · rw [hq]; exact hm
    exact key.stay hbox (by decide) (by decide) (by decide) fun b _ hb => Below.heap_setCell w ⟨g, j * 5 + i, none⟩ _ b hb
end
theorem KAp.set_same {ps : List (GV × Grp)} {j : Nat} {p p' : GV × Grp} (h : KAp ps) (hp : ps[j]? = some p) (hk : p'.1.K = p.1.K) : KAp (ps.set j p') := by
  intro a b q r hq hr hab
  have key : ∀ (a : Nat) (q : GV × Grp), (ps.set j p')[a]? = some q → ∃ q', ps[a]? = some q' ∧ q'.1.K = q.1.K := fun a q hq => by
    by_cases ha : a = j
    · subst ha
      rw [List.getElem?_set_self (List.getElem?_eq_some_iff.1 hp).1] at hq
      exact ⟨p, hp, by rw [← Option.some.inj hq, hk]⟩
    · rw [List.getElem?_set_ne (fun e => ha e.symm)] at hq
      exact ⟨q, hq, rfl⟩
  obtain ⟨q', hq1, hq2⟩ := key a q hq
  obtain ⟨r', hr1, hr2⟩ := key b r hr
  rw [← hq2, ← hr2]
  exact h a b q' r' hq1 hr1 hab
/-- A group with no kids more. -/
theorem KAp.snoc {ps : List (GV × Grp)} {p : GV × Grp} (h : KAp ps) (hk : blk p.1.K = none) : KAp (ps ++ [p]) := by
  intro a b q r hq hr hab
  by_cases h1 : a < ps.length <;> by_cases h2 : b < ps.length
  · rw [List.getElem?_append_left h1] at hq
    rw [List.getElem?_append_left h2] at hr
    exact h a b q r hq hr hab
  · rw [List.getElem?_append_right (by omega)] at hr
    obtain ⟨e1, e2⟩ := List.getElem?_eq_some_iff.1 hr
    obtain rfl : p = r := by simpa using e2
    intro b' hb1 hb2
    rw [hk] at hb2
    cases hb2
  · rw [List.getElem?_append_right (by omega)] at hq
    obtain ⟨e1, e2⟩ := List.getElem?_eq_some_iff.1 hq
    obtain rfl : p = q := by simpa using e2
    intro b' hb1
    rw [hk] at hb1
    cases hb1
  · have e1 := (List.getElem?_eq_some_iff.1 hq).1
    have e2 := (List.getElem?_eq_some_iff.1 hr).1
    rw [List.length_append, List.length_singleton] at e1 e2
    omega
/-- A row of kids that has moved, to where no other one lies. -/
theorem KAp.set_new {ps : List (GV × Grp)} {j : Nat} {p' : GV × Grp} (h : KAp ps) (hn : ∀ (i : Nat) (q : GV × Grp), ps[i]? = some q → i ≠ j → Apart q.1.K p'.1.K) : KAp (ps.set j p') := by
  intro a b q r hq hr hab
  by_cases ha : a = j <;> by_cases hb : b = j
  · omega
  · subst ha
    rw [List.getElem?_set_ne (fun e => hb e.symm)] at hr
    have hl := (List.getElem?_eq_some_iff.1 hq).1
    rw [List.length_set] at hl
    rw [List.getElem?_set_self hl] at hq
    obtain rfl := Option.some.inj hq
    exact (hn b r hr hb).symm
  · subst hb
    rw [List.getElem?_set_ne (fun e => ha e.symm)] at hq
    have hl := (List.getElem?_eq_some_iff.1 hr).1
    rw [List.length_set] at hl
    rw [List.getElem?_set_self hl] at hr
    obtain rfl := Option.some.inj hr
    exact hn a q hq ha
  · rw [List.getElem?_set_ne (fun e => ha e.symm)] at hq
    rw [List.getElem?_set_ne (fun e => hb e.symm)] at hr
    exact h a b q r hq hr hab

/-- The groups have grown by one, and the tree knows. -/
theorem TM.grow {w w1 w2 : World} {P : Nat → Prop} {t g n c now g2 c2 : Nat} {ps : List (GV × Grp)} {pn : GV × Grp} (h : TM w P t g n c now ps) (hb : Below w.heap.size w w1) (hg : w1.grownBy w2 (some g)) (hg2 : g = g2 ∨ g2 = w1.heap.size)
    (hr : RowG w2 75 5 0 (some ⟨g2, 0, none⟩) (n + 1) c2 (ps.map cellsP ++ [cellsP pn])) (hn : GrpM w1 (fun b => w.heap.size ≤ b ∧ b < w1.heap.size) pn.1 pn.2) (hk : blk pn.1.K = none) :
    TM (w2.setCell ⟨t, 0, none⟩ (.slice (some ⟨g2, 0, none⟩) (n + 1) c2)) (fun b => P b ∨ (w.heap.size ≤ b ∧ b < w2.heap.size)) t g2 (n + 1) c2 now (ps ++ [pn]) := by
  have htl := h.lt t h.inT
  have h1 := h.below hb
  have hs1 := hb.size
  have hs2 := hg.size
  obtain ⟨cur, hbox⟩ := h1.row.box
  have hgl := h.lt g h.inG
  have hne2 : g2 ≠ t := by
    rcases hg2 with e | e
    · have := h.ne; omega
    · omega
  have hbt : Box w2 t 72 #[.slice (some ⟨g, 0, none⟩) n c, .int .i64 (now : Int)] := h1.box.grown hg (fun e => by injection e with e; exact h.ne e.symm)
  have hst : ∀ (Q : Nat → Prop) (p : GV × Grp), GrpM w1 Q p.1 p.2 → GrpM (w2.setCell ⟨t, 0, none⟩ (.slice (some ⟨g2, 0, none⟩) (n + 1) c2)) Q p.1 p.2 := fun Q p hp =>
    (hp.stay hbox (by decide) (by decide) (by decide) fun b hb' hne => hg.block b hb' (fun e => hne (by injection e))).stay hbt (by decide) (by decide) (by decide) fun b _ hne => Below.heap_setCell w2 ⟨t, 0, none⟩ _ b hne
  refine ⟨hbt.set 0 _, ?_, fun p hp => ?_, h.ap.snoc hk, fun b hb' => ?_, .inl h.inT, ?_⟩
  · have := hr.far (p := ⟨t, 0, none⟩) (fun e => hne2 (by injection e)) (.slice (some ⟨g2, 0, none⟩) (n + 1) c2)
    rw [List.map_append]
    exact this
  · rcases List.mem_append.1 hp with hp | hp
    · exact (hst _ p (h1.each p hp)).wider fun b hb' => .inl hb'
    · obtain rfl := List.mem_singleton.1 hp
      exact (hst _ p hn).wider fun b hb' => .inr ⟨hb'.1, by omega⟩
  · have : b < w2.heap.size := by
      rcases hb' with hb' | hb'
      · have := h.lt b hb'; omega
      · exact hb'.2
    simpa [World.setCell] using this
  · rcases hg2 with e | e
    · exact .inl (e ▸ h.inG)
    · have := (hr.blk_ge g2 rfl).2
      exact .inr ⟨by omega, this⟩
/-- One more kid, and its group knows. -/
theorem TM.addKid {w w1 w2 : World} {P : Nat → Prop} {t g n c now k2 ck2 j m : Nat} {ps : List (GV × Grp)} {p : GV × Grp} (h : TM w P t g n c now ps) (hp : ps[j]? = some p) (hb : Below w.heap.size w w1) (hg : w1.grownBy w2 (blk p.1.K)) (hk2 : blk p.1.K = some k2 ∨ k2 = w1.heap.size)
    (hr : RowG w2 3 1 0 (some ⟨k2, 0, none⟩) (p.1.nK + 1) ck2 (kidC (p.2.kids ++ [m]))) :
    TM (w2.setCell ⟨g, j * 5 + 3, none⟩ (.slice (some ⟨k2, 0, none⟩) (p.1.nK + 1) ck2)) (fun b => P b ∨ (w.heap.size ≤ b ∧ b < w2.heap.size)) t g n c now
      (ps.set j ({ p.1 with K := some ⟨k2, 0, none⟩, nK := p.1.nK + 1, cK := ck2 }, { p.2 with kids := p.2.kids ++ [m] })) := by
  have h1 := h.below hb
  have hs1 := hb.size
  have hs2 := hg.size
  have hjl := (List.getElem?_eq_some_iff.1 hp).1
  have hm := h1.each p (List.mem_of_getElem? hp)
  have hrow : ∀ b, blk p.1.K = some b → ∃ cur, Box w1 b 3 cur := fun b hb' => by
    rcases hm.kids.form with ⟨e, _⟩ | ⟨b', e, _⟩
    · rw [e] at hb'; cases hb'
    · rw [e] at hb'
      injection hb' with hb'
      have hk := hm.kids
      rw [e] at hk
      obtain ⟨cur, hx⟩ := hk.box
      have : b' = b := hb'
      exact ⟨cur, this ▸ hx⟩
  have hbt : Box w2 t 72 #[.slice (some ⟨g, 0, none⟩) n c, .int .i64 (now : Int)] := h1.box.grown hg (fun e => by
    obtain ⟨cur, hx⟩ := hrow t e.symm
    have h2 := h1.box
    unfold Box at hx h2
    rw [h2] at hx
    injection hx with hx
    injection hx with _ hx
    exact absurd hx (by decide))
  have hgr : RowG w2 75 5 0 (some ⟨g, 0, none⟩) n c (ps.map cellsP) := h1.row.kept hg (.inr fun e => by
    obtain ⟨cur, hx⟩ := hrow g e.symm
    exact hx.ne_rowG h1.row (by decide) rfl)
  obtain ⟨cur, hbox⟩ := hgr.box
  have hv : (ps.map cellsP)[j]? = some (cellsP p) := by simp [hp]
  have hP : ∀ b, P b → b < w2.heap.size := fun b hb' => by have := h.lt b hb'; omega
  have hkin : ∀ b, blk (some (⟨k2, 0, none⟩ : Addr)) = some b → P b ∨ (w.heap.size ≤ b ∧ b < w2.heap.size) := fun b hb' => by
    injection hb' with hb'
    have hb'' : k2 = b := hb'
    subst hb''
    rcases hk2 with e | e
    · exact .inl (hm.inK _ e)
    · exact .inr ⟨by omega, (hr.blk_ge _ rfl).2⟩
  refine ⟨hbt.far (p := ⟨g, j * 5 + 3, none⟩) (fun e => h.ne e.symm) _, ?_, fun q hq => ?_, ?_, fun b hb' => ?_, .inl h.inT, .inl h.inG⟩
  · have := hgr.set (i := 3) hv (by omega) (u := .slice (some ⟨k2, 0, none⟩) (p.1.nK + 1) ck2) rfl
    rw [show (cellsP p).set 3 (.slice (some ⟨k2, 0, none⟩) (p.1.nK + 1) ck2) = cellsP ({ p.1 with K := some ⟨k2, 0, none⟩, nK := p.1.nK + 1, cK := ck2 }, { p.2 with kids := p.2.kids ++ [m] }) from rfl, ← List.map_set] at this
    exact this
  · obtain ⟨i, hi⟩ := List.mem_iff_getElem?.1 hq
    have key : GrpM w2 (fun b => P b ∨ (w.heap.size ≤ b ∧ b < w2.heap.size)) q.1 q.2 := by
      by_cases hij : i = j
      · subst hij
        rw [List.getElem?_set_self hjl] at hi
        obtain rfl := Option.some.inj hi
        have hm2 : GrpM w1 P { p.1 with K := none, nK := 0, cK := 0 } { p.2 with kids := [] } := ⟨hm.row, hm.els, RowG.nil _ _ _ _, hm.inL, (fun b hb' => by cases hb'), hm.inU⟩
        have hm3 := (hm2.stayK hrow (fun b hb' => by cases hb') hg).wider (Q := fun b => P b ∨ (w.heap.size ≤ b ∧ b < w2.heap.size)) fun b hb' => .inl hb'
        exact ⟨hm3.row, hm3.els, hr, hm3.inL, hkin, hm3.inU⟩
      · rw [List.getElem?_set_ne (fun e => hij e.symm)] at hi
        exact ((h1.each q (List.mem_of_getElem? hi)).stayK hrow (fun b hb' e => h.ap i j q p hi hp hij b hb' e) hg).wider fun b hb' => .inl hb'
    exact key.stay hbox (by decide) (by decide) (by decide) fun b _ hne => Below.heap_setCell w2 ⟨g, j * 5 + 3, none⟩ _ b hne
  · refine h.ap.set_new fun i q hi hij b hb1 hb2 => ?_
    injection hb2 with hb2
    have hb2' : k2 = b := hb2
    subst hb2'
    rcases hk2 with e | e
    · exact h.ap i j q p hi hp hij _ hb1 e
    · have := ((h.each q (List.mem_of_getElem? hi)).kids.blk_ge _ hb1).2
      omega
  · have : b < w2.heap.size := by
      rcases hb' with hb' | hb'
      · exact hP b hb'
      · exact hb'.2
    simpa [World.setCell] using this
end Go.Proofs.Ytjhnenljmmeflaa
