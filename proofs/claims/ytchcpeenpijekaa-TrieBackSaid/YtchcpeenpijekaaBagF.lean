/- The reference's bag: what an operation on it turns; Add. -/
import Derived.Test.YtchcpeenpijekaaBagE
namespace Go.Proofs.Ytchcpeenpijekaa
open Go.RowKit Go.Maps Go.MapKept Go.ChangeMaps Go.Shelf
set_option linter.unusedVariables false

/-- What an operation on the reference's bag leaves as it was: all below B, all texts, all blocks of other types. -/
structure CalmB (B : Nat) (w w' : World) : Prop where
  low : Below B w w'
  runes : ∀ {A : Option Addr} {n : Nat} {s : List Int}, Runes w A n s → Runes w' A n s
  keep : ∀ {g : Nat} {o : Obj}, w.heap[g]? = some o → (∀ cs ty k, o = .cells cs ty k → ty ≠ 28 ∧ ty ≠ 49) → w'.heap[g]? = some o
section
variable {B : Nat} {w w' w1 w2 : World}
theorem CalmB.of_below (h : Below w.heap.size w w') (hB : B ≤ w.heap.size) : CalmB B w w' := ⟨h.mono hB, fun hr => hr.below h, fun ho _ => (h.block _ (Array.getElem?_eq_some_iff.1 ho).1).trans ho⟩
theorem CalmB.trans (h : CalmB B w w1) (k : CalmB B w1 w2) : CalmB B w w2 := ⟨h.low.trans k.low, fun hr => k.runes (h.runes hr), fun ho h1 => k.keep (h.keep ho h1) h1⟩
/-- A block of a bag's own types has turned. -/
theorem CalmB.turn {g : Nat} {cs : Array Value} {ty : TypeId} {k : Nat × Nat} (ho : w.heap[g]? = some (.cells cs ty k)) (ht : ty = 28 ∨ ty = 49) (hc : ∀ (i : Nat) x, cs[i]? ≠ some (.int .i32 x)) (hB : B ≤ g) (hg : w.grownBy w' (some g)) (hB2 : B ≤ w.heap.size) : CalmB B w w' :=
  ⟨(Below.refl B w).grown hg hB2 fun x e => by cases e; exact hB, fun {A n s} hr => hr.keep fun b o ha hn => hg.block b (hr.lt hn ha) fun e => by
    injection e with e
    subst e
    obtain ⟨b', o', ha', h1⟩ := hr.at_ 0 hn
    rw [ha] at ha'
    injection ha' with ha'
    injection ha' with e1 e2
    subst e1
    have h2 : w.cell? ⟨b, o' + 0, none⟩ = cs[o' + 0]? := by simp [World.cell?, ho]
    rw [h2] at h1
    exact hc _ _ h1, fun {g' o} ho' h1 => (hg.block g' (Array.getElem?_eq_some_iff.1 ho').1 fun e => by
    injection e with e
    subst e
    rw [ho] at ho'
    injection ho' with ho'
    have := h1 _ _ _ ho'.symm
    rcases ht with h | h
    · exact this.1 h
    · exact this.2 h).trans ho'⟩
theorem TrieB.calm {t K : Nat} {L : List Itm} {B' : Nat} (h : TrieB w B t K L) (hc : CalmB B' w w') : TrieB w' B t K L := by
  obtain ⟨h1, N, Q, h2⟩ := h
  have hT := h2.trie
  obtain ⟨x0, hx0, hb0⟩ := hT.box
  refine ⟨h1, N, Q, ⟨hT.tree.keep fun p x hx => ?_, ⟨x0, hx0, hc.keep hb0 fun cs ty k e => ?_⟩, hT.one, hT.mem, hT.live, hT.base⟩, h2.bag, h2.mem⟩
  · have hb := hT.tree.node p x hx
    obtain ⟨n, _, hm⟩ := hT.tree.kids p x hx
    obtain ⟨o, ho, hn⟩ := hm.noCells
    refine ⟨(hc.keep hb fun cs ty k e => ?_).trans hb.symm, (hc.keep ho fun cs ty k e => ?_).trans ho.symm⟩
    · injection e with _ e
      subst e
      exact ⟨by decide, by decide⟩
    · subst e
      cases hn
  · injection e with _ e
    subst e
    exact ⟨by decide, by decide⟩
theorem BagM.calm {P : Nat → Prop} {g : Nat} {L : List Itm} {B' : Nat} (h : BagM P w B g L) (hc : Calm B' w w') : BagM P w' B g L := by
  obtain ⟨A, n, c, us, h⟩ := h
  exact ⟨A, n, c, us, hc.box h.box (by decide) (by decide), hc.rowG h.row (by decide) (by decide), h.eq, fun u hu => hc.runes (h.rd u hu), h.off, h.base, h.cap⟩
theorem CalmB.own (h : CalmB B w w') {B' n c : Nat} {A : Option Addr} {l : List Int} (ho : Own w B' A n c l) : Own w' B' A n c l :=
  ho.keep fun g e => by
    obtain ⟨cur, hc⟩ := ho.obj (g := g) (by rw [e]; rfl)
    exact (h.keep hc fun cs ty k e => by
      injection e with _ e
      subst e
      exact ⟨by decide, by decide⟩).trans hc.symm
theorem CalmB.box (h : CalmB B w w') {g : Nat} {cs : Array Value} {ty : TypeId} (ho : Box w g ty cs) (h1 : ty ≠ 28) (h2 : ty ≠ 49) : Box w' g ty cs := h.keep ho fun cs ty k e => by
  injection e with _ e
  subst e
  exact ⟨h1, h2⟩
end

theorem bag_cells {A : Option Addr} {n c : Nat} : ∀ (i : Nat) x, (#[Value.slice A n c] : Array Value)[i]? ≠ some (.int .i32 x) := fun i x => by
  match i with
  | 0 => simp
  | i + 1 => simp

theorem map_set_itm (us : List IV) (k : Nat) (u : IV) : (us.set k u).map IV.itm = (us.map IV.itm).set k u.itm := List.map_set ..
section
variable {P : Nat → Prop} {w w' : World} {B g n c : Nat} {A : Option Addr} {us : List IV} {L : List Itm}
theorem BagV.sizes (h : BagV P w B g A n c us L) (hs : Small L) : n ≤ 1000 ∧ ∀ u ∈ us, u.n ≤ 1000 := by
  have h1 := h.len
  have h2 := len_le_all hs.bag
  have h3 := hs.all
  refine ⟨by omega, fun u hu => ?_⟩
  have h4 := hs.len u.itm (by rw [← h.eq]; exact List.mem_map.2 ⟨u, hu, rfl⟩)
  have h5 := (h.rd u hu).len
  unfold IV.itm at h4
  dsimp only at h4
  omega
/-- An item's count is another one. -/
theorem BagV.setK (h : BagV P w B g A n c us L) {k : Nat} {u : IV} (hu : us[k]? = some u) {b : Nat} (hA : A = some ⟨b, 0, none⟩) (c' : Nat) (hB : B ≤ w.heap.size) (hBb : B ≤ b) :
    BagV P (w.setCell ⟨b, k * 2 + 1, none⟩ (.int .i64 (c' : Int))) B g A n c (us.set k { u with k := c' }) (L.set k (u.t, c')) ∧ CalmB B w (w.setCell ⟨b, k * 2 + 1, none⟩ (.int .i64 (c' : Int))) := by
  subst hA
  have hne := row_ne_box h.row h.box (by decide)
  have hbg : g ≠ b := fun e => hne (by rw [e]; rfl)
  have hv : (us.map IV.cells)[k]? = some u.cells := by rw [List.getElem?_map, hu]; rfl
  have hset := h.row.set (u := .int .i64 (c' : Int)) hv (i := 1) (by omega) rfl
  have e : (us.map IV.cells).set k (u.cells.set 1 (.int .i64 (c' : Int))) = (us.set k { u with k := c' }).map IV.cells := by rw [List.map_set]; rfl
  rw [e] at hset
  obtain ⟨cur, hcur⟩ := h.row.obj (g := b) rfl
  have hcalm : CalmB B w (w.setCell ⟨b, k * 2 + 1, none⟩ (.int .i64 (c' : Int))) := by
    refine ⟨(Below.refl B w).setCell (p := ⟨b, k * 2 + 1, none⟩) hBb _, fun {S m s} hr => ?_, fun {g' o} ho h1 => ?_⟩
    · refine ⟨hr.len, fun j hj => ?_, hr.wf⟩
      obtain ⟨bb, oo, e1, h2⟩ := hr.at_ j hj
      refine ⟨bb, oo, e1, ?_⟩
      by_cases hbb : bb = b
      · subst hbb
        by_cases ho : oo + j = k * 2 + 1
        · exfalso
          rw [ho] at h2
          obtain ⟨b', e', h4, _⟩ := h.row.cell (i := 1) hv (by omega) rfl
          injection e' with e'
          injection e' with e'
          subst e'
          rw [h2] at h4
          injection h4 with h4
          injection h4 with h4
          cases h4
        · exact (World.cell?_setCell_other _ ⟨bb, k * 2 + 1, none⟩ ⟨bb, oo + j, none⟩ _ (by intro e; injection e with _ e; exact ho (by omega))).trans h2
      · exact (World.cell?_of_block (Below.heap_setCell w ⟨b, k * 2 + 1, none⟩ _ bb hbb)).trans h2
    · refine (Below.heap_setCell w ⟨b, k * 2 + 1, none⟩ _ g' fun e => ?_).trans ho
      have e : g' = b := e
      subst e
      rw [hcur] at ho
      injection ho with ho
      exact (h1 _ _ _ ho.symm).2 rfl
  refine ⟨⟨h.box.far (p := ⟨b, k * 2 + 1, none⟩) hbg _, hset, by rw [map_set_itm, h.eq]; rfl, fun v hv' => ?_, fun v hv' => ?_, h.base, fun v hv' => ?_⟩, hcalm⟩
  all_goals
    rcases List.mem_or_eq_of_mem_set hv' with h1 | h1
  · exact hcalm.runes (h.rd v h1)
  · subst h1; exact hcalm.runes (h.rd u (List.mem_of_getElem? hu))
  · exact h.off v h1
  · subst h1; exact h.off u (List.mem_of_getElem? hu)
  · exact h.cap v h1
  · subst h1; exact h.cap u (List.mem_of_getElem? hu)
end
end Go.Proofs.Ytchcpeenpijekaa
