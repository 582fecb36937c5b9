/- Rows of elements of any type, in memory of the call's own: an element is a list of cells; append onto such rows; elements read and written. -/
import Derived.Test.YtfeflmpdbejhjaaDoorOwn
namespace Go.Proofs.YtfeflmpdbejhjaaDoor
open Go.RowKit
set_option linter.unusedVariables false

theorem flat_len {sz : Nat} : ∀ {vs : List (List Value)}, (∀ v ∈ vs, v.length = sz) → vs.flatten.length = vs.length * sz
  | [], _ => by simp
  | v :: vs, h => by
    rw [List.flatten_cons, List.length_append, flat_len (fun u hu => h u (List.mem_cons_of_mem _ hu)), h v (List.mem_cons_self ..), List.length_cons, Nat.add_mul, Nat.one_mul, Nat.add_comm]
theorem flat_get {sz i : Nat} (hi : i < sz) : ∀ {vs : List (List Value)} {j : Nat}, (∀ v ∈ vs, v.length = sz) → vs.flatten[j * sz + i]? = (vs[j]?).bind (·[i]?)
  | [], j, _ => by simp
  | v :: vs, 0, h => by
    have hv := h v (List.mem_cons_self ..)
    rw [List.flatten_cons, Nat.zero_mul, Nat.zero_add, List.getElem?_append_left (by omega)]
    rfl
  | v :: vs, j + 1, h => by
    have hv := h v (List.mem_cons_self ..)
    rw [List.flatten_cons, List.getElem?_append_right (by rw [hv, Nat.add_mul]; omega), hv, List.getElem?_cons_succ, ← flat_get hi (fun u hu => h u (List.mem_cons_of_mem _ hu))]
    congr 1
    rw [Nat.add_mul]
    omega
theorem flat_set {sz i : Nat} (hi : i < sz) (u : Value) : ∀ {vs : List (List Value)} {j : Nat} {v : List Value}, (∀ v ∈ vs, v.length = sz) → vs[j]? = some v → vs.flatten.set (j * sz + i) u = (vs.set j (v.set i u)).flatten
  | [], j, v, _, h => by simp at h
  | x :: vs, 0, v, h, hv => by
    have hx := h x (List.mem_cons_self ..)
    obtain rfl : x = v := by simpa using hv
    rw [List.flatten_cons, Nat.zero_mul, Nat.zero_add, List.set_append_left _ _ (by omega), List.set_cons_zero, List.flatten_cons]
  | x :: vs, j + 1, v, h, hv => by
    have hx := h x (List.mem_cons_self ..)
    rw [List.getElem?_cons_succ] at hv
    rw [List.flatten_cons, List.set_append_right _ _ (by rw [hx, Nat.add_mul]; omega), List.set_cons_succ, List.flatten_cons, ← flat_set hi u (fun u hu => h u (List.mem_cons_of_mem _ hu)) hv]
    congr 2
    rw [hx, Nat.add_mul]
    omega

/-- Elements of sz cells each. -/
def Each (sz : Nat) (vs : List (List Value)) : Prop := ∀ v ∈ vs, v.length = sz ∧ ∀ u ∈ v, u.oneCell' = true
theorem Each.len {sz : Nat} {vs : List (List Value)} (h : Each sz vs) : ∀ v ∈ vs, v.length = sz := fun v hv => (h v hv).1
theorem Each.app {sz : Nat} {vs us : List (List Value)} (h : Each sz vs) (k : Each sz us) : Each sz (vs ++ us) := fun v hv => by
  rcases List.mem_append.1 hv with h1 | h1
  · exact h v h1
  · exact k v h1
theorem Each.nil (sz : Nat) : Each sz [] := fun v h => by cases h
theorem Each.one {sz : Nat} {v : List Value} (h : v.length = sz) (k : ∀ u ∈ v, u.oneCell' = true) : Each sz [v] := fun u hu => by
  rw [List.mem_singleton.1 hu]
  exact ⟨h, k⟩
theorem Each.cells {sz : Nat} {vs : List (List Value)} (h : Each sz vs) : ∀ u ∈ vs.flatten, u.oneCell' = true := fun u hu => by
  obtain ⟨v, hv, huv⟩ := List.mem_flatten.1 hu
  exact (h v hv).2 u huv
theorem Each.at_ {sz j : Nat} {vs : List (List Value)} {v : List Value} (h : Each sz vs) (hv : vs[j]? = some v) : v.length = sz ∧ ∀ u ∈ v, u.oneCell' = true := h v (List.mem_of_getElem? hv)
theorem Each.set {sz j i : Nat} {vs : List (List Value)} {v : List Value} {u : Value} (h : Each sz vs) (hv : vs[j]? = some v) (hu : u.oneCell' = true) : Each sz (vs.set j (v.set i u)) := fun x hx => by
  rcases List.mem_or_eq_of_mem_set hx with h1 | h1
  · exact h x h1
  · subst h1
    refine ⟨by rw [List.length_set]; exact (h.at_ hv).1, fun y hy => ?_⟩
    rcases List.mem_or_eq_of_mem_set hy with h2 | h2
    · exact (h.at_ hv).2 y h2
    · rw [h2]; exact hu

/-- The slice (A, n, c) lies in memory from block B on and may be written; its elements, of type et, are vs. -/
structure RowG (w : World) (et : TypeId) (sz B : Nat) (A : Option Addr) (n c : Nat) (vs : List (List Value)) : Prop where
  row : w.ownsRow B et sz (.slice A n c) n vs.flatten
  each : Each sz vs
  cnt : vs.length = n

section
variable {w w' : World} {et : TypeId} {sz B n c : Nat} {A : Option Addr} {vs : List (List Value)}
theorem RowG.nil (w : World) (et : TypeId) (sz B : Nat) : RowG w et sz B none 0 0 [] := ⟨World.ownsRow_nil w B _ sz, Each.nil sz, rfl⟩
theorem RowG.form (h : RowG w et sz B A n c vs) : (A = none ∧ n = 0 ∧ c = 0) ∨ ∃ g, A = some ⟨g, 0, none⟩ ∧ B ≤ g ∧ g < w.heap.size := by
  rcases h.row.2 with ⟨h1, h2⟩ | ⟨g, cap, cur, h1, hB, hg, _⟩
  · injection h1 with h1 _ h3
    exact .inl ⟨h1, h2, h3⟩
  · injection h1 with h1 _ h3
    exact .inr ⟨g, h1, hB, (Array.getElem?_eq_some_iff.1 hg).1⟩
theorem RowG.cap (h : RowG w et sz B A n c vs) : n ≤ c ∧ c ≤ 9223372036854775807 := by
  rcases h.row.2 with ⟨h1, h2⟩ | ⟨g, cap, cur, h1, hB, hg, h3, h4, _⟩
  · injection h1 with h1 _ h3
    omega
  · injection h1 with h1 _ h5
    unfold maxLen at h4
    omega
theorem RowG.blk_ge (h : RowG w et sz B A n c vs) : ∀ g, blk A = some g → B ≤ g ∧ g < w.heap.size := by
  intro g hg
  rcases h.form with ⟨rfl, _⟩ | ⟨g', rfl, h1, h2⟩
  · cases hg
  · injection hg with hg
    subst hg
    exact ⟨h1, h2⟩
theorem RowG.kept {row : Option Nat} (h : RowG w et sz B A n c vs) (hg : w.grownBy w' row) (hne : blk A = none ∨ blk A ≠ row) : RowG w' et sz B A n c vs :=
  ⟨h.row.kept hg (by rw [own_blk]; exact hne), h.each, h.cnt⟩
/-- It stays where its block stays. -/
theorem RowG.keep (h : RowG w et sz B A n c vs) (hk : ∀ g, blk A = some g → w'.heap[g]? = w.heap[g]?) : RowG w' et sz B A n c vs := by
  refine ⟨⟨h.row.1, ?_⟩, h.each, h.cnt⟩
  rcases h.row.2 with h1 | ⟨g, cap, cur, h1, hB, hg, h3⟩
  · exact .inl h1
  · refine .inr ⟨g, cap, cur, h1, hB, ?_, h3⟩
    injection h1 with h1
    rw [hk g (by rw [h1]; rfl)]; exact hg
theorem RowG.below (h : RowG w et sz B A n c vs) (hb : Below w.heap.size w w') : RowG w' et sz B A n c vs := h.keep fun g hg => hb.block g (h.blk_ge g hg).2
theorem RowG.alloc (h : RowG w et sz B A n c vs) (o : Obj) : RowG (w.alloc o) et sz B A n c vs := h.keep fun g hg => Below.heap_alloc w o g (h.blk_ge g hg).2
theorem RowG.drewN (h : RowG w et sz B A n c vs) (k : Nat) : RowG (w.drewN k) et sz B A n c vs := h.keep fun _ _ => rfl
theorem RowG.far (h : RowG w et sz B A n c vs) {p : Addr} (hp : blk A ≠ some p.block) (u : Value) : RowG (w.setCell p u) et sz B A n c vs :=
  h.keep fun g hg => Below.heap_setCell w p u g (fun e => hp (by rw [hg, ← e]))
theorem RowG.mono (h : RowG w et sz B A n c vs) {B' : Nat} (hB : B' ≤ B) : RowG w et sz B' A n c vs := by
  refine ⟨⟨h.row.1, ?_⟩, h.each, h.cnt⟩
  rcases h.row.2 with h1 | ⟨g, cap, cur, h1, hB2, hg, h3⟩
  · exact .inl h1
  · exact .inr ⟨g, cap, cur, h1, by omega, hg, h3⟩
/-- From a block on that is no younger than its own. -/
theorem RowG.from_ (h : RowG w et sz B A n c vs) {B' : Nat} (hB : ∀ g, blk A = some g → B' ≤ g) : RowG w et sz B' A n c vs := by
  refine ⟨⟨h.row.1, ?_⟩, h.each, h.cnt⟩
  rcases h.row.2 with h1 | ⟨g, cap, cur, h1, hB2, hg, h3⟩
  · exact .inl h1
  · refine .inr ⟨g, cap, cur, h1, ?_, hg, h3⟩
    injection h1 with h1
    exact hB g (by rw [h1]; rfl)
/-- An element's cells. -/
theorem RowG.cell (h : RowG w et sz B A n c vs) {j i : Nat} {v : List Value} {u : Value} (hv : vs[j]? = some v) (hi : i < sz) (hu : v[i]? = some u) : ∃ g, A = some ⟨g, 0, none⟩ ∧ w.cell? ⟨g, j * sz + i, none⟩ = some u ∧ w.frozen? ⟨g, j * sz + i, none⟩ = false := by
  have hj : j < n := by rw [← h.cnt]; exact (List.getElem?_eq_some_iff.1 hv).1
  rcases h.form with ⟨_, h0, _⟩ | ⟨g, rfl, _, _⟩
  · omega
  · refine ⟨g, rfl, ?_, ?_⟩
    · have := h.row.cells (g := g) rfl (j * sz + i) u (by rw [flat_get hi h.each.len, hv]; exact hu)
      rwa [addr_lit0] at this
    · rcases h.row.2 with ⟨h1, _⟩ | ⟨g', cap, cur, h1, _, hg, _⟩
      · cases h1
      · injection h1 with h1
        injection h1 with h1
        injection h1 with h1
        subst h1
        simp [World.frozen?, hg]
/-- A cell is written. -/
theorem RowG.set {g : Nat} (h : RowG w et sz B (some ⟨g, 0, none⟩) n c vs) {j i : Nat} {v : List Value} {u : Value} (hv : vs[j]? = some v) (hi : i < sz) (hu : u.oneCell' = true) :
    RowG (w.setCell ⟨g, j * sz + i, none⟩ u) et sz B (some ⟨g, 0, none⟩) n c (vs.set j (v.set i u)) := by
  have hj : j < n := by rw [← h.cnt]; exact (List.getElem?_eq_some_iff.1 hv).1
  refine ⟨⟨?_, ?_⟩, h.each.set hv hu, by rw [List.length_set]; exact h.cnt⟩
  · rw [← flat_set hi u h.each.len hv, List.length_set]
    exact h.row.1
  · rcases h.row.2 with ⟨h1, _⟩ | ⟨g', cap, cur, h1, hB, hg, h3, h4, h5, h6⟩
    · cases h1
    · injection h1 with h1 h7 h8
      injection h1 with h1
      injection h1 with h1
      subst h1
      subst h8
      refine .inr ⟨g, c, cur.setIfInBounds (j * sz + i) u, rfl, hB, ?_, h3, h4, by simpa using h5, ?_⟩
      · simp [World.setCell, Array.getElem?_modify, hg]
      · rw [Array.toList_setIfInBounds, List.take_set, h6, flat_set hi u h.each.len hv]
/-- A block that is known whole, as a row. -/
theorem RowG.ofBox {g : Nat} {cs : Array Value} (h : Box w g et cs) (hB : B ≤ g) (he : Each sz vs) (hcs : cs.toList = vs.flatten) (hn : vs.length = n) (hm : n ≤ maxLen) : RowG w et sz B (some ⟨g, 0, none⟩) n n vs :=
  ⟨⟨by rw [flat_len he.len, hn], .inr ⟨g, n, cs, rfl, hB, h, Nat.le_refl _, hm, by
    have := congrArg List.length hcs
    rw [flat_len he.len, hn] at this
    simpa using this, by rw [hcs, List.take_of_length_le (by rw [flat_len he.len, hn]; exact Nat.le_refl _)]⟩⟩, he, hn⟩
end

/-- The type facts of a row: the slice's type, its elements', their cells, their bytes. -/
structure RowT (st et : TypeId) (sz by_ : Nat) : Prop where
  und : Tryd.prog.underlying st = some (.slice et)
  info : ∃ z, z.cells.size = sz ∧ (Tryd.prog.info? et).map (fun i => (i.zero, i.size, i.bytes)) = some (some z, sz, by_)
  pos : 0 < sz

section
variable {w : World} {st et : TypeId} {sz by_ : Nat}
theorem run_appG (ht : RowT st et sz by_) (ty : TypeId) {B n c : Nat} {A : Option Addr} {vs : List (List Value)} (hown : RowG w et sz B A n c vs) {X : Addr} {m d : Nat} {us : List (List Value)}
    (hnew : ∀ j u, us.flatten[j]? = some u → w.cell? (X.add j) = some u) (he : Each sz us) (hm : us.length = m) (hsz : n + m ≤ 35184372088832) (hby : (n + m) * by_ ≤ 140737488355328) (hpos : 0 < m) (hB : B ≤ w.heap.size) :
    ∃ g' c' w', (Builtin.append_ #[st, st] ty #[.slice A n c, .slice (some X) m d]).run Tryd.prog w = .ok (.slice (some ⟨g', 0, none⟩) (n + m) c') w' ∧ RowG w' et sz B (some ⟨g', 0, none⟩) (n + m) c' (vs ++ us) ∧
      w.grownBy w' (blk A) ∧ (blk A = some g' ∨ g' = w.heap.size) := by
  obtain ⟨z, hzs, hinfo⟩ := ht.info
  obtain ⟨i0, hi, hz0, hz1, hz2⟩ := info_parts hinfo
  obtain ⟨v', w', hrun, h2, h3, h4, h5⟩ := run_append_own_at (P := Tryd.prog) w B st ty et i0 z sz by_ ht.und hi hz0 hz1 hz2 hzs ht.pos
    (.slice A n c) n vs.flatten hown.row X m d us.flatten (by rw [flat_len he.len, hm]) hnew he.cells (by unfold maxLen; omega) hby hB
  rw [← List.flatten_append] at h2
  rw [own_blk] at h3 h5
  rcases h2.2 with ⟨rfl, h0⟩ | ⟨g', cap, cur, rfl, _⟩
  · omega
  · refine ⟨g', cap, w', hrun, ⟨h2, hown.each.app he, by rw [List.length_append, hown.cnt, hm]⟩, h3, ?_⟩
    rcases h5 with e | e
    · exact .inl e.symm
    · injection e with e
      exact .inr e

theorem wp_appG (ht : RowT st et sz by_) {o : Oper} {a : Act} {K : Act → World → Prop} {Q : Exit → Act → World → Prop} (s x : Operand)
    (ho : o.op = .call { callee := .builtin .append, args := #[s, x], argTypes := #[st, st] })
    (B : Nat) {n c : Nat} {A : Option Addr} {vs : List (List Value)} (hs : a.eval s = .slice A n c) (hown : RowG w et sz B A n c vs) {X : Addr} {m d : Nat} {us : List (List Value)}
    (hx : a.eval x = .slice (some X) m d) (hnew : ∀ j u, us.flatten[j]? = some u → w.cell? (X.add j) = some u) (he : Each sz us) (hm : us.length = m) (hsz : n + m ≤ 35184372088832) (hby : (n + m) * by_ ≤ 140737488355328) (hpos : 0 < m) (hB : B ≤ w.heap.size)
    (h : ∀ g' c' w', RowG w' et sz B (some ⟨g', 0, none⟩) (n + m) c' (vs ++ us) → w.grownBy w' (blk A) → Below B w w' → (blk A = some g' ∨ g' = w.heap.size) →
      K (a.put o.dst (.slice (some ⟨g', 0, none⟩) (n + m) c')) w') : o.wp Tryd.prog a w K Q := by
  obtain ⟨g', c', w', hrun, h2, h3, h4⟩ := run_appG ht o.type hown (d := d) hnew he hm hsz hby hpos hB
  unfold Oper.wp execOp
  simp only [ho, resolve, invoke, builtin, Sem.run_bind, Sem.run_pure, Result.andThen_ok, List.map_toArray, List.map_cons, List.map_nil, hs, hx, hrun]
  exact h g' c' w' h2 h3 ((Below.refl _ _).grown h3 hB fun g hg => (hown.blk_ge g hg).1) h4

theorem wpList_appG (ht : RowT st et sz by_) {ops : Array Oper} {rest : List Oper} {o : Oper} {a : Act} {Q : Exit → Act → World → Prop} (hgd : o.guard = none) (s x : Operand)
    (ho : o.op = .call { callee := .builtin .append, args := #[s, x], argTypes := #[st, st] })
    (B : Nat) {n c : Nat} {A : Option Addr} {vs : List (List Value)} (hs : a.eval s = .slice A n c) (hown : RowG w et sz B A n c vs) {X : Addr} {m d : Nat} {us : List (List Value)}
    (hx : a.eval x = .slice (some X) m d) (hnew : ∀ j u, us.flatten[j]? = some u → w.cell? (X.add j) = some u) (he : Each sz us) (hm : us.length = m) (hsz : n + m ≤ 35184372088832) (hby : (n + m) * by_ ≤ 140737488355328) (hpos : 0 < m) (hB : B ≤ w.heap.size)
    (h : ∀ g' c' w', RowG w' et sz B (some ⟨g', 0, none⟩) (n + m) c' (vs ++ us) → w.grownBy w' (blk A) → Below B w w' → (blk A = some g' ∨ g' = w.heap.size) →
      wpList Tryd.prog ops Q rest (a.put o.dst (.slice (some ⟨g', 0, none⟩) (n + m) c')) w') : wpList Tryd.prog ops Q (o :: rest) a w :=
  wpList_plain hgd fun _ hK => wp_appG ht s x ho B hs hown hx hnew he hm hsz hby hpos hB fun g' c' w' h2 h3 h4 h5 => hK _ _ (h g' c' w' h2 h3 h4 h5)

theorem step_appG (ht : RowT st et sz by_) {ops : Array Oper} {o : Oper} {a : Act} {K : Act → World → Prop} {Q : Exit → Act → World → Prop} {E : Prop} (hgd : o.guard = none) (s x : Operand)
    (ho : o.op = .call { callee := .builtin .append, args := #[s, x], argTypes := #[st, st] })
    (B : Nat) {n c : Nat} {A : Option Addr} {vs : List (List Value)} (hs : a.eval s = .slice A n c) (hown : RowG w et sz B A n c vs) {X : Addr} {m d : Nat} {us : List (List Value)}
    (hx : a.eval x = .slice (some X) m d) (hnew : ∀ j u, us.flatten[j]? = some u → w.cell? (X.add j) = some u) (he : Each sz us) (hm : us.length = m) (hsz : n + m ≤ 35184372088832) (hby : (n + m) * by_ ≤ 140737488355328) (hpos : 0 < m) (hB : B ≤ w.heap.size)
    (h : ∀ g' c' w', RowG w' et sz B (some ⟨g', 0, none⟩) (n + m) c' (vs ++ us) → w.grownBy w' (blk A) → Below B w w' → (blk A = some g' ∨ g' = w.heap.size) →
      K (a.put o.dst (.slice (some ⟨g', 0, none⟩) (n + m) c')) w') :
    if Region.wanted o (yielded ops a.tmps) = true then Oper.wp Tryd.prog o a w K Q else E := by
  have hw : Region.wanted o (yielded ops a.tmps) = true := by simp [Region.wanted, hgd]
  rw [if_pos hw]
  exact wp_appG ht s x ho B hs hown hx hnew he hm hsz hby hpos hB h
/-- Cells of a block that is known whole, as what is appended. -/
theorem news_box {w : World} {g : Nat} {t : TypeId} {cs : Array Value} (h : Box w g t cs) : ∀ j u, ([cs.toList].flatten)[j]? = some u → w.cell? ((⟨g, 0, none⟩ : Addr).add j) = some u := fun j u hu => by
  rw [addr_lit0, h.cell]
  simpa using hu
end
end Go.Proofs.YtfeflmpdbejhjaaDoor
