/- Words for runes in memory of the call's own; append onto them. -/
import Derived.Test.YtfeflmpdbejhjaaDoorMem
namespace Go.Proofs.YtfeflmpdbejhjaaDoor
open Go.RowKit
set_option linter.unusedVariables false

theorem runeInfo : (Tryd.prog.info? 21).map (fun i => (i.zero, i.size, i.bytes)) = some (some (.int .i32 0), 1, 4) := by kernel_rfl

def cells32 (l : List Int) : List Value := l.map (Value.int .i32)
theorem cells32_app (l r : List Int) : cells32 (l ++ r) = cells32 l ++ cells32 r := by simp [cells32]
theorem cells32_one : ∀ {l : List Int}, ∀ u ∈ cells32 l, u.oneCell' = true := by
  intro l u hu
  obtain ⟨x, _, rfl⟩ := List.mem_map.1 hu
  rfl
theorem cells32_at {l : List Int} {j : Nat} {u : Value} (h : (cells32 l)[j]? = some u) : j < l.length ∧ u = .int .i32 (nth l j) := by
  simp only [cells32, List.getElem?_map, Option.map_eq_some_iff] at h
  obtain ⟨x, hx, rfl⟩ := h
  obtain ⟨hj, rfl⟩ := List.getElem?_eq_some_iff.1 hx
  exact ⟨hj, by rw [nth_eq hj]⟩
theorem cells32_get {l : List Int} {j : Nat} (h : j < l.length) : (cells32 l)[j]? = some (.int .i32 (nth l j)) := by
  simp [cells32, h, nth_eq]

/-- The block of a slice. -/
def blk (A : Option Addr) : Option Nat := A.map (·.block)
/-- Two slices that share no block. -/
def Apart (A B : Option Addr) : Prop := ∀ g, blk A = some g → blk B ≠ some g
theorem apart_of {A B : Option Addr} {k : Nat} (hA : ∀ g, blk A = some g → g < k) (hB : ∀ g, blk B = some g → k ≤ g) : Apart A B := fun g h1 h2 => by
  have := hA g h1
  have := hB g h2
  omega
theorem Apart.symm {A B : Option Addr} (h : Apart A B) : Apart B A := fun g h1 h2 => h g h2 h1

/-- The slice (A, n, c) lies in memory from block B on, may be written, holds l. -/
structure Own (w : World) (B : Nat) (A : Option Addr) (n c : Nat) (l : List Int) : Prop where
  row : w.ownsRow B 21 1 (.slice A n c) n (cells32 l)
  wf : W32 l

section
variable {w w' : World} {B n c : Nat} {A : Option Addr} {l : List Int}
theorem Own.nil (w : World) (B : Nat) : Own w B none 0 0 [] := ⟨World.ownsRow_nil w B _ 1, W32.nil⟩
theorem Own.len (h : Own w B A n c l) : l.length = n := by
  have := h.row.1
  simpa [cells32] using this
theorem Own.form (h : Own w B A n c l) : (A = none ∧ n = 0 ∧ c = 0) ∨ ∃ g, A = some ⟨g, 0, none⟩ ∧ B ≤ g ∧ g < w.heap.size := by
  rcases h.row.2 with ⟨h1, h2⟩ | ⟨g, cap, cur, h1, hB, hg, _⟩
  · injection h1 with h1 _ h3
    exact .inl ⟨h1, h2, h3⟩
  · injection h1 with h1 _ h3
    exact .inr ⟨g, h1, hB, (Array.getElem?_eq_some_iff.1 hg).1⟩
theorem Own.cap (h : Own w B A n c l) : n ≤ c ∧ c ≤ 9223372036854775807 := by
  rcases h.row.2 with ⟨h1, h2⟩ | ⟨g, cap, cur, h1, hB, hg, h3, h4, _⟩
  · injection h1 with h1 _ h3
    omega
  · injection h1 with h1 _ h5
    unfold maxLen at h4
    omega
theorem Own.runes (h : Own w B A n c l) : Runes w A n l := by
  refine ⟨h.len, fun j hj => ?_, h.wf⟩
  rcases h.form with ⟨_, rfl, _⟩ | ⟨g, rfl, _, _⟩
  · exact absurd hj (by omega)
  · exact ⟨_, _, rfl, by rw [← addr_lit]; exact h.row.cells (g := g) rfl j _ (cells32_get (by rw [h.len]; exact hj))⟩
theorem Own.keep (h : Own w B A n c l) (hk : ∀ g, A = some ⟨g, 0, none⟩ → w'.heap[g]? = w.heap[g]?) : Own w' B A n c l := by
  refine ⟨⟨h.row.1, ?_⟩, h.wf⟩
  rcases h.row.2 with h1 | ⟨g, cap, cur, h1, hB, hg, h3⟩
  · exact .inl h1
  · refine .inr ⟨g, cap, cur, h1, hB, ?_, h3⟩
    injection h1 with h1
    rw [hk g h1]; exact hg
theorem Own.below (h : Own w B A n c l) (hb : Below w.heap.size w w') : Own w' B A n c l :=
  h.keep fun g hg => by
    rcases h.form with ⟨h1, _⟩ | ⟨g', h1, _, hlt⟩
    · rw [h1] at hg; cases hg
    · rw [h1] at hg
      injection hg with hg
      injection hg with hg
      subst hg
      exact hb.block _ hlt
theorem Own.drewN (h : Own w B A n c l) (k : Nat) : Own (w.drewN k) B A n c l := h.keep fun _ _ => rfl
theorem Own.drew (h : Own w B A n c l) : Own w.drew B A n c l := h.keep fun _ _ => rfl
theorem Own.alloc (h : Own w B A n c l) (o : Obj) : Own (w.alloc o) B A n c l := ⟨h.row.alloc o, h.wf⟩
theorem Own.far (h : Own w B A n c l) {p : Addr} (hp : blk A ≠ some p.block) (u : Value) : Own (w.setCell p u) B A n c l :=
  h.keep fun g hg => Below.heap_setCell w p u g (fun e => hp (by rw [hg, ← e]; rfl))
theorem Own.far3 (h : Own w B A n c l) {g : Nat} (hp : blk A ≠ some g) (u v x : Value) : Own (((w.setCell ⟨g, 0, none⟩ u).setCell ⟨g, 1, none⟩ v).setCell ⟨g, 2, none⟩ x) B A n c l :=
  ((h.far (p := ⟨g, 0, none⟩) hp u).far (p := ⟨g, 1, none⟩) hp v).far (p := ⟨g, 2, none⟩) hp x
theorem Own.mono (h : Own w B A n c l) {B' : Nat} (hB : B' ≤ B) : Own w B' A n c l := by
  refine ⟨⟨h.row.1, ?_⟩, h.wf⟩
  rcases h.row.2 with h1 | ⟨g, cap, cur, h1, hB2, hg, h3⟩
  · exact .inl h1
  · exact .inr ⟨g, cap, cur, h1, by omega, hg, h3⟩
theorem own_blk (A : Option Addr) (n c : Nat) : Value.ownBlock (.slice A n c) = blk A := by cases A <;> rfl
theorem Own.blk_ge (h : Own w B A n c l) : ∀ g, blk A = some g → B ≤ g ∧ g < w.heap.size := by
  intro g hg
  rcases h.form with ⟨rfl, _⟩ | ⟨g', rfl, h1, h2⟩
  · cases hg
  · injection hg with hg
    subst hg
    exact ⟨h1, h2⟩
theorem Own.kept {row : Option Nat} (h : Own w B A n c l) (hg : w.grownBy w' row) (hne : blk A = none ∨ blk A ≠ row) : Own w' B A n c l :=
  ⟨h.row.kept hg (by rw [own_blk]; exact hne), h.wf⟩
end

theorem addr_lit0 (g j : Nat) : (⟨g, 0, none⟩ : Addr).add j = ⟨g, j, none⟩ := by rw [addr_lit, Nat.zero_add]
/-- A literal's elements, in a new block. -/
theorem Runes.news (w : World) (cs : Array Value) (t : TypeId) (l : List Int) (h : cs = (cells32 l).toArray) (hw : W32 l) : Runes (w.alloc (.cells cs t)) (some ⟨w.heap.size, 0, none⟩) l.length l :=
  ⟨rfl, fun j hj => ⟨_, _, rfl, by
    subst h
    rw [Nat.zero_add, cell_of_row _ _ j _ t (0, 0) (heap_alloc_new w _)]
    simpa using cells32_get hj⟩, hw⟩
/-- A literal without elements. -/
theorem Own.made0 (w : World) : Own (w.alloc (.cells #[] 21)) w.heap.size (some ⟨w.heap.size, 0, none⟩) 0 0 [] :=
  ⟨World.ownsRow_made w #[] 0 (Nat.le_refl _) (Nat.zero_le _) rfl, W32.nil⟩

section
variable {w : World} {B n c g : Nat} {l : List Int}
theorem Own.frozen (h : Own w B (some ⟨g, 0, none⟩) n c l) (j : Nat) : w.frozen? ⟨g, j, none⟩ = false := by
  rcases h.row.2 with ⟨h1, _⟩ | ⟨g', cap, cur, h1, _, hg, _⟩
  · cases h1
  · injection h1 with h1
    injection h1 with h1
    injection h1 with h1
    subst h1
    simp [World.frozen?, hg]
theorem Own.cell (h : Own w B (some ⟨g, 0, none⟩) n c l) {j : Nat} (hj : j < n) : w.cell? ⟨g, j, none⟩ = some (.int .i32 (nth l j)) := by
  rw [← addr_lit0]
  exact h.row.cells (g := g) rfl j _ (cells32_get (by rw [h.len]; exact hj))
theorem set_take {α : Type} (l : List α) (n j : Nat) (x : α) (h : j < n) : (l.set j x).take n = (l.take n).set j x := by
  rw [List.take_set]
theorem Own.set (h : Own w B (some ⟨g, 0, none⟩) n c l) {j : Nat} (hj : j < n) {x : Int} (hx : -2147483648 ≤ x ∧ x ≤ 2147483647) : Own (w.setCell ⟨g, j, none⟩ (.int .i32 x)) B (some ⟨g, 0, none⟩) n c (l.set j x) := by
  refine ⟨⟨by rw [← h.row.1]; simp [cells32], ?_⟩, fun y hy => ?_⟩
  · rcases h.row.2 with ⟨h1, _⟩ | ⟨g', cap, cur, h1, hB, hg, h3, h4, h5, h6⟩
    · cases h1
    · injection h1 with h1 h7 h8
      injection h1 with h1
      injection h1 with h1
      subst h1
      subst h8
      refine .inr ⟨g, c, cur.setIfInBounds j (.int .i32 x), rfl, hB, ?_, h3, h4, by simpa using h5, ?_⟩
      · simp [World.setCell, Array.getElem?_modify, hg]
      · rw [Array.toList_setIfInBounds, List.take_set, h6]
        simp [cells32, List.map_set]
  · rcases List.mem_or_eq_of_mem_set hy with h1 | h1
    · exact h.wf y h1
    · rw [h1]; exact hx
end
theorem nth_set_self {l : List Int} {j : Nat} {x : Int} (h : j < l.length) : nth (l.set j x) j = x := by
  simp [nth, h]
theorem nth_set_other {l : List Int} {j k : Nat} {x : Int} (h : j ≠ k) : nth (l.set j x) k = nth l k := by
  simp [nth, h]
/-- Only the block 'row' has turned, and what is new. -/
theorem grown_drewN {a w : World} {row : Option Nat} (h : a.grownBy w row) (n : Nat) : a.grownBy (w.drewN n) row := ⟨h.os, h.tape, h.output, h.size, h.block⟩
theorem grown_set {a w : World} {g : Nat} (h : a.grownBy w (some g)) (j : Nat) (u : Value) : a.grownBy (w.setCell ⟨g, j, none⟩ u) (some g) :=
  ⟨h.os, h.tape, h.output, by simpa [World.setCell] using h.size, fun i hi hne => (Below.heap_setCell w _ u i (fun e => hne (by rw [e]))).trans (h.block i hi hne)⟩

theorem below3 {B g : Nat} {w w' : World} (h : Below B w w') (hB : B ≤ g) (u v x : Value) : Below B w (((w'.setCell ⟨g, 0, none⟩ u).setCell ⟨g, 1, none⟩ v).setCell ⟨g, 2, none⟩ x) :=
  ((h.setCell (p := ⟨g, 0, none⟩) hB u).setCell (p := ⟨g, 1, none⟩) hB v).setCell (p := ⟨g, 2, none⟩) hB x

section
variable {w : World}
set_option maxRecDepth 20000 in
/-- append onto runes of the call's own, from any slice of runes. -/
theorem run_app (ty : TypeId) {B n c : Nat} {A : Option Addr} {l : List Int} (hown : Own w B A n c l) {X : Option Addr} {m d : Nat} {r : List Int} (hr : Runes w X m r)
    (hsz : n + m ≤ 35184372088832) (hB : B ≤ w.heap.size) :
    ∃ A' c' w', (Builtin.append_ #[22, 22] ty #[.slice A n c, .slice X m d]).run Tryd.prog w = .ok (.slice A' (n + m) c') w' ∧ Own w' B A' (n + m) c' (l ++ r) ∧
      w.grownBy w' (blk A) ∧ (blk A' = blk A ∨ blk A' = some w.heap.size) ∧ (0 < n + m → ∃ g, A' = some ⟨g, 0, none⟩) := by
  obtain ⟨i0, hi, hz0, hz1, hz2⟩ := info_parts runeInfo
  have fin : ∀ v' w', w'.ownsRow B 21 1 v' (n + m) (cells32 (l ++ r)) → (v'.ownBlock = blk A ∨ v'.ownBlock = some w.heap.size) →
      ∃ A' c', v' = .slice A' (n + m) c' ∧ Own w' B A' (n + m) c' (l ++ r) ∧ (blk A' = blk A ∨ blk A' = some w.heap.size) ∧ (0 < n + m → ∃ g, A' = some ⟨g, 0, none⟩) := by
    intro v' w' ho hl
    rcases ho.2 with ⟨rfl, h0⟩ | ⟨g, cap, cur, rfl, _⟩
    · exact ⟨none, 0, by rw [h0], ⟨by rw [h0] at ho ⊢; exact ho, hown.wf.app hr.wf⟩, by rw [← own_blk none 0 0]; exact hl, fun h => absurd h (by omega)⟩
    · exact ⟨some ⟨g, 0, none⟩, cap, rfl, ⟨ho, hown.wf.app hr.wf⟩, by rw [← own_blk (some ⟨g, 0, none⟩) (n + m) cap]; exact hl, fun _ => ⟨g, rfl⟩⟩
  cases X with
  | some ad =>
    obtain ⟨v', w', hrun, h2, h3, _, h5⟩ := run_append_own_at (P := Tryd.prog) w B 22 ty 21 i0 (.int .i32 0) 1 4 Tryd.underlying22 hi hz0 hz1 hz2 rfl (by omega)
      (.slice A n c) n (cells32 l) hown.row ad m d (cells32 r) (by simp [cells32, hr.len]) (fun j u hu => by
        obtain ⟨hj, rfl⟩ := cells32_at hu
        obtain ⟨b, o, h1, hc⟩ := hr.at_ j (by rw [← hr.len]; exact hj)
        injection h1 with h1
        subst h1
        rw [addr_lit]
        exact hc) cells32_one (by unfold maxLen; omega) (by omega) hB
    rw [← cells32_app] at h2
    rw [own_blk] at h3 h5
    obtain ⟨A', c', rfl, h6, h7, h8⟩ := fin v' w' h2 h5
    exact ⟨A', c', w', hrun, h6, h3, h7, h8⟩
  | none =>
    obtain ⟨rfl, rfl⟩ := hr.none_
    have hrun : (Builtin.append_ #[22, 22] ty #[.slice A n c, .slice none 0 d]).run Tryd.prog w = .ok (.slice A n c) w := by
      rcases hown.row.2 with ⟨h1, _⟩ | ⟨g, cap, cur, h1, _, _, hnc, _⟩
      · rw [h1]
        simp [Builtin.append_, run_underlying Tryd.underlying22, sizeOf, typeInfo, hi, Builtin.lenOf, Builtin.firstCells]
      · rw [h1]
        simp [Builtin.append_, run_underlying Tryd.underlying22, sizeOf, typeInfo, hi, Builtin.lenOf, Builtin.firstCells, hnc, storeCells]
    refine ⟨A, c, w, hrun, by simpa using hown, World.grownBy.refl w _, .inl rfl, fun h => ?_⟩
    rcases hown.form with ⟨_, h0, _⟩ | ⟨g, hg, _⟩
    · omega
    · exact ⟨g, hg⟩

theorem wp_app {o : Oper} {a : Act} {K : Act → World → Prop} {Q : Exit → Act → World → Prop} (s x : Operand)
    (ho : o.op = .call { callee := .builtin .append, args := #[s, x], argTypes := #[22, 22] })
    (B : Nat) {n c : Nat} {A : Option Addr} {l : List Int} (hs : a.eval s = .slice A n c) (hown : Own w B A n c l) {X : Option Addr} {m d : Nat} {r : List Int}
    (hx : a.eval x = .slice X m d) (hr : Runes w X m r) (hsz : n + m ≤ 35184372088832) (hB : B ≤ w.heap.size)
    (h : ∀ A' c' w', Own w' B A' (n + m) c' (l ++ r) → w.grownBy w' (blk A) → Below B w w' → (blk A' = blk A ∨ blk A' = some w.heap.size) → (0 < n + m → ∃ g, A' = some ⟨g, 0, none⟩) →
      K (a.put o.dst (.slice A' (n + m) c')) w') : o.wp Tryd.prog a w K Q := by
  obtain ⟨A', c', w', hrun, h2, h3, h4, h5⟩ := run_app o.type hown (d := d) hr hsz hB
  unfold Oper.wp execOp
  simp only [ho, resolve, invoke, builtin, Sem.run_bind, Sem.run_pure, Result.andThen_ok, List.map_toArray, List.map_cons, List.map_nil, hs, hx, hrun]
  exact h A' c' w' h2 h3 ((Below.refl _ _).grown h3 hB fun g hg => (hown.blk_ge g hg).1) h4 h5

theorem wpList_app {ops : Array Oper} {rest : List Oper} {o : Oper} {a : Act} {Q : Exit → Act → World → Prop} (hgd : o.guard = none) (s x : Operand)
    (ho : o.op = .call { callee := .builtin .append, args := #[s, x], argTypes := #[22, 22] })
    (B : Nat) {n c : Nat} {A : Option Addr} {l : List Int} (hs : a.eval s = .slice A n c) (hown : Own w B A n c l) {X : Option Addr} {m d : Nat} {r : List Int}
    (hx : a.eval x = .slice X m d) (hr : Runes w X m r) (hsz : n + m ≤ 35184372088832) (hB : B ≤ w.heap.size)
    (h : ∀ A' c' w', Own w' B A' (n + m) c' (l ++ r) → w.grownBy w' (blk A) → Below B w w' → (blk A' = blk A ∨ blk A' = some w.heap.size) → (0 < n + m → ∃ g, A' = some ⟨g, 0, none⟩) →
      wpList Tryd.prog ops Q rest (a.put o.dst (.slice A' (n + m) c')) w') : wpList Tryd.prog ops Q (o :: rest) a w :=
  wpList_plain hgd fun _ hK => wp_app s x ho B hs hown hx hr hsz hB fun A' c' w' h2 h3 h4 h5 h6 => hK _ _ (h A' c' w' h2 h3 h4 h5 h6)

theorem step_app {ops : Array Oper} {o : Oper} {a : Act} {K : Act → World → Prop} {Q : Exit → Act → World → Prop} {E : Prop} (hgd : o.guard = none) (s x : Operand)
    (ho : o.op = .call { callee := .builtin .append, args := #[s, x], argTypes := #[22, 22] })
    (B : Nat) {n c : Nat} {A : Option Addr} {l : List Int} (hs : a.eval s = .slice A n c) (hown : Own w B A n c l) {X : Option Addr} {m d : Nat} {r : List Int}
    (hx : a.eval x = .slice X m d) (hr : Runes w X m r) (hsz : n + m ≤ 35184372088832) (hB : B ≤ w.heap.size)
    (h : ∀ A' c' w', Own w' B A' (n + m) c' (l ++ r) → w.grownBy w' (blk A) → Below B w w' → (blk A' = blk A ∨ blk A' = some w.heap.size) → (0 < n + m → ∃ g, A' = some ⟨g, 0, none⟩) →
      K (a.put o.dst (.slice A' (n + m) c')) w') :
    if Region.wanted o (yielded ops a.tmps) = true then Oper.wp Tryd.prog o a w K Q else E := by
  have hw : Region.wanted o (yielded ops a.tmps) = true := by simp [Region.wanted, hgd]
  rw [if_pos hw]
  exact wp_app s x ho B hs hown hx hr hsz hB h

/-- append onto nil. -/
theorem wp_app0 {o : Oper} {a : Act} {K : Act → World → Prop} {Q : Exit → Act → World → Prop} (s x : Operand)
    (ho : o.op = .call { callee := .builtin .append, args := #[s, x], argTypes := #[22, 22] })
    (B : Nat) (hs : a.eval s = .slice none 0 0) {X : Option Addr} {m d : Nat} {r : List Int}
    (hx : a.eval x = .slice X m d) (hr : Runes w X m r) (hsz : m ≤ 35184372088832) (hB : B ≤ w.heap.size)
    (h : ∀ A' c' w', Own w' B A' m c' r → Below w.heap.size w w' → (∀ g, blk A' = some g → w.heap.size ≤ g) → (0 < m → ∃ g, A' = some ⟨g, 0, none⟩) → K (a.put o.dst (.slice A' m c')) w') : o.wp Tryd.prog a w K Q :=
  wp_app s x ho w.heap.size hs (Own.nil w _) hx hr (by omega) (Nat.le_refl _) fun A' c' w' h2 _ h4 h5 h6 => by
    simp only [Nat.zero_add, List.nil_append] at h2 h6 ⊢
    exact h A' c' w' (h2.mono hB) h4 (fun g hg => (h2.blk_ge g hg).1) h6

theorem wpList_app0 {ops : Array Oper} {rest : List Oper} {o : Oper} {a : Act} {Q : Exit → Act → World → Prop} (hgd : o.guard = none) (s x : Operand)
    (ho : o.op = .call { callee := .builtin .append, args := #[s, x], argTypes := #[22, 22] })
    (B : Nat) (hs : a.eval s = .slice none 0 0) {X : Option Addr} {m d : Nat} {r : List Int}
    (hx : a.eval x = .slice X m d) (hr : Runes w X m r) (hsz : m ≤ 35184372088832) (hB : B ≤ w.heap.size)
    (h : ∀ A' c' w', Own w' B A' m c' r → Below w.heap.size w w' → (∀ g, blk A' = some g → w.heap.size ≤ g) → (0 < m → ∃ g, A' = some ⟨g, 0, none⟩) →
      wpList Tryd.prog ops Q rest (a.put o.dst (.slice A' m c')) w') : wpList Tryd.prog ops Q (o :: rest) a w :=
  wpList_plain hgd fun _ hK => wp_app0 s x ho B hs hx hr hsz hB fun A' c' w' h2 h3 h4 h5 => hK _ _ (h A' c' w' h2 h3 h4 h5)

theorem step_app0 {ops : Array Oper} {o : Oper} {a : Act} {K : Act → World → Prop} {Q : Exit → Act → World → Prop} {E : Prop} (hgd : o.guard = none) (s x : Operand)
    (ho : o.op = .call { callee := .builtin .append, args := #[s, x], argTypes := #[22, 22] })
    (B : Nat) (hs : a.eval s = .slice none 0 0) {X : Option Addr} {m d : Nat} {r : List Int}
    (hx : a.eval x = .slice X m d) (hr : Runes w X m r) (hsz : m ≤ 35184372088832) (hB : B ≤ w.heap.size)
    (h : ∀ A' c' w', Own w' B A' m c' r → Below w.heap.size w w' → (∀ g, blk A' = some g → w.heap.size ≤ g) → (0 < m → ∃ g, A' = some ⟨g, 0, none⟩) → K (a.put o.dst (.slice A' m c')) w') :
    if Region.wanted o (yielded ops a.tmps) = true then Oper.wp Tryd.prog o a w K Q else E := by
  have hw : Region.wanted o (yielded ops a.tmps) = true := by simp [Region.wanted, hgd]
  rw [if_pos hw]
  exact wp_app0 s x ho B hs hx hr hsz hB h
end
end Go.Proofs.YtfeflmpdbejhjaaDoor
