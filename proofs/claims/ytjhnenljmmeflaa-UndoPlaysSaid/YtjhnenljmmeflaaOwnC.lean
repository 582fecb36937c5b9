/- Words for changes in memory of the call's own; append onto them. -/
import Derived.Test.YtjhnenljmmeflaaChgs
import Derived.RangeFuncBox
namespace Go.Proofs.Ytjhnenljmmeflaa
open Go.RowKit
set_option linter.unusedVariables false

theorem chgInfo : (Try.prog.info? 31).map (fun i => (i.zero, i.size, i.bytes)) = some (some (.agg #[.int .i64 0, .slice none 0 0, .slice none 0 0]), 3, 56) := by kernel_rfl

def cellsC (vs : List CV) : List Value := vs.flatMap CV.cells
theorem cellsC_len (vs : List CV) : (cellsC vs).length = vs.length * 3 := by
  induction vs with
  | nil => rfl
  | cons v vs ih => simp only [cellsC, List.flatMap_cons, List.length_append] at ih ⊢; rw [ih]; simp [CV.cells]; omega
theorem cellsC_app (us vs : List CV) : cellsC (us ++ vs) = cellsC us ++ cellsC vs := by simp [cellsC]
theorem cellsC_get : ∀ (vs : List CV) (j i : Nat), i < 3 → (cellsC vs)[j * 3 + i]? = (vs[j]?).bind fun v => v.cells[i]?
  | [], j, i, _ => by simp [cellsC]
  | v :: vs, 0, i, hi => by
    simp only [cellsC, List.flatMap_cons, Nat.zero_mul, Nat.zero_add, List.getElem?_cons_zero, Option.bind_some]
    rw [List.getElem?_append_left (by simpa [CV.cells] using hi)]
  | v :: vs, j + 1, i, hi => by
    have ih := cellsC_get vs j i hi
    simp only [cellsC, List.flatMap_cons, List.getElem?_cons_succ] at ih ⊢
    rw [List.getElem?_append_right (by simp [CV.cells]; omega), ← ih]
    congr 1
    simp [CV.cells]
    omega
theorem cellsC_one : ∀ {vs : List CV}, ∀ u ∈ cellsC vs, u.oneCell' = true := by
  intro vs u hu
  obtain ⟨v, _, hv⟩ := List.mem_flatMap.1 hu
  simp only [CV.cells, List.mem_cons, List.not_mem_nil, or_false] at hv
  rcases hv with rfl | rfl | rfl <;> rfl

/-- Element j. -/
def vget (vs : List CV) (j : Nat) : CV := vs.getD j ⟨0, none, 0, 0, none, 0, 0⟩
theorem vget_of {vs : List CV} {j : Nat} {v : CV} (h : vs[j]? = some v) : vget vs j = v := by simp [vget, h]

structure RowC (w : World) (B : Nat) (A : Option Addr) (n c : Nat) (vs : List CV) : Prop where
  row : w.ownsRow B 31 3 (.slice A n c) n (cellsC vs)
theorem RowC.nil (w : World) (B : Nat) : RowC w B none 0 0 [] := ⟨World.ownsRow_nil w B _ 3⟩
/-- A change whose texts lie in memory of the call's own. -/
structure EltO (w : World) (B : Nat) (v : CV) (x : Chg) : Prop where
  at_ : v.at_ = x.at_
  cut : Own w B v.C v.n v.c x.cut
  put : Own w B v.P v.m v.d x.put
  ap : Apart v.C v.P
  ok : ChgOk x
structure Elts (w : World) (B : Nat) (vs : List CV) (l : List Chg) : Prop where
  len : l.length = vs.length
  at_ : ∀ (j : Nat) (v : CV), vs[j]? = some v → ∃ x : Chg, l[j]? = some x ∧ EltO w B v x
theorem Elts.nil (w : World) (B : Nat) : Elts w B [] [] := ⟨rfl, fun j v h => by simp at h⟩

section
variable {w w' : World} {B n c : Nat} {A : Option Addr} {vs us : List CV} {l r : List Chg} {v : CV} {x : Chg}
theorem RowC.len (h : RowC w B A n c vs) : vs.length = n := by
  have := h.row.1
  rw [cellsC_len] at this
  omega
theorem RowC.form (h : RowC w B A n c vs) : (A = none ∧ n = 0 ∧ c = 0) ∨ ∃ g, A = some ⟨g, 0, none⟩ ∧ B ≤ g ∧ g < w.heap.size := by
  rcases h.row.2 with ⟨h1, h2⟩ | ⟨g, cap, cur, h1, hB, hg, _⟩
  · injection h1 with h1 _ h3
    exact .inl ⟨h1, h2, h3⟩
  · injection h1 with h1 _ h3
    exact .inr ⟨g, h1, hB, (Array.getElem?_eq_some_iff.1 hg).1⟩
theorem RowC.cap (h : RowC w B A n c vs) : n ≤ c ∧ c ≤ 9223372036854775807 := by
  rcases h.row.2 with ⟨h1, h2⟩ | ⟨g, cap, cur, h1, hB, hg, h3, h4, _⟩
  · injection h1 with h1 _ h3
    omega
  · injection h1 with h1 _ h5
    unfold maxLen at h4
    omega
theorem RowC.blk_ge (h : RowC w B A n c vs) : ∀ g, blk A = some g → B ≤ g ∧ g < w.heap.size := by
  intro g hg
  rcases h.form with ⟨rfl, _⟩ | ⟨g', rfl, h1, h2⟩
  · cases hg
  · injection hg with hg
    subst hg
    exact ⟨h1, h2⟩
theorem RowC.kept {row : Option Nat} (h : RowC w B A n c vs) (hg : w.grownBy w' row) (hne : blk A = none ∨ blk A ≠ row) : RowC w' B A n c vs :=
  ⟨h.row.kept hg (by rw [own_blk]; exact hne)⟩
theorem RowC.below (h : RowC w B A n c vs) (hb : Below w.heap.size w w') : RowC w' B A n c vs :=
  h.kept (row := none) ⟨hb.os, hb.tape, hb.output, hb.size, fun k hk _ => hb.block k hk⟩ (by rcases blk A with _ | g <;> simp)
theorem RowC.alloc (h : RowC w B A n c vs) (o : Obj) : RowC (w.alloc o) B A n c vs := ⟨h.row.alloc o⟩
theorem RowC.mono (h : RowC w B A n c vs) {B' : Nat} (hB : B' ≤ B) : RowC w B' A n c vs := by
  refine ⟨⟨h.row.1, ?_⟩⟩
  rcases h.row.2 with h1 | ⟨g, cap, cur, h1, hB2, hg, h3⟩
  · exact .inl h1
  · exact .inr ⟨g, cap, cur, h1, by omega, hg, h3⟩
/-- Rows of runes and rows of changes never share a block. -/
theorem own_ne_row {B' : Nat} {C : Option Addr} {n' c' : Nat} {t : List Int} (h : Own w B' C n' c' t) (k : RowC w B A n c vs) : blk C = none ∨ blk C ≠ blk A := by
  rcases h.row.2 with ⟨h1, _⟩ | ⟨g, cap, cur, h1, _, hg, _⟩
  · injection h1 with h1
    subst h1
    exact .inl rfl
  · rcases k.row.2 with ⟨k1, _⟩ | ⟨g', cap', cur', k1, _, hg', _⟩
    · injection k1 with k1
      injection h1 with h1
      subst k1 h1
      exact .inr (by simp [blk])
    · injection k1 with k1
      injection h1 with h1
      subst k1 h1
      refine .inr fun e => ?_
      injection e with e
      obtain rfl : g = g' := e
      rw [hg] at hg'
      injection hg' with hg'
      injection hg' with _ ht
      exact absurd ht (by decide)
theorem EltO.below (h : EltO w B v x) (hb : Below w.heap.size w w') : EltO w' B v x := ⟨h.at_, h.cut.below hb, h.put.below hb, h.ap, h.ok⟩
theorem EltO.mono (h : EltO w B v x) {B' : Nat} (hB : B' ≤ B) : EltO w B' v x := ⟨h.at_, h.cut.mono hB, h.put.mono hB, h.ap, h.ok⟩
theorem EltO.crd (h : EltO w B v x) : CRd w v x := ⟨h.at_, h.cut.runes, h.put.runes, h.ok⟩
theorem EltO.row (h : EltO w B v x) (k : RowC w B A n c vs) (hg : w.grownBy w' (blk A)) : EltO w' B v x :=
  ⟨h.at_, h.cut.kept hg (own_ne_row h.cut k), h.put.kept hg (own_ne_row h.put k), h.ap, h.ok⟩
theorem Elts.below (h : Elts w B vs l) (hb : Below w.heap.size w w') : Elts w' B vs l :=
  ⟨h.len, fun j v hj => by obtain ⟨x, h1, h2⟩ := h.at_ j v hj; exact ⟨x, h1, h2.below hb⟩⟩
theorem EltO.alloc (h : EltO w B v x) (o : Obj) : EltO (w.alloc o) B v x := h.below ((Below.refl _ _).alloc (Nat.le_refl _) o)
theorem Elts.alloc (h : Elts w B vs l) (o : Obj) : Elts (w.alloc o) B vs l := h.below ((Below.refl _ _).alloc (Nat.le_refl _) o)
theorem Elts.mono (h : Elts w B vs l) {B' : Nat} (hB : B' ≤ B) : Elts w B' vs l :=
  ⟨h.len, fun j v hj => by obtain ⟨x, h1, h2⟩ := h.at_ j v hj; exact ⟨x, h1, h2.mono hB⟩⟩
theorem Elts.row {ws : List CV} (h : Elts w B ws l) (k : RowC w B A n c vs) (hg : w.grownBy w' (blk A)) : Elts w' B ws l :=
  ⟨h.len, fun j v hj => by obtain ⟨x, h1, h2⟩ := h.at_ j v hj; exact ⟨x, h1, h2.row k hg⟩⟩
theorem Elts.app (h : Elts w B vs l) (k : Elts w B us r) : Elts w B (vs ++ us) (l ++ r) :=
  ⟨by rw [List.length_append, List.length_append, h.len, k.len], fun j v hj => by
    by_cases hlt : j < vs.length
    · rw [List.getElem?_append_left hlt] at hj
      obtain ⟨x, h1, h2⟩ := h.at_ j v hj
      exact ⟨x, by rw [List.getElem?_append_left (by rw [h.len]; exact hlt)]; exact h1, h2⟩
    · rw [List.getElem?_append_right (by omega)] at hj
      obtain ⟨x, h1, h2⟩ := k.at_ _ v hj
      exact ⟨x, by rw [List.getElem?_append_right (by rw [h.len]; omega), h.len]; exact h1, h2⟩⟩
theorem Elts.one (h : EltO w B v x) : Elts w B [v] [x] := ⟨rfl, fun j v' hj => by
  match j, hj with
  | 0, hj => exact ⟨x, rfl, by obtain rfl : v = v' := by simpa using hj
                               exact h⟩
  | j + 1, hj => simp at hj⟩
/-- What is no cells may turn. -/
def NoCells (w : World) (row : Option Nat) : Prop := ∀ r, row = some r → ∃ o : Obj, w.heap[r]? = some o ∧ o.isCells = false
theorem RowC.keptN {row : Option Nat} (h : RowC w B A n c vs) (hg : w.grownBy w' row) (hr : NoCells w row) : RowC w' B A n c vs := by
  refine h.kept hg ?_
  rcases h.row.2 with ⟨h1, _⟩ | ⟨g, cap, cur, h1, _, hgg, _⟩
  · injection h1 with h1
    subst h1
    exact .inl rfl
  · injection h1 with h1
    subst h1
    refine .inr fun e => ?_
    obtain ⟨o, ho, hc⟩ := hr g e.symm
    rw [hgg] at ho
    injection ho with ho
    subst ho
    cases hc
theorem Own.keptN {row : Option Nat} {C : Option Addr} {t : List Int} (h : Own w B C n c t) (hg : w.grownBy w' row) (hr : NoCells w row) : Own w' B C n c t := by
  refine h.kept hg ?_
  rcases h.row.2 with ⟨h1, _⟩ | ⟨g, cap, cur, h1, _, hgg, _⟩
  · injection h1 with h1
    subst h1
    exact .inl rfl
  · injection h1 with h1
    subst h1
    refine .inr fun e => ?_
    obtain ⟨o, ho, hc⟩ := hr g e.symm
    rw [hgg] at ho
    injection ho with ho
    subst ho
    cases hc
theorem Elts.keptN {row : Option Nat} (h : Elts w B vs l) (hg : w.grownBy w' row) (hr : NoCells w row) : Elts w' B vs l :=
  ⟨h.len, fun j v hj => by obtain ⟨x, h1, h2⟩ := h.at_ j v hj; exact ⟨x, h1, h2.at_, h2.cut.keptN hg hr, h2.put.keptN hg hr, h2.ap, h2.ok⟩⟩
/-- Cells of a row. -/
theorem RowC.cells_at (h : RowC w B A n c vs) {j : Nat} (hj : j < n) : ∃ g, A = some ⟨g, 0, none⟩ ∧ w.cell? ⟨g, 0 + j * 3, none⟩ = some (.int .i64 (vget vs j).at_) ∧
    w.cell? ⟨g, 0 + j * 3 + 1, none⟩ = some (.slice (vget vs j).C (vget vs j).n (vget vs j).c) ∧ w.cell? ⟨g, 0 + j * 3 + 2, none⟩ = some (.slice (vget vs j).P (vget vs j).m (vget vs j).d) := by
  rcases h.form with ⟨_, h0, _⟩ | ⟨g, rfl, _, _⟩
  · omega
  · have hl := h.len
    have hv : vs[j]? = some vs[j] := List.getElem?_eq_getElem (by omega)
    have hg := vget_of hv
    have key : ∀ i u, i < 3 → (vs[j]).cells[i]? = some u → w.cell? ⟨g, 0 + j * 3 + i, none⟩ = some u := fun i u hi hu => by
      have := h.row.cells (g := g) rfl (j * 3 + i) u (by rw [cellsC_get vs j i hi, hv]; exact hu)
      rwa [addr_lit, ← Nat.add_assoc] at this
    rw [hg]
    exact ⟨g, rfl, key 0 _ (by omega) rfl, key 1 _ (by omega) rfl, key 2 _ (by omega) rfl⟩
theorem Elts.chgs {B' : Nat} (h : Elts w B vs l) (k : RowC w B' A n c vs) : Chgs w A n (vget vs) l :=
  ⟨by rw [h.len, k.len], fun j hj => by
    obtain ⟨g, h1, h2, h3, h4⟩ := k.cells_at hj
    exact ⟨g, 0, h1, h2, h3, h4⟩, fun j hj => by
    have hl := k.len
    have hv : vs[j]? = some (vs[j]'(by omega)) := List.getElem?_eq_getElem (by omega)
    obtain ⟨x, h1, h2⟩ := h.at_ j _ hv
    exact ⟨x, h1, by rw [vget_of hv]; exact h2.crd⟩⟩
end

section
variable {w : World}
/-- append of one change, out of a literal's block, onto changes of the call's own. -/
theorem run_appC (ty : TypeId) {B n c : Nat} {A : Option Addr} {vs : List CV} (hown : RowC w B A n c vs) {g : Nat} {v : CV} (hnew : Box w g 31 #[.int .i64 v.at_, .slice v.C v.n v.c, .slice v.P v.m v.d])
    (hsz : n + 1 ≤ 2513167470000) (hB : B ≤ w.heap.size) :
    ∃ A' c' w', (Builtin.append_ #[29, 29] ty #[.slice A n c, .slice (some ⟨g, 0, none⟩) 1 1]).run Try.prog w = .ok (.slice A' (n + 1) c') w' ∧ RowC w' B A' (n + 1) c' (vs ++ [v]) ∧
      w.grownBy w' (blk A) ∧ (blk A' = blk A ∨ blk A' = some w.heap.size) ∧ ∃ g, A' = some ⟨g, 0, none⟩ := by
  obtain ⟨i0, hi, hz0, hz1, hz2⟩ := info_parts chgInfo
  obtain ⟨v', w', hrun, h2, h3, h4, h5⟩ := run_append_own_at (P := Try.prog) w B 29 ty 31 i0 _ 3 56 Try.underlying29 hi hz0 hz1 hz2 rfl (by omega)
    (.slice A n c) n (cellsC vs) hown.row ⟨g, 0, none⟩ 1 1 (cellsC [v]) (by simp [cellsC, CV.cells]) (fun j u hu => by
      rw [addr_lit, Nat.zero_add, hnew.cell]
      simpa [cellsC, CV.cells] using hu) cellsC_one (by unfold maxLen; omega) (by omega) hB
  rw [← cellsC_app] at h2
  rw [own_blk] at h3 h5
  rcases h2.2 with ⟨rfl, h0⟩ | ⟨g', cap, cur, rfl, _⟩
  · omega
  · exact ⟨some ⟨g', 0, none⟩, cap, w', hrun, ⟨h2⟩, h3, by rw [← own_blk (some ⟨g', 0, none⟩) (n + 1) cap]; exact h5, ⟨g', rfl⟩⟩

theorem wp_appC {o : Oper} {a : Act} {K : Act → World → Prop} {Q : Exit → Act → World → Prop} (s x : Operand)
    (ho : o.op = .call { callee := .builtin .append, args := #[s, x], argTypes := #[29, 29] })
    (B : Nat) {n c : Nat} {A : Option Addr} {vs : List CV} (hs : a.eval s = .slice A n c) (hown : RowC w B A n c vs) {g : Nat} {v : CV}
    (hx : a.eval x = .slice (some ⟨g, 0, none⟩) 1 1) (hnew : Box w g 31 #[.int .i64 v.at_, .slice v.C v.n v.c, .slice v.P v.m v.d]) (hsz : n + 1 ≤ 2513167470000) (hB : B ≤ w.heap.size)
    (h : ∀ g' c' w', RowC w' B (some ⟨g', 0, none⟩) (n + 1) c' (vs ++ [v]) → w.grownBy w' (blk A) → Below B w w' → (blk A = some g' ∨ g' = w.heap.size) →
      K (a.put o.dst (.slice (some ⟨g', 0, none⟩) (n + 1) c')) w') : o.wp Try.prog a w K Q := by
  obtain ⟨A', c', w', hrun, h2, h3, h4, g', rfl⟩ := run_appC o.type hown hnew hsz hB
  unfold Oper.wp execOp
  simp only [ho, resolve, invoke, builtin, Sem.run_bind, Sem.run_pure, Result.andThen_ok, List.map_toArray, List.map_cons, List.map_nil, hs, hx, hrun]
  exact h g' c' w' h2 h3 ((Below.refl _ _).grown h3 hB fun g hg => (hown.blk_ge g hg).1) (by
    rcases h4 with e | e
    · exact .inl e.symm
    · injection e with e
      exact .inr e)

theorem wpList_appC {ops : Array Oper} {rest : List Oper} {o : Oper} {a : Act} {Q : Exit → Act → World → Prop} (hgd : o.guard = none) (s x : Operand)
    (ho : o.op = .call { callee := .builtin .append, args := #[s, x], argTypes := #[29, 29] })
    (B : Nat) {n c : Nat} {A : Option Addr} {vs : List CV} (hs : a.eval s = .slice A n c) (hown : RowC w B A n c vs) {g : Nat} {v : CV}
    (hx : a.eval x = .slice (some ⟨g, 0, none⟩) 1 1) (hnew : Box w g 31 #[.int .i64 v.at_, .slice v.C v.n v.c, .slice v.P v.m v.d]) (hsz : n + 1 ≤ 2513167470000) (hB : B ≤ w.heap.size)
    (h : ∀ g' c' w', RowC w' B (some ⟨g', 0, none⟩) (n + 1) c' (vs ++ [v]) → w.grownBy w' (blk A) → Below B w w' → (blk A = some g' ∨ g' = w.heap.size) →
      wpList Try.prog ops Q rest (a.put o.dst (.slice (some ⟨g', 0, none⟩) (n + 1) c')) w') : wpList Try.prog ops Q (o :: rest) a w :=
  wpList_plain hgd fun _ hK => wp_appC s x ho B hs hown hx hnew hsz hB fun g' c' w' h2 h3 h4 h5 => hK _ _ (h g' c' w' h2 h3 h4 h5)
end
end Go.Proofs.Ytjhnenljmmeflaa
