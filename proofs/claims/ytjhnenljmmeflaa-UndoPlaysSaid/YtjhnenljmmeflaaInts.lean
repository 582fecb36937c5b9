/- Words for slices of ints that came in; appends of a whole row of changes; slices of rows of changes. -/
import Derived.Test.YtjhnenljmmeflaaOwnC
namespace Go.Proofs.Ytjhnenljmmeflaa
open Go.RowKit
set_option linter.unusedVariables false

/-- The slice at A, n long, reads as the ints l. -/
structure IntsR (w : World) (A : Option Addr) (n : Nat) (l : List Int) : Prop where
  len : l.length = n
  at_ : ∀ j, j < n → ∃ b o, A = some ⟨b, o, none⟩ ∧ w.cell? ⟨b, o + j, none⟩ = some (.int .i64 (nth l j))
  wf : ∀ x ∈ l, -9223372036854775808 ≤ x ∧ x ≤ 9223372036854775807

theorem IntsR.below {w w' : World} {A : Option Addr} {n : Nat} {l : List Int} (h : IntsR w A n l) (hb : Below w.heap.size w w') : IntsR w' A n l :=
  ⟨h.len, fun j hj => by
    obtain ⟨b, o, h1, hc⟩ := h.at_ j hj
    exact ⟨b, o, h1, (hb.cell (World.block_lt_of_cell? w _ hc)).trans hc⟩, h.wf⟩

section
variable {w : World} {A : Option Addr} {n : Nat} {vs : Nat → CV} {l : List Chg}
theorem Chgs.take (h : Chgs w A n vs l) {m : Nat} (hm : m ≤ n) : Chgs w A m vs (l.take m) :=
  ⟨by rw [List.length_take, h.len]; omega, fun j hj => h.at_ j (by omega), fun j hj => by
    obtain ⟨x, h1, h2⟩ := h.rd j (by omega)
    exact ⟨x, by rw [List.getElem?_take_of_lt hj]; exact h1, h2⟩⟩

/-- Where the elements from place a on lie, of a slice of changes of capacity c. -/
def subC (A : Option Addr) (c a : Nat) : Option Addr := if c = a then A else A.map (·.add (a * 3))
theorem Chgs.sub {c a : Nat} (h : Chgs w A n vs l) (ha : a ≤ n) (hc : n ≤ c) : Chgs w (subC A c a) (n - a) (fun j => vs (a + j)) (l.drop a) := by
  refine ⟨by rw [List.length_drop, h.len], fun j hj => ?_, fun j hj => ?_⟩
  · obtain ⟨b, o, rfl, h1, h2, h3⟩ := h.at_ (a + j) (by omega)
    have e : subC (some ⟨b, o, none⟩) c a = some ⟨b, o + a * 3, none⟩ := by
      unfold subC
      rw [if_neg (by omega), Option.map_some, addr_lit]
    rw [e]
    have e2 : o + a * 3 + j * 3 = o + (a + j) * 3 := by omega
    exact ⟨b, o + a * 3, rfl, by rw [e2]; exact h1, by rw [e2]; exact h2, by rw [e2]; exact h3⟩
  · obtain ⟨x, h1, h2⟩ := h.rd (a + j) (by omega)
    exact ⟨x, by rw [List.getElem?_drop]; exact h1, h2⟩
end

/-- l[a :] of changes -/
theorem run_subC_l (A : Option Addr) (n c a : Nat) (h1 : a ≤ n) (W : World) :
    (Instr.slice 29 (.slice A n c) (some (.int .i64 (a : Int))) none none).run Try.prog W = .ok (.slice (subC A c a) (n - a) (c - a)) W := by
  have hz : (sizeOf (Try.prog.elem 29)).run Try.prog W = .ok 3 W := by kernel_rfl
  rw [run_slice_l (P := Try.prog) (t := 29) (ht := by kernel_rfl) (h0 := by omega) (h1 := by omega), hz]
  simp [Result.andThen, sliced, subC]
/-- l[: m] of changes -/
theorem run_subC_h (A : Option Addr) (n c m : Nat) (h1 : m ≤ c) (W : World) :
    (Instr.slice 29 (.slice A n c) none (some (.int .i64 (m : Int))) none).run Try.prog W = .ok (.slice A m c) W := by
  have hz : (sizeOf (Try.prog.elem 29)).run Try.prog W = .ok 3 W := by kernel_rfl
  rw [run_slice_h (P := Try.prog) (t := 29) (ht := by kernel_rfl) (h0 := by omega) (h2 := by omega), hz]
  cases A <;> simp [Result.andThen, sliced, Addr.add]

section
variable {w : World}
/-- append of a row of changes onto another one, both of the call's own. -/
theorem run_appR (ty : TypeId) {B n c : Nat} {A : Option Addr} {vs : List CV} (hown : RowC w B A n c vs) {X : Option Addr} {m d B' : Nat} {us : List CV} (hr : RowC w B' X m d us)
    (hsz : n + m ≤ 2513167470000) (hB : B ≤ w.heap.size) :
    ∃ A' c' w', (Builtin.append_ #[29, 29] ty #[.slice A n c, .slice X m d]).run Try.prog w = .ok (.slice A' (n + m) c') w' ∧ RowC w' B A' (n + m) c' (vs ++ us) ∧
      w.grownBy w' (blk A) ∧ (blk A' = blk A ∨ blk A' = some w.heap.size) := by
  obtain ⟨i0, hi, hz0, hz1, hz2⟩ := info_parts chgInfo
  rcases hr.form with ⟨rfl, rfl, rfl⟩ | ⟨g, rfl, _, _⟩
  · have hus : us = [] := List.eq_nil_of_length_eq_zero hr.len
    subst hus
    have hrun : (Builtin.append_ #[29, 29] ty #[.slice A n c, .slice none 0 0]).run Try.prog w = .ok (.slice A n c) w := by
      rcases hown.row.2 with ⟨h1, _⟩ | ⟨g, cap, cur, h1, _, _, hnc, _⟩
      · rw [h1]
        simp [Builtin.append_, run_underlying Try.underlying29, sizeOf, typeInfo, hi, Builtin.lenOf, Builtin.firstCells]
      · rw [h1]
        simp [Builtin.append_, run_underlying Try.underlying29, sizeOf, typeInfo, hi, Builtin.lenOf, Builtin.firstCells, hnc, storeCells]
    exact ⟨A, c, w, hrun, by simpa using hown, World.grownBy.refl w _, .inl rfl⟩
  · have hlen := hr.len
    obtain ⟨v', w', hrun, h2, h3, _, h5⟩ := run_append_own_at (P := Try.prog) w B 29 ty 31 i0 _ 3 56 Try.underlying29 hi hz0 hz1 hz2 rfl (by omega)
      (.slice A n c) n (cellsC vs) hown.row ⟨g, 0, none⟩ m d (cellsC us) (by rw [cellsC_len, hlen]) (fun j u hu => hr.row.cells (g := g) rfl j u hu) cellsC_one (by unfold maxLen; omega) (by omega) hB
    rw [← cellsC_app] at h2
    rw [own_blk] at h3 h5
    rcases h2.2 with ⟨rfl, h0⟩ | ⟨g', cap, cur, rfl, _⟩
    · exact ⟨none, 0, w', by rw [h0]; exact hrun, ⟨by rw [h0] at h2 ⊢; exact h2⟩, h3, by rw [← own_blk none 0 0]; exact h5⟩
    · exact ⟨some ⟨g', 0, none⟩, cap, w', hrun, ⟨h2⟩, h3, by rw [← own_blk (some ⟨g', 0, none⟩) (n + m) cap]; exact h5⟩

theorem wp_appR {o : Oper} {a : Act} {K : Act → World → Prop} {Q : Exit → Act → World → Prop} (s x : Operand)
    (ho : o.op = .call { callee := .builtin .append, args := #[s, x], argTypes := #[29, 29] })
    (B : Nat) {n c : Nat} {A : Option Addr} {vs : List CV} (hs : a.eval s = .slice A n c) (hown : RowC w B A n c vs) {X : Option Addr} {m d B' : Nat} {us : List CV}
    (hx : a.eval x = .slice X m d) (hr : RowC w B' X m d us) (hsz : n + m ≤ 2513167470000) (hB : B ≤ w.heap.size)
    (h : ∀ A' c' w', RowC w' B A' (n + m) c' (vs ++ us) → w.grownBy w' (blk A) → Below B w w' → (blk A' = blk A ∨ blk A' = some w.heap.size) →
      K (a.put o.dst (.slice A' (n + m) c')) w') : o.wp Try.prog a w K Q := by
  obtain ⟨A', c', w', hrun, h2, h3, h4⟩ := run_appR o.type hown hr hsz hB
  unfold Oper.wp execOp
  simp only [ho, resolve, invoke, builtin, Sem.run_bind, Sem.run_pure, Result.andThen_ok, List.map_toArray, List.map_cons, List.map_nil, hs, hx, hrun]
  exact h A' c' w' h2 h3 ((Below.refl _ _).grown h3 hB fun g hg => (hown.blk_ge g hg).1) h4

theorem wpList_appR {ops : Array Oper} {rest : List Oper} {o : Oper} {a : Act} {Q : Exit → Act → World → Prop} (hgd : o.guard = none) (s x : Operand)
    (ho : o.op = .call { callee := .builtin .append, args := #[s, x], argTypes := #[29, 29] })
    (B : Nat) {n c : Nat} {A : Option Addr} {vs : List CV} (hs : a.eval s = .slice A n c) (hown : RowC w B A n c vs) {X : Option Addr} {m d B' : Nat} {us : List CV}
    (hx : a.eval x = .slice X m d) (hr : RowC w B' X m d us) (hsz : n + m ≤ 2513167470000) (hB : B ≤ w.heap.size)
    (h : ∀ A' c' w', RowC w' B A' (n + m) c' (vs ++ us) → w.grownBy w' (blk A) → Below B w w' → (blk A' = blk A ∨ blk A' = some w.heap.size) →
      wpList Try.prog ops Q rest (a.put o.dst (.slice A' (n + m) c')) w') : wpList Try.prog ops Q (o :: rest) a w :=
  wpList_plain hgd fun _ hK => wp_appR s x ho B hs hown hx hr hsz hB fun A' c' w' h2 h3 h4 h5 => hK _ _ (h A' c' w' h2 h3 h4 h5)

theorem step_appR {ops : Array Oper} {o : Oper} {a : Act} {K : Act → World → Prop} {Q : Exit → Act → World → Prop} {E : Prop} (hgd : o.guard = none) (s x : Operand)
    (ho : o.op = .call { callee := .builtin .append, args := #[s, x], argTypes := #[29, 29] })
    (B : Nat) {n c : Nat} {A : Option Addr} {vs : List CV} (hs : a.eval s = .slice A n c) (hown : RowC w B A n c vs) {X : Option Addr} {m d B' : Nat} {us : List CV}
    (hx : a.eval x = .slice X m d) (hr : RowC w B' X m d us) (hsz : n + m ≤ 2513167470000) (hB : B ≤ w.heap.size)
    (h : ∀ A' c' w', RowC w' B A' (n + m) c' (vs ++ us) → w.grownBy w' (blk A) → Below B w w' → (blk A' = blk A ∨ blk A' = some w.heap.size) →
      K (a.put o.dst (.slice A' (n + m) c')) w') :
    if Region.wanted o (yielded ops a.tmps) = true then Oper.wp Try.prog o a w K Q else E := by
  have hw : Region.wanted o (yielded ops a.tmps) = true := by simp [Region.wanted, hgd]
  rw [if_pos hw]
  exact wp_appR s x ho B hs hown hx hr hsz hB h

/-- append onto nil. -/
theorem step_appR0 {ops : Array Oper} {o : Oper} {a : Act} {K : Act → World → Prop} {Q : Exit → Act → World → Prop} {E : Prop} (hgd : o.guard = none) (s x : Operand)
    (ho : o.op = .call { callee := .builtin .append, args := #[s, x], argTypes := #[29, 29] })
    (B : Nat) (hs : a.eval s = .slice none 0 0) {X : Option Addr} {m d B' : Nat} {us : List CV}
    (hx : a.eval x = .slice X m d) (hr : RowC w B' X m d us) (hsz : m ≤ 2513167470000) (hB : B ≤ w.heap.size)
    (h : ∀ A' c' w', RowC w' B A' m c' us → w.grownBy w' (blk none) → Below B w w' → (blk A' = blk none ∨ blk A' = some w.heap.size) →
      K (a.put o.dst (.slice A' m c')) w') :
    if Region.wanted o (yielded ops a.tmps) = true then Oper.wp Try.prog o a w K Q else E :=
  step_appR hgd s x ho B hs (RowC.nil w B) hx hr (by omega) hB fun A' c' w' h2 h3 h4 h5 => by
    simp only [Nat.zero_add, List.nil_append] at h2 ⊢
    exact h A' c' w' h2 h3 h4 h5
end
end Go.Proofs.Ytjhnenljmmeflaa
