/- Rows of items that are read; the reference's bag in memory: at, All, Count, Begins. -/
import Derived.Test.YtchcpeenpijekaaTriJ
import Derived.Test.YtchcpeenpijekaaLessR
namespace Go.Proofs.Ytchcpeenpijekaa
open Go.RowKit Go.Maps Go.MapKept Go.ChangeMaps Go.Shelf
set_option linter.unusedVariables false

/-- The slice (A, n, _) holds the items us. -/
structure ItemsM (w : World) (A : Option Addr) (n : Nat) (us : List IV) : Prop where
  len : us.length = n
  at_ : ∀ j u, us[j]? = some u → ∃ b o, A = some ⟨b, o, none⟩ ∧ w.cell? ⟨b, o + j * 2, none⟩ = some (.slice u.A u.n u.c) ∧ w.cell? ⟨b, o + j * 2 + 1, none⟩ = some (.int .i64 (u.k : Nat))
/-- Their words are read. -/
def Rd (w : World) (us : List IV) : Prop := ∀ u ∈ us, Runes w u.A u.n u.t
/-- Where the items from place a on lie, of a slice of capacity c. -/
def subT (A : Option Addr) (c a : Nat) : Option Addr := if c = a then A else A.map (·.add (a * 2))
section
variable {w w' : World} {A : Option Addr} {n c : Nat} {us : List IV}
theorem ItemsM.below (h : ItemsM w A n us) (hb : Below w.heap.size w w') : ItemsM w' A n us := ⟨h.len, fun j u hu => by
  obtain ⟨b, o, e, h1, h2⟩ := h.at_ j u hu
  have hl : b < w.heap.size := World.block_lt_of_cell? w _ h1
  exact ⟨b, o, e, (hb.cell (p := ⟨b, o + j * 2, none⟩) hl).trans h1, (hb.cell (p := ⟨b, o + j * 2 + 1, none⟩) hl).trans h2⟩⟩
theorem Rd.below (h : Rd w us) (hb : Below w.heap.size w w') : Rd w' us := fun u hu => (h u hu).below hb
theorem ItemsM.take (h : ItemsM w A n us) {m : Nat} (hm : m ≤ n) : ItemsM w A m (us.take m) := ⟨by rw [List.length_take, h.len]; omega, fun j u hu => h.at_ j u (by
  rw [List.getElem?_take] at hu
  split at hu
  · exact hu
  · cases hu)⟩
theorem ItemsM.sub (h : ItemsM w A n us) {a : Nat} (ha : a ≤ n) (hc : n ≤ c) : ItemsM w (subT A c a) (n - a) (us.drop a) := ⟨by rw [List.length_drop, h.len], fun j u hu => by
  rw [List.getElem?_drop] at hu
  obtain ⟨b, o, rfl, h1, h2⟩ := h.at_ (a + j) u hu
  have hj := (List.getElem?_eq_some_iff.1 hu).1
  rw [h.len] at hj
  have e : subT (some ⟨b, o, none⟩) c a = some ⟨b, o + a * 2, none⟩ := by
    unfold subT
    rw [if_neg (by omega), Option.map_some, addr_lit]
  refine ⟨b, o + a * 2, e, ?_, ?_⟩
  · rw [show o + a * 2 + j * 2 = o + (a + j) * 2 by omega]; exact h1
  · rw [show o + a * 2 + j * 2 + 1 = o + (a + j) * 2 + 1 by omega]; exact h2⟩
theorem RowG.items {B : Nat} (h : RowG w 49 2 B A n c (us.map IV.cells)) : ItemsM w A n us := ⟨by have := h.cnt; simpa using this, fun j u hu => by
  have hv : (us.map IV.cells)[j]? = some u.cells := by rw [List.getElem?_map, hu]; rfl
  obtain ⟨g, e, h1, _⟩ := h.cell (i := 0) hv (by omega) rfl
  obtain ⟨g', e', h2, _⟩ := h.cell (i := 1) hv (by omega) rfl
  rw [e] at e'
  injection e' with e'
  injection e' with e'
  subst e'
  exact ⟨g, 0, e, by rw [Nat.zero_add]; exact h1, by rw [Nat.zero_add]; exact h2⟩⟩
theorem icells_each (us : List IV) : Each 2 (us.map IV.cells) := fun v hv => by
  obtain ⟨u, _, rfl⟩ := List.mem_map.1 hv
  exact u.one
theorem ItemsM.flat (h : ItemsM w A n us) {a : Addr} (hA : A = some a) : ∀ (j : Nat) v, (us.map IV.cells).flatten[j]? = some v → w.cell? (a.add j) = some v := fun j v hv => by
  have e : j = j / 2 * 2 + j % 2 := by omega
  have h' : (us.map IV.cells).flatten[j / 2 * 2 + j % 2]? = some v := by rw [← e]; exact hv
  rw [flat_get (Nat.mod_lt _ (by omega)) (icells_each us).len, List.getElem?_map] at h'
  cases hu : us[j / 2]? with
  | none => rw [hu] at h'; cases h'
  | some u =>
    rw [hu] at h'
    obtain ⟨b, o, e2, h1, h2⟩ := h.at_ _ u hu
    rw [hA] at e2
    injection e2 with e2
    subst e2
    rw [addr_lit]
    have hm : j % 2 = 0 ∨ j % 2 = 1 := by omega
    rcases hm with hm | hm
    · rw [hm] at h'
      rw [show o + j = o + j / 2 * 2 by omega, h1]
      exact h'
    · rw [hm] at h'
      rw [show o + j = o + j / 2 * 2 + 1 by omega, h2]
      exact h'
theorem ItemsM.none_ (h : ItemsM w none n us) : n = 0 ∧ us = [] := by
  cases us with
  | nil => exact ⟨by have := h.len; simpa using this.symm, rfl⟩
  | cons u us =>
    obtain ⟨_, _, e, _⟩ := h.at_ 0 u rfl
    cases e
/-- l[: m], l[a :] of items -/
theorem run_subT_h (A : Option Addr) (n c m : Nat) (h1 : m ≤ c) (W : World) :
    (Instr.slice 26 (.slice A n c) none (some (.int .i64 (m : Int))) none).run Try.prog W = .ok (.slice A m c) W := by
  have hz : (sizeOf (Try.prog.elem 26)).run Try.prog W = .ok 2 W := by kernel_rfl
  rw [run_slice_h (P := Try.prog) (t := 26) (ht := by kernel_rfl) (h0 := by omega) (h2 := by omega), hz]
  cases A <;> simp [Result.andThen, sliced, Addr.add]
theorem run_subT_l (A : Option Addr) (n c a : Nat) (h1 : a ≤ n) (W : World) :
    (Instr.slice 26 (.slice A n c) (some (.int .i64 (a : Int))) none none).run Try.prog W = .ok (.slice (subT A c a) (n - a) (c - a)) W := by
  have hz : (sizeOf (Try.prog.elem 26)).run Try.prog W = .ok 2 W := by kernel_rfl
  rw [run_slice_l (P := Try.prog) (t := 26) (ht := by kernel_rfl) (h0 := by omega) (h1 := by omega), hz]
  simp [Result.andThen, sliced, subT]
set_option maxRecDepth 20000 in
/-- append of items onto a row of the call's own. -/
theorem run_appT (ty : TypeId) {B : Nat} {vs : List (List Value)} (hown : RowG w 49 2 B A n c vs) {X : Option Addr} {m d : Nat} (hr : ItemsM w X m us) (hsz : n + m ≤ 1000000) (hB : B ≤ w.heap.size) :
    ∃ A' c' w', (Builtin.append_ #[26, 26] ty #[.slice A n c, .slice X m d]).run Try.prog w = .ok (.slice A' (n + m) c') w' ∧ RowG w' 49 2 B A' (n + m) c' (vs ++ us.map IV.cells) ∧
      w.grownBy w' (blk A) ∧ (blk A' = blk A ∨ blk A' = some w.heap.size) := by
  obtain ⟨z, hzs, hinfo⟩ := itemT.info
  obtain ⟨i0, hi, hz0, hz1, hz2⟩ := info_parts hinfo
  have hlm : (us.map IV.cells).length = m := by rw [List.length_map, hr.len]
  have fin : ∀ v' w', w'.ownsRow B 49 2 v' (n + m) (vs ++ us.map IV.cells).flatten → (v'.ownBlock = blk A ∨ v'.ownBlock = some w.heap.size) →
      ∃ A' c', v' = .slice A' (n + m) c' ∧ RowG w' 49 2 B A' (n + m) c' (vs ++ us.map IV.cells) ∧ (blk A' = blk A ∨ blk A' = some w.heap.size) := by
    intro v' w' ho hl
    have hc : (vs ++ us.map IV.cells).length = n + m := by rw [List.length_append, hown.cnt, hlm]
    rcases ho.2 with ⟨rfl, h0⟩ | ⟨g, cap, cur, rfl, _⟩
    · exact ⟨none, 0, by rw [h0], ⟨by rw [h0] at ho ⊢; exact ho, hown.each.app (icells_each us), hc⟩, by rw [← own_blk none 0 0]; exact hl⟩
    · exact ⟨some ⟨g, 0, none⟩, cap, rfl, ⟨ho, hown.each.app (icells_each us), hc⟩, by rw [← own_blk (some ⟨g, 0, none⟩) (n + m) cap]; exact hl⟩
  cases X with
  | some ad =>
    obtain ⟨v', w', hrun, h2, h3, _, h5⟩ := run_append_own_at (P := Try.prog) w B 26 ty 49 i0 z 2 32 itemT.und hi hz0 hz1 hz2 hzs itemT.pos
      (.slice A n c) n vs.flatten hown.row ad m d (us.map IV.cells).flatten (by rw [flat_len (icells_each us).len, hlm]) (hr.flat rfl) (icells_each us).cells (by unfold maxLen; omega) (by omega) hB
    rw [← List.flatten_append] at h2
    rw [own_blk] at h3 h5
    obtain ⟨A', c', rfl, h6, h7⟩ := fin v' w' h2 h5
    exact ⟨A', c', w', hrun, h6, h3, h7⟩
  | none =>
    obtain ⟨rfl, rfl⟩ := hr.none_
    have hrun : (Builtin.append_ #[26, 26] ty #[.slice A n c, .slice none 0 d]).run Try.prog w = .ok (.slice A n c) w := by
      rcases hown.row.2 with ⟨h1, _⟩ | ⟨g, cap, cur, h1, _, _, hnc, _⟩
      · rw [h1]
        simp [Builtin.append_, run_underlying Try.underlying26, sizeOf, typeInfo, hi, Builtin.lenOf, Builtin.firstCells]
      · rw [h1]
        simp [Builtin.append_, run_underlying Try.underlying26, sizeOf, typeInfo, hi, Builtin.lenOf, Builtin.firstCells, hnc, storeCells]
    exact ⟨A, c, w, hrun, by rw [List.map_nil, List.append_nil, Nat.add_zero]; exact hown, World.grownBy.refl w _, .inl rfl⟩
theorem wp_appT {o : Oper} {a : Act} {K : Act → World → Prop} {Q : Exit → Act → World → Prop} (s x : Operand)
    (ho : o.op = .call { callee := .builtin .append, args := #[s, x], argTypes := #[26, 26] })
    (B : Nat) {vs : List (List Value)} (hs : a.eval s = .slice A n c) (hown : RowG w 49 2 B A n c vs) {X : Option Addr} {m d : Nat}
    (hx : a.eval x = .slice X m d) (hr : ItemsM w X m us) (hsz : n + m ≤ 1000000) (hB : B ≤ w.heap.size)
    (h : ∀ A' c' w', RowG w' 49 2 B A' (n + m) c' (vs ++ us.map IV.cells) → w.grownBy w' (blk A) → (blk A' = blk A ∨ blk A' = some w.heap.size) → K (a.put o.dst (.slice A' (n + m) c')) w') : o.wp Try.prog a w K Q := by
  obtain ⟨A', c', w', hrun, h2, h3, h4⟩ := run_appT o.type hown (d := d) hr hsz hB
  unfold Oper.wp execOp
  simp only [ho, resolve, invoke, builtin, Sem.run_bind, Sem.run_pure, Result.andThen_ok, List.map_toArray, List.map_cons, List.map_nil, hs, hx, hrun]
  exact h A' c' w' h2 h3 h4
theorem wpList_appT {ops : Array Oper} {rest : List Oper} {o : Oper} {a : Act} {Q : Exit → Act → World → Prop} (hgd : o.guard = none) (s x : Operand)
    (ho : o.op = .call { callee := .builtin .append, args := #[s, x], argTypes := #[26, 26] })
    (B : Nat) {vs : List (List Value)} (hs : a.eval s = .slice A n c) (hown : RowG w 49 2 B A n c vs) {X : Option Addr} {m d : Nat}
    (hx : a.eval x = .slice X m d) (hr : ItemsM w X m us) (hsz : n + m ≤ 1000000) (hB : B ≤ w.heap.size)
    (h : ∀ A' c' w', RowG w' 49 2 B A' (n + m) c' (vs ++ us.map IV.cells) → w.grownBy w' (blk A) → (blk A' = blk A ∨ blk A' = some w.heap.size) → wpList Try.prog ops Q rest (a.put o.dst (.slice A' (n + m) c')) w') : wpList Try.prog ops Q (o :: rest) a w :=
  wpList_plain hgd fun _ hK => wp_appT s x ho B hs hown hx hr hsz hB fun A' c' w' h2 h3 h4 => hK _ _ (h A' c' w' h2 h3 h4)
theorem step_appT {ops : Array Oper} {o : Oper} {a : Act} {K : Act → World → Prop} {Q : Exit → Act → World → Prop} {E : Prop} (hgd : o.guard = none) (s x : Operand)
    (ho : o.op = .call { callee := .builtin .append, args := #[s, x], argTypes := #[26, 26] })
    (B : Nat) {vs : List (List Value)} (hs : a.eval s = .slice A n c) (hown : RowG w 49 2 B A n c vs) {X : Option Addr} {m d : Nat}
    (hx : a.eval x = .slice X m d) (hr : ItemsM w X m us) (hsz : n + m ≤ 1000000) (hB : B ≤ w.heap.size)
    (h : ∀ A' c' w', RowG w' 49 2 B A' (n + m) c' (vs ++ us.map IV.cells) → w.grownBy w' (blk A) → (blk A' = blk A ∨ blk A' = some w.heap.size) → K (a.put o.dst (.slice A' (n + m) c')) w') :
    if Region.wanted o (yielded ops a.tmps) = true then Oper.wp Try.prog o a w K Q else E := by
  have hw : Region.wanted o (yielded ops a.tmps) = true := by simp [Region.wanted, hgd]
  rw [if_pos hw]
  exact wp_appT s x ho B hs hown hx hr hsz hB h
end
end Go.Proofs.Ytchcpeenpijekaa
