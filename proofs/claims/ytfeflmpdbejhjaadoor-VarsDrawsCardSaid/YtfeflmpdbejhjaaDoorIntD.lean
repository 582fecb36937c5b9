/- Ints: slices that are read; rows of the call's own: appended, cut. -/
import Derived.Test.YtfeflmpdbejhjaaDoorRowG
namespace Go.Proofs.YtfeflmpdbejhjaaDoor
open Go.RowKit
set_option linter.unusedVariables false
def ints (l : List Int) : List (List Value) := l.map fun x => [.int .i64 x]
theorem ints_at {l : List Int} {j : Nat} (h : j < l.length) : (ints l)[j]? = some [.int .i64 (nth l j)] := by simp [ints, h, nth_eq]
theorem ints_set (l : List Int) (j : Nat) (x : Int) : (ints l).set j ([Value.int .i64 (nth l j)].set 0 (.int .i64 x)) = ints (l.set j x) := by simp [ints, List.map_set]
/-- A row of ints of the call's own. -/
abbrev RowI (w : World) (B : Nat) (A : Option Addr) (n c : Nat) (l : List Int) : Prop := RowG w 3 1 B A n c (ints l)
theorem RowI.len {w : World} {B n c : Nat} {A : Option Addr} {l : List Int} (h : RowI w B A n c l) : l.length = n := by have := h.cnt; simpa [ints] using this
theorem RowI.at_ {w : World} {B n c g : Nat} {l : List Int} (h : RowI w B (some ⟨g, 0, none⟩) n c l) {j : Nat} (hj : j < n) : w.cell? ⟨g, j, none⟩ = some (.int .i64 (nth l j)) ∧ w.frozen? ⟨g, j, none⟩ = false := by
  obtain ⟨g', e, h1, h2⟩ := h.cell (i := 0) (ints_at (by rw [h.len]; exact hj)) (by omega) rfl
  injection e with e
  injection e with e
  subst e
  rw [Nat.mul_one, Nat.add_zero] at h1 h2
  exact ⟨h1, h2⟩
/-- The slice at A, n long, reads as the ints l. -/
structure IntV (w : World) (A : Option Addr) (n : Nat) (l : List Int) : Prop where
  len : l.length = n
  at_ : ∀ j, j < n → ∃ b o, A = some ⟨b, o, none⟩ ∧ w.cell? ⟨b, o + j, none⟩ = some (.int .i64 (nth l j))
section
variable {w w' : World} {A : Option Addr} {n c B : Nat} {l : List Int}
theorem IntV.nil (w : World) (A : Option Addr) : IntV w A 0 [] := ⟨rfl, fun j h => absurd h (by omega)⟩
theorem IntV.keep (h : IntV w A n l) (hk : ∀ b o, A = some ⟨b, o, none⟩ → 0 < n → w'.heap[b]? = w.heap[b]?) : IntV w' A n l :=
  ⟨h.len, fun j hj => by
    obtain ⟨b, o, rfl, hc⟩ := h.at_ j hj
    exact ⟨b, o, rfl, (World.cell?_of_block (hk b o rfl (by omega))).trans hc⟩⟩
theorem IntV.lt (h : IntV w A n l) (hn : 0 < n) {b o : Nat} (ha : A = some ⟨b, o, none⟩) : b < w.heap.size := by
  obtain ⟨b', o', h1, hc⟩ := h.at_ 0 hn
  rw [ha] at h1
  injection h1 with h1
  injection h1 with h1
  subst h1
  exact World.block_lt_of_cell? w _ hc
theorem IntV.below (h : IntV w A n l) (hb : Below w.heap.size w w') : IntV w' A n l := h.keep fun _ _ ha hn => hb.block _ (h.lt hn ha)
theorem IntV.grown {row : Option Nat} (h : IntV w A n l) (hg : w.grownBy w' row) (hne : ∀ b, blk A = some b → row ≠ some b) : IntV w' A n l := h.keep fun b o ha hn => hg.block b (h.lt hn ha) (fun e => hne b (by rw [ha]; rfl) e.symm)
theorem IntV.alloc (h : IntV w A n l) (o : Obj) : IntV (w.alloc o) A n l := h.below ((Below.refl _ _).alloc (Nat.le_refl _) _)
theorem IntV.drewN (h : IntV w A n l) (k : Nat) : IntV (w.drewN k) A n l := h.keep fun _ _ _ _ => rfl
theorem IntV.none_ (h : IntV w none n l) : n = 0 ∧ l = [] := by
  have h0 : n = 0 := by
    rcases Nat.eq_zero_or_pos n with e | e
    · exact e
    · obtain ⟨_, _, e2, _⟩ := h.at_ 0 e
      cases e2
  exact ⟨h0, List.eq_nil_of_length_eq_zero (by rw [h.len, h0])⟩
theorem IntV.take (h : IntV w A n l) {m : Nat} (hm : m ≤ n) : IntV w A m (l.take m) :=
  ⟨by rw [List.length_take, h.len]; omega, fun j hj => by
    obtain ⟨b, o, h1, hc⟩ := h.at_ j (by omega)
    exact ⟨b, o, h1, by rw [nth_take hj]; exact hc⟩⟩
theorem IntV.sub {a : Nat} (h : IntV w A n l) (ha : a ≤ n) (hc : n ≤ c) : IntV w (Go.Proofs.YtfeflmpdbejhjaaDoor.sub A c a) (n - a) (l.drop a) := by
  refine ⟨by rw [List.length_drop, h.len], fun j hj => ?_⟩
  obtain ⟨b, o, rfl, h1⟩ := h.at_ (a + j) (by omega)
  have e : Go.Proofs.YtfeflmpdbejhjaaDoor.sub (some ⟨b, o, none⟩) c a = some ⟨b, o + a, none⟩ := by
    unfold Go.Proofs.YtfeflmpdbejhjaaDoor.sub
    rw [if_neg (by omega), Option.map_some, addr_lit]
  exact ⟨b, o + a, e, by rw [nth_drop, Nat.add_assoc]; exact h1⟩
theorem RowI.read (h : RowI w B A n c l) : IntV w A n l := by
  refine ⟨RowI.len h, fun j hj => ?_⟩
  obtain ⟨g', e, h1, h2⟩ := h.cell (i := 0) (ints_at (by rw [RowI.len h]; exact hj)) (by omega) rfl
  exact ⟨g', 0, e, by rw [Nat.zero_add]; rwa [Nat.mul_one, Nat.add_zero] at h1⟩
theorem RowI.nil (w : World) (B : Nat) : RowI w B none 0 0 [] := RowG.nil w _ _ _
theorem IntV.box {g : Nat} {x : Int} (h : Box w g 3 #[.int .i64 x]) : IntV w (some ⟨g, 0, none⟩) 1 [x] :=
  ⟨rfl, fun j hj => by
    obtain rfl : j = 0 := by omega
    exact ⟨g, 0, rfl, h.cell 0⟩⟩
end
theorem sub_blk {A : Option Addr} {c a b : Nat} (h : blk (sub A c a) = some b) : blk A = some b := by
  unfold sub at h
  split at h
  · exact h
  · cases A with
    | none => cases h
    | some p =>
      have e : (p.add a).block = p.block := by unfold Addr.add; split <;> rfl
      have h2 : some (p.add a).block = some b := h
      rw [e] at h2
      exact h2

theorem intInfo : (Tryd.prog.info? 3).map (fun i => (i.zero, i.size, i.bytes)) = some (some (.int .i64 0), 1, 8) := by kernel_rfl
theorem ints_app (l r : List Int) : ints (l ++ r) = ints l ++ ints r := by simp [ints]
theorem ints_each (l : List Int) : Each 1 (ints l) := fun v hv => by
  obtain ⟨x, _, rfl⟩ := List.mem_map.1 hv
  exact ⟨rfl, fun u hu => by rw [List.mem_singleton.1 hu]; rfl⟩
theorem ints_flat {l : List Int} {j : Nat} {u : Value} (h : (ints l).flatten[j]? = some u) : j < l.length ∧ u = .int .i64 (nth l j) := by
  have e : (ints l).flatten = l.map (Value.int .i64) := by
    unfold ints
    induction l with
    | nil => rfl
    | cons a l ih =>
      rw [List.map_cons, List.flatten_cons, List.map_cons]
      by_cases hl : True
      · have : (List.map (fun x => [Value.int IntKind.i64 x]) l).flatten = l.map (Value.int .i64) := by
          clear h ih
          induction l with
          | nil => rfl
          | cons b l ih => rw [List.map_cons, List.flatten_cons, List.map_cons, ih]; rfl
        rw [this]; rfl
      · exact absurd trivial hl
  rw [e, List.getElem?_map] at h
  cases hx : l[j]? with
  | none => rw [hx] at h; cases h
  | some x =>
    rw [hx] at h
    injection h with h
    obtain ⟨hj, hv⟩ := List.getElem?_eq_some_iff.1 hx
    exact ⟨hj, by rw [nth_eq hj, hv, h]⟩

/-- l[a :] of ints -/
theorem run_subI_l (A : Option Addr) (n c a : Nat) (h1 : a ≤ n) (W : World) :
    (Instr.slice 24 (.slice A n c) (some (.int .i64 (a : Int))) none none).run Tryd.prog W = .ok (.slice (sub A c a) (n - a) (c - a)) W := by
  have hz : (sizeOf (Tryd.prog.elem 24)).run Tryd.prog W = .ok 1 W := by kernel_rfl
  rw [run_slice_l (P := Tryd.prog) (t := 24) (ht := by kernel_rfl) (h0 := by omega) (h1 := by omega), hz]
  simp [Result.andThen, sliced, sub]
/-- l[: m] of ints -/
theorem run_subI_h (A : Option Addr) (n c m : Nat) (h1 : m ≤ c) (W : World) :
    (Instr.slice 24 (.slice A n c) none (some (.int .i64 (m : Int))) none).run Tryd.prog W = .ok (.slice A m c) W := by
  have hz : (sizeOf (Tryd.prog.elem 24)).run Tryd.prog W = .ok 1 W := by kernel_rfl
  rw [run_slice_h (P := Tryd.prog) (t := 24) (ht := by kernel_rfl) (h0 := by omega) (h2 := by omega), hz]
  cases A <;> simp [Result.andThen, sliced, Addr.add]

section
variable {w : World}
/-- append onto ints of the call's own, from any slice of ints. -/
theorem run_appI (ty : TypeId) {B n c : Nat} {A : Option Addr} {l : List Int} (hown : RowI w B A n c l) {X : Option Addr} {m d : Nat} {r : List Int} (hr : IntV w X m r)
    (hsz : n + m ≤ 1099511627776) (hB : B ≤ w.heap.size) :
    ∃ A' c' w', (Builtin.append_ #[24, 24] ty #[.slice A n c, .slice X m d]).run Tryd.prog w = .ok (.slice A' (n + m) c') w' ∧ RowI w' B A' (n + m) c' (l ++ r) ∧
      w.grownBy w' (blk A) ∧ (blk A' = blk A ∨ blk A' = some w.heap.size) := by
  obtain ⟨i0, hi, hz0, hz1, hz2⟩ := info_parts intInfo
  have hln := RowI.len hown
  have fin : ∀ v' w', w'.ownsRow B 3 1 v' (n + m) (ints (l ++ r)).flatten → (v'.ownBlock = blk A ∨ v'.ownBlock = some w.heap.size) →
      ∃ A' c', v' = .slice A' (n + m) c' ∧ RowI w' B A' (n + m) c' (l ++ r) ∧ (blk A' = blk A ∨ blk A' = some w.heap.size) := by
    intro v' w' ho hl
    have hc : (ints (l ++ r)).length = n + m := by simp [ints, hln, hr.len]
    rcases ho.2 with ⟨rfl, h0⟩ | ⟨g, cap, cur, rfl, _⟩
    · exact ⟨none, 0, by rw [h0], ⟨by rw [h0] at ho ⊢; exact ho, ints_each _, hc⟩, by rw [← own_blk none 0 0]; exact hl⟩
    · exact ⟨some ⟨g, 0, none⟩, cap, rfl, ⟨ho, ints_each _, hc⟩, by rw [← own_blk (some ⟨g, 0, none⟩) (n + m) cap]; exact hl⟩
  cases X with
  | some ad =>
    obtain ⟨v', w', hrun, h2, h3, _, h5⟩ := run_append_own_at (P := Tryd.prog) w B 24 ty 3 i0 (.int .i64 0) 1 8 Tryd.underlying24 hi hz0 hz1 hz2 rfl (by omega)
      (.slice A n c) n (ints l).flatten hown.row ad m d (ints r).flatten (by rw [flat_len (ints_each r).len]; simp [ints, hr.len]) (fun j u hu => by
        obtain ⟨hj, rfl⟩ := ints_flat hu
        obtain ⟨b, o, h1, hc⟩ := hr.at_ j (by rw [← hr.len]; exact hj)
        injection h1 with h1
        subst h1
        rw [addr_lit]
        exact hc) (ints_each r).cells (by unfold maxLen; omega) (by omega) hB
    rw [← List.flatten_append, ← ints_app] at h2
    rw [own_blk] at h3 h5
    obtain ⟨A', c', rfl, h6, h7⟩ := fin v' w' h2 h5
    exact ⟨A', c', w', hrun, h6, h3, h7⟩
  | none =>
    obtain ⟨rfl, rfl⟩ := hr.none_
    have hrun : (Builtin.append_ #[24, 24] ty #[.slice A n c, .slice none 0 d]).run Tryd.prog w = .ok (.slice A n c) w := by
      rcases hown.row.2 with ⟨h1, _⟩ | ⟨g, cap, cur, h1, _, _, hnc, _⟩
      · rw [h1]
        simp [Builtin.append_, run_underlying Tryd.underlying24, sizeOf, typeInfo, hi, Builtin.lenOf, Builtin.firstCells]
      · rw [h1]
        simp [Builtin.append_, run_underlying Tryd.underlying24, sizeOf, typeInfo, hi, Builtin.lenOf, Builtin.firstCells, hnc, storeCells]
    exact ⟨A, c, w, hrun, by rw [List.append_nil, Nat.add_zero]; exact hown, World.grownBy.refl w _, .inl rfl⟩

theorem wp_appI {o : Oper} {a : Act} {K : Act → World → Prop} {Q : Exit → Act → World → Prop} (s x : Operand)
    (ho : o.op = .call { callee := .builtin .append, args := #[s, x], argTypes := #[24, 24] })
    (B : Nat) {n c : Nat} {A : Option Addr} {l : List Int} (hs : a.eval s = .slice A n c) (hown : RowI w B A n c l) {X : Option Addr} {m d : Nat} {r : List Int}
    (hx : a.eval x = .slice X m d) (hr : IntV w X m r) (hsz : n + m ≤ 1099511627776) (hB : B ≤ w.heap.size)
    (h : ∀ A' c' w', RowI w' B A' (n + m) c' (l ++ r) → w.grownBy w' (blk A) → Below B w w' → (blk A' = blk A ∨ blk A' = some w.heap.size) →
      K (a.put o.dst (.slice A' (n + m) c')) w') : o.wp Tryd.prog a w K Q := by
  obtain ⟨A', c', w', hrun, h2, h3, h4⟩ := run_appI o.type hown (d := d) hr hsz hB
  unfold Oper.wp execOp
  simp only [ho, resolve, invoke, builtin, Sem.run_bind, Sem.run_pure, Result.andThen_ok, List.map_toArray, List.map_cons, List.map_nil, hs, hx, hrun]
  exact h A' c' w' h2 h3 ((Below.refl _ _).grown h3 hB fun g hg => (hown.blk_ge g hg).1) h4

theorem wpList_appI {ops : Array Oper} {rest : List Oper} {o : Oper} {a : Act} {Q : Exit → Act → World → Prop} (hgd : o.guard = none) (s x : Operand)
    (ho : o.op = .call { callee := .builtin .append, args := #[s, x], argTypes := #[24, 24] })
    (B : Nat) {n c : Nat} {A : Option Addr} {l : List Int} (hs : a.eval s = .slice A n c) (hown : RowI w B A n c l) {X : Option Addr} {m d : Nat} {r : List Int}
    (hx : a.eval x = .slice X m d) (hr : IntV w X m r) (hsz : n + m ≤ 1099511627776) (hB : B ≤ w.heap.size)
    (h : ∀ A' c' w', RowI w' B A' (n + m) c' (l ++ r) → w.grownBy w' (blk A) → Below B w w' → (blk A' = blk A ∨ blk A' = some w.heap.size) →
      wpList Tryd.prog ops Q rest (a.put o.dst (.slice A' (n + m) c')) w') : wpList Tryd.prog ops Q (o :: rest) a w :=
  wpList_plain hgd fun _ hK => wp_appI s x ho B hs hown hx hr hsz hB fun A' c' w' h2 h3 h4 h5 => hK _ _ (h A' c' w' h2 h3 h4 h5)

theorem step_appI {ops : Array Oper} {o : Oper} {a : Act} {K : Act → World → Prop} {Q : Exit → Act → World → Prop} {E : Prop} (hgd : o.guard = none) (s x : Operand)
    (ho : o.op = .call { callee := .builtin .append, args := #[s, x], argTypes := #[24, 24] })
    (B : Nat) {n c : Nat} {A : Option Addr} {l : List Int} (hs : a.eval s = .slice A n c) (hown : RowI w B A n c l) {X : Option Addr} {m d : Nat} {r : List Int}
    (hx : a.eval x = .slice X m d) (hr : IntV w X m r) (hsz : n + m ≤ 1099511627776) (hB : B ≤ w.heap.size)
    (h : ∀ A' c' w', RowI w' B A' (n + m) c' (l ++ r) → w.grownBy w' (blk A) → Below B w w' → (blk A' = blk A ∨ blk A' = some w.heap.size) →
      K (a.put o.dst (.slice A' (n + m) c')) w') :
    if Region.wanted o (yielded ops a.tmps) = true then Oper.wp Tryd.prog o a w K Q else E := by
  have hw : Region.wanted o (yielded ops a.tmps) = true := by simp [Region.wanted, hgd]
  rw [if_pos hw]
  exact wp_appI s x ho B hs hown hx hr hsz hB h

/-- append onto nil, in a drawn region. -/
theorem step_appI0 {ops : Array Oper} {o : Oper} {a : Act} {K : Act → World → Prop} {Q : Exit → Act → World → Prop} {E : Prop} (hgd : o.guard = none) (s x : Operand)
    (ho : o.op = .call { callee := .builtin .append, args := #[s, x], argTypes := #[24, 24] })
    (hs : a.eval s = .slice none 0 0) {X : Option Addr} {m d : Nat} {r : List Int}
    (hx : a.eval x = .slice X m d) (hr : IntV w X m r) (hsz : m ≤ 1099511627776)
    (h : ∀ A' c' w', RowI w' w.heap.size A' m c' r → Below w.heap.size w w' → K (a.put o.dst (.slice A' m c')) w') :
    if Region.wanted o (yielded ops a.tmps) = true then Oper.wp Tryd.prog o a w K Q else E :=
  step_appI hgd s x ho w.heap.size hs (RowI.nil w _) hx hr (by omega) (Nat.le_refl _) fun A' c' w' h2 _ h4 h5 => by
    simp only [Nat.zero_add, List.nil_append] at h2 ⊢
    exact h A' c' w' h2 h4
end

end Go.Proofs.YtfeflmpdbejhjaaDoor
