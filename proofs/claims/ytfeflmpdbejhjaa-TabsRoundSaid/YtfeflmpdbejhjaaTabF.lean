/- Rows of fields: appended, cut; one more field that is no home, anywhere: the order. -/
import Derived.Test.YtfeflmpdbejhjaaTabT
namespace Go.Proofs.Ytfeflmpdbejhjaa
open Go.RowKit
set_option linter.unusedVariables false

theorem fcells_at {us : Nat → FV} {m j : Nat} {u : Value} (h : (fcells us m).flatten[j]? = some u) : j / 11 < m ∧ (us (j / 11)).cells[j % 11]? = some u := by
  have e : j = j / 11 * 11 + j % 11 := by omega
  have h' : (fcells us m).flatten[j / 11 * 11 + j % 11]? = some u := by rw [← e]; exact h
  rw [flat_get (Nat.mod_lt _ (by omega)) (fcells_each us m).len] at h'
  by_cases hq : j / 11 < m
  · have e2 : (fcells us m)[j / 11]? = some (us (j / 11)).cells := by simp [fcells, hq]
    rw [e2] at h'
    exact ⟨hq, h'⟩
  · have e2 : (fcells us m)[j / 11]? = none := by simp [fcells]; omega
    rw [e2] at h'
    cases h'
theorem Flds.none_ {w : World} {n : Nat} {us : Nat → FV} (h : Flds w none n us) : n = 0 := by
  rcases Nat.eq_zero_or_pos n with e | e
  · exact e
  · obtain ⟨_, _, e2, _⟩ := h.at_ 0 e
    cases e2
/-- Where the fields from place a on lie, of a slice of capacity c. -/
def subF (A : Option Addr) (c a : Nat) : Option Addr := if c = a then A else A.map (·.add (a * 11))
theorem Flds.sub {w : World} {A : Option Addr} {n c a : Nat} {us : Nat → FV} (h : Flds w A n us) (ha : a ≤ n) (hc : n ≤ c) : Flds w (subF A c a) (n - a) (fun j => us (a + j)) := by
  refine ⟨fun j hj => ?_, fun j hj => h.wf (a + j) (by omega)⟩
  obtain ⟨b, o, rfl, h1⟩ := h.at_ (a + j) (by omega)
  have e : subF (some ⟨b, o, none⟩) c a = some ⟨b, o + a * 11, none⟩ := by
    unfold subF
    rw [if_neg (by omega), Option.map_some, addr_lit]
  refine ⟨b, o + a * 11, e, fun i hi => ?_⟩
  have := h1 i hi
  rw [show o + a * 11 + j * 11 + i = o + (a + j) * 11 + i by omega]
  exact this
/-- l[a :] of fields -/
theorem run_subF_l (A : Option Addr) (n c a : Nat) (h1 : a ≤ n) (W : World) :
    (Instr.slice 22 (.slice A n c) (some (.int .i64 (a : Int))) none none).run Try.prog W = .ok (.slice (subF A c a) (n - a) (c - a)) W := by
  have hz : (sizeOf (Try.prog.elem 22)).run Try.prog W = .ok 11 W := by kernel_rfl
  rw [run_slice_l (P := Try.prog) (t := 22) (ht := by kernel_rfl) (h0 := by omega) (h1 := by omega), hz]
  simp [Result.andThen, sliced, subF]

section
variable {w : World}
/-- append onto a row of fields of the call's own, from any slice of fields. -/
theorem run_appF (ty : TypeId) {B n c : Nat} {A : Option Addr} {vs : List (List Value)} (hown : RowG w 33 11 B A n c vs) {X : Option Addr} {m d : Nat} {us : Nat → FV} (hr : Flds w X m us)
    (hsz : n + m ≤ 1000000) (hB : B ≤ w.heap.size) :
    ∃ A' c' w', (Builtin.append_ #[22, 22] ty #[.slice A n c, .slice X m d]).run Try.prog w = .ok (.slice A' (n + m) c') w' ∧ RowG w' 33 11 B A' (n + m) c' (vs ++ fcells us m) ∧
      w.grownBy w' (blk A) := by
  obtain ⟨z, hzs, hinfo⟩ := fieldT.info
  obtain ⟨i0, hi, hz0, hz1, hz2⟩ := info_parts hinfo
  have hlm : (fcells us m).length = m := by simp [fcells]
  have fin : ∀ v' w', w'.ownsRow B 33 11 v' (n + m) (vs ++ fcells us m).flatten →
      ∃ A' c', v' = .slice A' (n + m) c' ∧ RowG w' 33 11 B A' (n + m) c' (vs ++ fcells us m) := by
    intro v' w' ho
    have hc : (vs ++ fcells us m).length = n + m := by rw [List.length_append, hown.cnt, hlm]
    rcases ho.2 with ⟨rfl, h0⟩ | ⟨g, cap, cur, rfl, _⟩
    · exact ⟨none, 0, by rw [h0], ⟨by rw [h0] at ho ⊢; exact ho, hown.each.app (fcells_each us m), hc⟩⟩
    · exact ⟨some ⟨g, 0, none⟩, cap, rfl, ⟨ho, hown.each.app (fcells_each us m), hc⟩⟩
  cases X with
  | some ad =>
    obtain ⟨v', w', hrun, h2, h3, _, h5⟩ := run_append_own_at (P := Try.prog) w B 22 ty 33 i0 z 11 128 fieldT.und hi hz0 hz1 hz2 hzs fieldT.pos
      (.slice A n c) n vs.flatten hown.row ad m d (fcells us m).flatten (by rw [flat_len (fcells_each us m).len, hlm]) (fun j u hu => by
        obtain ⟨hj, hc⟩ := fcells_at hu
        obtain ⟨b, o, h1, h2⟩ := hr.at_ (j / 11) hj
        injection h1 with h1
        subst h1
        have := h2 (j % 11) (Nat.mod_lt _ (by omega))
        rw [addr_lit, show o + j = o + j / 11 * 11 + j % 11 by omega, this]
        exact hc) (fcells_each us m).cells (by unfold maxLen; omega) (by omega) hB
    rw [← List.flatten_append] at h2
    rw [own_blk] at h3
    obtain ⟨A', c', rfl, h6⟩ := fin v' w' h2
    exact ⟨A', c', w', hrun, h6, h3⟩
  | none =>
    obtain rfl := hr.none_
    have hrun : (Builtin.append_ #[22, 22] ty #[.slice A n c, .slice none 0 d]).run Try.prog w = .ok (.slice A n c) w := by
      rcases hown.row.2 with ⟨h1, _⟩ | ⟨g, cap, cur, h1, _, _, hnc, _⟩
      · rw [h1]
        simp [Builtin.append_, run_underlying Try.underlying22, sizeOf, typeInfo, hi, Builtin.lenOf, Builtin.firstCells]
      · rw [h1]
        simp [Builtin.append_, run_underlying Try.underlying22, sizeOf, typeInfo, hi, Builtin.lenOf, Builtin.firstCells, hnc, storeCells]
    exact ⟨A, c, w, hrun, by rw [show fcells us 0 = [] from rfl, List.append_nil, Nat.add_zero]; exact hown, World.grownBy.refl w _⟩
theorem wp_appF {o : Oper} {a : Act} {K : Act → World → Prop} {Q : Exit → Act → World → Prop} (s x : Operand)
    (ho : o.op = .call { callee := .builtin .append, args := #[s, x], argTypes := #[22, 22] })
    (B : Nat) {n c : Nat} {A : Option Addr} {vs : List (List Value)} (hs : a.eval s = .slice A n c) (hown : RowG w 33 11 B A n c vs) {X : Option Addr} {m d : Nat} {us : Nat → FV}
    (hx : a.eval x = .slice X m d) (hr : Flds w X m us) (hsz : n + m ≤ 1000000) (hB : B ≤ w.heap.size)
    (h : ∀ A' c' w', RowG w' 33 11 B A' (n + m) c' (vs ++ fcells us m) → Below B w w' → K (a.put o.dst (.slice A' (n + m) c')) w') : o.wp Try.prog a w K Q := by
  obtain ⟨A', c', w', hrun, h2, h3⟩ := run_appF o.type hown (d := d) hr hsz hB
  unfold Oper.wp execOp
  simp only [ho, resolve, invoke, builtin, Sem.run_bind, Sem.run_pure, Result.andThen_ok, List.map_toArray, List.map_cons, List.map_nil, hs, hx, hrun]
  exact h A' c' w' h2 ((Below.refl _ _).grown h3 hB fun g hg => (hown.blk_ge g hg).1)
theorem step_appF {ops : Array Oper} {o : Oper} {a : Act} {K : Act → World → Prop} {Q : Exit → Act → World → Prop} {E : Prop} (hgd : o.guard = none) (s x : Operand)
    (ho : o.op = .call { callee := .builtin .append, args := #[s, x], argTypes := #[22, 22] })
    (B : Nat) {n c : Nat} {A : Option Addr} {vs : List (List Value)} (hs : a.eval s = .slice A n c) (hown : RowG w 33 11 B A n c vs) {X : Option Addr} {m d : Nat} {us : Nat → FV}
    (hx : a.eval x = .slice X m d) (hr : Flds w X m us) (hsz : n + m ≤ 1000000) (hB : B ≤ w.heap.size)
    (h : ∀ A' c' w', RowG w' 33 11 B A' (n + m) c' (vs ++ fcells us m) → Below B w w' → K (a.put o.dst (.slice A' (n + m) c')) w') :
    if Region.wanted o (yielded ops a.tmps) = true then Oper.wp Try.prog o a w K Q else E := by
  have hw : Region.wanted o (yielded ops a.tmps) = true := by simp [Region.wanted, hgd]
  rw [if_pos hw]
  exact wp_appF s x ho B hs hown hx hr hsz hB h
theorem step_appF0 {ops : Array Oper} {o : Oper} {a : Act} {K : Act → World → Prop} {Q : Exit → Act → World → Prop} {E : Prop} (hgd : o.guard = none) (s x : Operand)
    (ho : o.op = .call { callee := .builtin .append, args := #[s, x], argTypes := #[22, 22] })
    (hs : a.eval s = .slice none 0 0) {X : Option Addr} {m d : Nat} {us : Nat → FV}
    (hx : a.eval x = .slice X m d) (hr : Flds w X m us) (hsz : m ≤ 1000000)
    (h : ∀ A' c' w', RowG w' 33 11 w.heap.size A' m c' (fcells us m) → Below w.heap.size w w' → K (a.put o.dst (.slice A' m c')) w') :
    if Region.wanted o (yielded ops a.tmps) = true then Oper.wp Try.prog o a w K Q else E :=
  step_appF hgd s x ho w.heap.size hs (RowG.nil w _ _ _) hx hr (by omega) (Nat.le_refl _) fun A' c' w' h2 h4 => by
    simp only [Nat.zero_add, List.nil_append] at h2 ⊢
    exact h A' c' w' h2 h4
end

/-- One more field, at place k. -/
def moreU (us : Nat → FV) (k : Nat) (v : FV) (j : Nat) : FV := if j < k then us j else if j = k then v else us (j - 1)
theorem fcells_congr {f g : Nat → FV} : ∀ {n : Nat}, (∀ j, j < n → f j = g j) → fcells f n = fcells g n := fun {n} h => by
  unfold fcells
  exact List.map_congr_left fun j hj => by rw [h j (List.mem_range.1 hj)]
theorem fcells_add (f : Nat → FV) (a b : Nat) : fcells f (a + b) = fcells f a ++ fcells (fun j => f (a + j)) b := by
  unfold fcells
  rw [List.range_add, List.map_append, List.map_map]
  rfl
theorem fcells_more (us : Nat → FV) (v : FV) {k n : Nat} (hk : k ≤ n) : fcells us k ++ [v.cells] ++ fcells (fun j => us (k + j)) (n - k) = fcells (moreU us k v) (n + 1) := by
  rw [show n + 1 = (k + 1) + (n - k) by omega, fcells_add, fcells_succ]
  rw [fcells_congr (f := moreU us k v) (g := us) (n := k) fun j hj => by simp [moreU, hj]]
  rw [show moreU us k v k = v by simp [moreU]]
  rw [fcells_congr (f := fun j => moreU us k v (k + 1 + j)) (g := fun j => us (k + j)) (n := n - k) fun j hj => by
    unfold moreU
    rw [if_neg (by omega), if_neg (by omega), show k + 1 + j - 1 = k + j by omega]]
def shI (k : Nat) (x : Int) : Int := if (k : Int) ≤ x then x + 1 else x
theorem num_sh (us : Nat → FV) (k : Nat) (v : FV) (i : Nat) : numO (moreU us k v) (shI k (i : Int)) = numO us (i : Int) := by
  unfold numO shI
  by_cases h : k ≤ i
  · rw [if_pos (by omega), show ((i : Int) + 1).toNat = i + 1 by omega, show ((i : Int)).toNat = i by omega]
    unfold moreU
    rw [if_neg (by omega), if_neg (by omega), Nat.add_sub_cancel]
  · rw [if_neg (by omega), show ((i : Int)).toNat = i by omega]
    unfold moreU
    rw [if_pos (by omega)]
theorem ordR_more (us : Nat → FV) {v : FV} (hv : homeS v = false) {k n : Nat} (hk : k ≤ n) : ordR (moreU us k v) (n + 1) = (ordR us n).map (shI k) := by
  refine sorted_one (ltF_weak _) (ordR_sorted _ _) ?_ fun x => ?_
  · rw [List.pairwise_map]
    refine List.Pairwise.imp_of_mem ?_ (ordR_sorted us n)
    intro a b ha hb hab
    obtain ⟨i, _, _, rfl⟩ := (ordR_mem us n a).1 ha
    obtain ⟨j, _, _, rfl⟩ := (ordR_mem us n b).1 hb
    have e : ∀ i j : Nat, ltF (moreU us k v) (shI k (i : Int)) (shI k (j : Int)) = ltF us (i : Int) (j : Int) := fun i j => by
      show ltN (numO (moreU us k v) (shI k (i : Int))) (numO (moreU us k v) (shI k (j : Int))) = ltN (numO us (i : Int)) (numO us (j : Int))
      rw [num_sh, num_sh]
    unfold LtP at hab ⊢
    rw [e, e]
    rcases hab with h | ⟨h1, h2⟩
    · exact .inl h
    · refine .inr ⟨h1, ?_⟩
      unfold shI
      split <;> split <;> omega
  · rw [ordR_mem, List.mem_map]
    constructor
    · rintro ⟨i, h1, h2, rfl⟩
      unfold moreU at h2
      by_cases c1 : i < k
      · rw [if_pos c1] at h2
        exact ⟨(i : Int), (ordR_mem us n _).2 ⟨i, by omega, h2, rfl⟩, by unfold shI; rw [if_neg (by omega)]⟩
      · rw [if_neg c1] at h2
        by_cases c2 : i = k
        · rw [if_pos c2, hv] at h2
          cases h2
        · rw [if_neg c2] at h2
          exact ⟨((i - 1 : Nat) : Int), (ordR_mem us n _).2 ⟨i - 1, by omega, h2, rfl⟩, by unfold shI; rw [if_pos (by omega)]; omega⟩
    · rintro ⟨y, hy, rfl⟩
      obtain ⟨i, h1, h2, rfl⟩ := (ordR_mem us n y).1 hy
      by_cases c1 : k ≤ i
      · refine ⟨i + 1, by omega, ?_, by unfold shI; rw [if_pos (by omega)]; omega⟩
        unfold moreU
        rw [if_neg (by omega), if_neg (by omega), Nat.add_sub_cancel]
        exact h2
      · refine ⟨i, by omega, ?_, by unfold shI; rw [if_neg (by omega)]⟩
        unfold moreU
        rw [if_pos (by omega)]
        exact h2
end Go.Proofs.Ytfeflmpdbejhjaa
