/- Maps keyed by runes: a block that is a finite function; looked up, stored into, struck, told how long, ranged over. -/
import Derived.Test.YtchcpeenpijekaaOwn
import Derived.Maps.OwnSet
import Derived.Maps.RangeWalk
import Derived.Maps.Ext
import Derived.Carry
import Derived.RangeFuncBox
namespace Go.Proofs.Ytchcpeenpijekaa
open Go.RowKit Go.Maps Go.MapKept Go.ChangeMaps
set_option linter.unusedVariables false

/-- An element of a map is held as it is. -/
def anyR (v : Value) : Option (DataW Value × List MemPlace) := some (.held v, [])
def I32 (r : Int) : Prop := -2147483648 ≤ r ∧ r ≤ 2147483647
theorem wf32 {r : Int} (h : I32 r) : (Lit.int .i32 r).wf = true := by
  obtain ⟨h1, h2⟩ := h
  simp [Lit.wf, IntKind.min, IntKind.max, IntKind.signed, IntKind.bits]
  omega
theorem wf32_inv {r : Int} (h : (Lit.int .i32 r).wf = true) : I32 r := by
  have : -2147483648 ≤ r ∧ r ≤ 2147483647 := by simpa [Lit.wf, IntKind.min, IntKind.max, IntKind.signed, IntKind.bits] using h
  exact this
theorem rkeyed : Keyed Try.prog 21 := int_keyed Try.underlying21
theorem keyOf_r {r : Int} (h : I32 r) : keyOf Try.prog 21 (.int .i32 r) = some (.int .i32 r) := keyOf_int_mk Try.underlying21 (wf32 h)
theorem keyOf_r_inv {key : Value} {kl : Lit} (h : keyOf Try.prog 21 key = some kl) : ∃ r, key = .int .i32 r ∧ kl = .int .i32 r ∧ I32 r := by
  obtain ⟨x, h1, h2, h3⟩ := Maps.keyOf_int_inv Try.underlying21 h
  exact ⟨x, h1, h2, wf32_inv h3⟩
theorem isKey_r {r : Int} (h : I32 r) : WideAt.IsKeyLit (.int .i32 r) := rkeyed.key (keyOf_r h)
theorem rlit_ne {r s : Int} (h : r ≠ s) : Lit.int .i32 r ≠ Lit.int .i32 s := fun e => h (by injection e)
theorem sameKey_r (r s : Int) : (Lit.int .i32 r).sameKey (.int .i32 s) = (r == s) := by
  by_cases h : r = s
  · subst h; simp [Lit.sameKey]
  · rw [sameKey_ne (rlit_ne h)]; simp [h]

/-- D reads as the finite function M. -/
def Reads (D : DataW Value) (M : Int → Option Value) : Prop := ∀ r, I32 r → has D (.int .i32 r) = (M r).isSome ∧ ∀ v, M r = some v → ∀ zd, D.atKey (.int .i32 r) zd = .held v
/-- Block b is a map of n keys that is M. -/
structure MapM (w : World) (b n : Nat) (M : Int → Option Value) : Prop where
  ex : ∃ D, w.ownsMap Try.prog 21 anyR b n D ∧ size D = n ∧ Reads D M
def updM (M : Int → Option Value) (r : Int) (v : Option Value) (s : Int) : Option Value := if s = r then v else M s
theorem updM_same (M : Int → Option Value) (r : Int) (v : Option Value) : updM M r v r = v := if_pos rfl
theorem updM_ne (M : Int → Option Value) {r s : Int} (v : Option Value) (h : s ≠ r) : updM M r v s = M s := if_neg h
def plusN (M : Int → Option Value) (r : Int) (n : Nat) : Nat := if (M r).isSome then n else n + 1
def minusN (M : Int → Option Value) (r : Int) (n : Nat) : Nat := if (M r).isSome then n - 1 else n
theorem ownsMap_tight {H : Type} {P : Program} {k : TypeId} {R : Value → Option (DataW H × List MemPlace)} {w : World} {b n : Nat} {D : DataW H} (h : w.ownsMap P k R b n D) : w.ownsMap P k R b (size D) D := by
  obtain ⟨es, clock, hb, F, hs, rfl⟩ := h
  exact ⟨es, clock, hb, F, by simp [size, length_sorted], rfl⟩

section
variable {w w' : World} {b n : Nat} {M : Int → Option Value}
theorem MapM.lt (h : MapM w b n M) : b < w.heap.size := by obtain ⟨D, h1, _⟩ := h.ex; exact h1.lt
theorem MapM.keep (h : MapM w b n M) (hk : w'.heap[b]? = w.heap[b]?) : MapM w' b n M := by
  obtain ⟨D, ⟨es, clock, hb, h2⟩, h3⟩ := h.ex
  exact ⟨D, ⟨es, clock, hk.trans hb, h2⟩, h3⟩
theorem MapM.below (h : MapM w b n M) (hb : Below w.heap.size w w') : MapM w' b n M := h.keep (hb.block b h.lt)
theorem MapM.alloc (h : MapM w b n M) (o : Obj) : MapM (w.alloc o) b n M := h.keep (Below.heap_alloc w o b h.lt)
theorem MapM.drewN (h : MapM w b n M) (k : Nat) : MapM (w.drewN k) b n M := h.keep rfl
theorem MapM.far (h : MapM w b n M) {p : Addr} (hp : b ≠ p.block) (u : Value) : MapM (w.setCell p u) b n M := h.keep (Below.heap_setCell w p u b hp)
theorem MapM.congr (h : MapM w b n M) {M' : Int → Option Value} (he : ∀ r, I32 r → M' r = M r) : MapM w b n M' := by
  obtain ⟨D, h1, h2, h3⟩ := h.ex
  exact ⟨D, h1, h2, fun r hr => by rw [he r hr]; exact h3 r hr⟩
theorem MapM.noCells (h : MapM w b n M) : ∃ o : Obj, w.heap[b]? = some o ∧ o.isCells = false := by
  obtain ⟨D, ⟨es, clock, hb, _⟩, _⟩ := h.ex
  exact ⟨_, hb, rfl⟩
/-- A block of cells is no map. -/
theorem MapM.ne_box {g : Nat} {t : TypeId} {cs : Array Value} (h : MapM w b n M) (hx : Box w g t cs) : g ≠ b := fun e => by
  obtain ⟨o, h1, h2⟩ := h.noCells
  subst e
  unfold Box at hx
  rw [hx] at h1
  injection h1 with h1
  subst h1
  cases h2
theorem MapM.new (w : World) : MapM (w.alloc (.map #[] 0)) w.heap.size 0 (fun _ => none) :=
  ⟨.map [], World.ownsMap_made w _ _ _, rfl, fun r hr => ⟨rfl, fun v h => by cases h⟩⟩
theorem MapM.newAt {g : Nat} (hg : w.heap.size = g) : MapM (w.alloc (.map #[] 0)) g 0 (fun _ => none) := by subst hg; exact MapM.new w

theorem zeroM (w : World) : (zeroValue 72).run Try.prog w = .ok (.pointer none) w := by kernel_rfl
/-- v, ok := m[r] -/
theorem MapM.look_yes (h : MapM w b n M) {r : Int} (hr : I32 r) {v : Value} (hv : M r = some v) : (Instr.lookup 73 (.map (some b)) (.int .i32 r) true).run Try.prog w = .ok (.tuple #[v, .bool true]) w := by
  obtain ⟨D, h1, h2, h3⟩ := h.ex
  obtain ⟨u, ps, hrun, hu⟩ := h1.look_ok rkeyed Try.underlying73 (zeroM w) (zd := .held (.pointer none)) (zp := []) rfl (keyOf_r hr)
  obtain ⟨h4, h5⟩ := h3 r hr
  rw [h5 v hv] at hu
  have : u = v := (by simpa [anyR] using hu : u = v ∧ ps = []).1
  rw [h4, hv, this] at hrun
  exact hrun
theorem MapM.look_no (h : MapM w b n M) {r : Int} (hr : I32 r) (hv : M r = none) : (Instr.lookup 73 (.map (some b)) (.int .i32 r) true).run Try.prog w = .ok (.tuple #[.pointer none, .bool false]) w := by
  obtain ⟨D, h1, h2, h3⟩ := h.ex
  obtain ⟨u, ps, hrun, hu⟩ := h1.look_ok rkeyed Try.underlying73 (zeroM w) (zd := .held (.pointer none)) (zp := []) rfl (keyOf_r hr)
  obtain ⟨h4, h5⟩ := h3 r hr
  have h6 : has D (.int .i32 r) = false := by rw [h4, hv]; rfl
  rw [atKey_of_not_has h6] at hu
  have : u = .pointer none := (by simpa [anyR] using hu : u = .pointer none ∧ ps = []).1
  rw [h6, this] at hrun
  exact hrun
/-- m[r] -/
theorem MapM.at_yes (h : MapM w b n M) {r : Int} (hr : I32 r) {v : Value} (hv : M r = some v) : (Instr.lookup 73 (.map (some b)) (.int .i32 r) false).run Try.prog w = .ok v w := by
  obtain ⟨D, h1, h2, h3⟩ := h.ex
  obtain ⟨u, ps, hrun, hu⟩ := h1.lookup rkeyed Try.underlying73 (zeroM w) (zd := .held (.pointer none)) (zp := []) rfl (keyOf_r hr)
  rw [(h3 r hr).2 v hv] at hu
  have : u = v := (by simpa [anyR] using hu : u = v ∧ ps = []).1
  rw [this] at hrun
  exact hrun
theorem MapM.at_no (h : MapM w b n M) {r : Int} (hr : I32 r) (hv : M r = none) : (Instr.lookup 73 (.map (some b)) (.int .i32 r) false).run Try.prog w = .ok (.pointer none) w := by
  obtain ⟨D, h1, h2, h3⟩ := h.ex
  obtain ⟨u, ps, hrun, hu⟩ := h1.lookup rkeyed Try.underlying73 (zeroM w) (zd := .held (.pointer none)) (zp := []) rfl (keyOf_r hr)
  have h6 : has D (.int .i32 r) = false := by rw [(h3 r hr).1, hv]; rfl
  rw [atKey_of_not_has h6] at hu
  have : u = .pointer none := (by simpa [anyR] using hu : u = .pointer none ∧ ps = []).1
  rw [this] at hrun
  exact hrun
theorem MapM.len (h : MapM w b n M) (ty : TypeId) : (Builtin.len_ #[73] ty #[.map (some b)]).run Try.prog w = .ok (.int .i64 (n : Int)) w := by
  obtain ⟨D, h1, h2, h3⟩ := h.ex
  have := h1.len Try.underlying73 ty
  rwa [h2] at this
set_option maxRecDepth 20000 in
/-- m[r] = v -/
theorem MapM.store (h : MapM w b n M) {r : Int} (hr : I32 r) (v : Value) (hn : n < maxLen) : ∃ w', (Instr.mapUpdate 73 (.map (some b)) (.int .i32 r) v).run Try.prog w = .ok () w' ∧ MapM w' b (plusN M r n) (updM M r (some v)) ∧ w.grownBy w' (some b) ∧ w'.heap.size = w.heap.size := by
  obtain ⟨D, h1, h2, h3⟩ := h.ex
  obtain ⟨w', hrun, k1, k2⟩ := h1.store rkeyed Try.underlying73 hn (keyOf_r hr) (val := v) (d := .held v) (ps := []) rfl
  have hT := h1.tidy rkeyed
  have hsz : size (D.put (.int .i32 r) (.held v)) = plusN M r n := by
    rw [size_put hT, (h3 r hr).1, h2]
    rfl
  have k3 := ownsMap_tight k1
  rw [hsz] at k3
  refine ⟨w', hrun, ⟨_, k3, hsz, fun s hs => ?_⟩, k2.grown, ?_⟩
  · by_cases e : s = r
    · subst e
      rw [has_put_same hT.isMap (isKey_r hs), updM_same]
      exact ⟨rfl, fun u hu zd => by
        injection hu with hu
        rw [atKey_put_same hT.isMap (isKey_r hs), hu]⟩
    · rw [has_put_other (rlit_ne e), updM_ne _ _ e]
      exact ⟨(h3 s hs).1, fun u hu zd => by rw [atKey_put_other (rlit_ne e)]; exact (h3 s hs).2 u hu zd⟩
  · obtain ⟨es, clock, es', clock', _, rfl⟩ := k2
    simp [setBlock]
set_option maxRecDepth 20000 in
/-- delete(m, r) -/
theorem MapM.drop (h : MapM w b n M) {r : Int} (hr : I32 r) (ty : TypeId) : ∃ w', (Builtin.delete_ #[73, 21] ty #[.map (some b), .int .i32 r]).run Try.prog w = .ok (.tuple #[]) w' ∧ MapM w' b (minusN M r n) (updM M r none) ∧ w.grownBy w' (some b) ∧ w'.heap.size = w.heap.size := by
  obtain ⟨D, h1, h2, h3⟩ := h.ex
  obtain ⟨w', hrun, k1, k2⟩ := h1.drop rkeyed Try.underlying73 (keyOf_r hr) ty
  have hT := h1.tidy rkeyed
  have hsz : size (D.del (.int .i32 r)) = minusN M r n := by
    have h4 := size_del (k := .int .i32 r) hT
    rw [(h3 r hr).1, h2] at h4
    unfold minusN
    cases hm : (M r).isSome <;> rw [hm] at h4 <;> simp at h4 ⊢ <;> omega
  have k3 := ownsMap_tight k1
  rw [hsz] at k3
  refine ⟨w', hrun, ⟨_, k3, hsz, fun s hs => ?_⟩, k2.grown, ?_⟩
  · by_cases e : s = r
    · subst e
      rw [has_del_same, updM_same]
      exact ⟨rfl, fun u hu => by cases hu⟩
    · rw [has_del_other (rlit_ne e), updM_ne _ _ e]
      exact ⟨(h3 s hs).1, fun u hu zd => by rw [atKey_del_other (rlit_ne e)]; exact (h3 s hs).2 u hu zd⟩
  · obtain ⟨es, clock, es', clock', _, rfl⟩ := k2
    simp [setBlock]
set_option maxRecDepth 20000 in
/-- .. at the operation. -/
theorem wpList_storeM {ops : Array Oper} {rest : List Oper} {o : Oper} {a : Act} {Q : Exit → Act → World → Prop} (hg : o.guard = none) (m x v : Operand) (hop : o.op = Op.mapUpdate 73 m x v) {r : Int} (hr : I32 r) {val : Value}
    (hm : a.eval m = .map (some b)) (hx : a.eval x = .int .i32 r) (hv : a.eval v = val) (h : MapM w b n M) (hn : n < maxLen)
    (hK : ∀ w', MapM w' b (plusN M r n) (updM M r (some val)) → w.grownBy w' (some b) → w'.heap.size = w.heap.size → wpList Try.prog ops Q rest (a.put o.dst undef) w') : wpList Try.prog ops Q (o :: rest) a w := by
  refine wpList_plain hg fun K' hK' => ?_
  obtain ⟨w', hrun, r1, r2, r3⟩ := h.store hr val hn
  unfold Oper.wp
  simp [execOp, hop, hm, hx, hv, hrun, Result.andThen]
  exact hK' _ _ (hK w' r1 r2 r3)
set_option maxRecDepth 20000 in
theorem wpList_dropM {ops : Array Oper} {rest : List Oper} {o : Oper} {a : Act} {Q : Exit → Act → World → Prop} (hg : o.guard = none) (m x : Operand) (hop : o.op = Op.call { callee := Callee.builtin Builtin.delete, args := #[m, x], argTypes := #[73, 21] }) {r : Int} (hr : I32 r)
    (hm : a.eval m = .map (some b)) (hx : a.eval x = .int .i32 r) (h : MapM w b n M)
    (hK : ∀ w', MapM w' b (minusN M r n) (updM M r none) → w.grownBy w' (some b) → w'.heap.size = w.heap.size → wpList Try.prog ops Q rest (a.put o.dst (.tuple #[])) w') : wpList Try.prog ops Q (o :: rest) a w := by
  refine wpList_plain hg fun K' hK' => ?_
  obtain ⟨w', hrun, r1, r2, r3⟩ := h.drop hr o.type
  unfold Oper.wp
  simp [execOp, hop, resolve, invoke, builtin, hm, hx, hrun, Result.andThen]
  exact hK' _ _ (hK w' r1 r2 r3)
end

/-- The keys that have come, each once: those of D that are no longer to come. -/
def Coll (D : DataW Value) (left : Lit → Bool) (ss : List Int) : Prop := ss.Nodup ∧ ∀ x, x ∈ ss ↔ (I32 x ∧ has D (.int .i32 x) = true ∧ left (.int .i32 x) = false)
theorem Coll.start (D : DataW Value) : Coll D (has D) [] := ⟨List.Pairwise.nil, fun x => ⟨(fun h => by cases h), (fun ⟨_, h1, h2⟩ => by rw [h1] at h2; cases h2)⟩⟩
theorem Coll.step {D : DataW Value} {left : Lit → Bool} {ss : List Int} {x : Int} (h : Coll D left ss) (hx : I32 x) (hl : left (.int .i32 x) = true) (hh : has D (.int .i32 x) = true) : Coll D (fun z => left z && !z.sameKey (.int .i32 x)) (ss ++ [x]) := by
  refine ⟨List.nodup_append.2 ⟨h.1, List.pairwise_singleton _ _, fun a ha b hb e => ?_⟩, fun y => ?_⟩
  · rw [List.mem_singleton.1 hb] at e
    subst e
    have := ((h.2 a).1 ha).2.2
    rw [hl] at this
    cases this
  · show _ ↔ (I32 y ∧ has D (.int .i32 y) = true ∧ (left (.int .i32 y) && !(Lit.int .i32 y).sameKey (.int .i32 x)) = false)
    rw [List.mem_append, List.mem_singleton, h.2 y, sameKey_r]
    by_cases e : y = x
    · subst e
      simp [hx, hh]
    · simp [e]
theorem Coll.all {D : DataW Value} {left : Lit → Bool} {ss : List Int} (h : Coll D left ss) (hl : ∀ kl, left kl = false) : ss.Nodup ∧ ∀ x, x ∈ ss ↔ (I32 x ∧ has D (.int .i32 x) = true) :=
  ⟨h.1, fun x => by rw [h.2 x, hl]; simp⟩
theorem has_of_at {D : DataW Value} {kl : Lit} {y : DataW Value} (h : ∀ zd, D.atKey kl zd = y) : has D kl = true := has_true_of_atKey h
end Go.Proofs.Ytchcpeenpijekaa
