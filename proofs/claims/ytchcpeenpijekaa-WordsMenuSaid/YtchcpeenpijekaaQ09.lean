/- Pieces, joined: MapNod, TriM. -/
import Derived.Test.YtchcpeenpijekaaQ03
import Derived.Maps.OwnSet
import Derived.Maps.RangeWalk
import Derived.Maps.Ext
import Derived.Carry
import Derived.RangeFuncBox
import Derived.Test.YtchcpeenpijekaaQ07
import Derived.IntWalk
import Derived.Deep.LoopGhost
import Derived.Deep.CutBlock
import Derived.Deep.DeepCutAuto

/- Maps keyed by runes: a block that is a finite function; looked up, stored into, struck, told how long, ranged over. -/
namespace Go.Proofs.Ytchcpeenpijekaa
open Go.RowKit Go.Maps Go.MapKept Go.ChangeMaps
set_option linter.unusedVariables false

/-- An element of a map is held as it is. -/
def anyR (v : Value) : Option (DataW Value × List MemPlace) := some (.held v, [])
def I32 (r : Int) : Prop := -2147483648 ≤ r ∧ r ≤ 2147483647
theorem wf32 {r : Int} (h : I32 r) : (Lit.int .i32 r).wf = true := by
  obtain ⟨h1, h2⟩ := h
  simp [Lit.wf, IntKind.min, IntKind.max, IntKind.signed, IntKind.bits]
  omega
theorem wf32_inv {r : Int} (h : (Lit.int .i32 r).wf = true) : I32 r := by
  have : -2147483648 ≤ r ∧ r ≤ 2147483647 := by simpa [Lit.wf, IntKind.min, IntKind.max, IntKind.signed, IntKind.bits] using h
  exact this
theorem rkeyed : Keyed Try.prog 21 := int_keyed Try.underlying21
theorem keyOf_r {r : Int} (h : I32 r) : keyOf Try.prog 21 (.int .i32 r) = some (.int .i32 r) := keyOf_int_mk Try.underlying21 (wf32 h)
theorem keyOf_r_inv {key : Value} {kl : Lit} (h : keyOf Try.prog 21 key = some kl) : ∃ r, key = .int .i32 r ∧ kl = .int .i32 r ∧ I32 r := by
  obtain ⟨x, h1, h2, h3⟩ := Maps.keyOf_int_inv Try.underlying21 h
  exact ⟨x, h1, h2, wf32_inv h3⟩
theorem isKey_r {r : Int} (h : I32 r) : WideAt.IsKeyLit (.int .i32 r) := rkeyed.key (keyOf_r h)
theorem rlit_ne {r s : Int} (h : r ≠ s) : Lit.int .i32 r ≠ Lit.int .i32 s := fun e => h (by injection e)
theorem sameKey_r (r s : Int) : (Lit.int .i32 r).sameKey (.int .i32 s) = (r == s) := by
  by_cases h : r = s
  · subst h; simp [Lit.sameKey]
  · rw [sameKey_ne (rlit_ne h)]; simp [h]

/-- D reads as the finite function M. -/
def Reads (D : DataW Value) (M : Int → Option Value) : Prop := ∀ r, I32 r → has D (.int .i32 r) = (M r).isSome ∧ ∀ v, M r = some v → ∀ zd, D.atKey (.int .i32 r) zd = .held v
/-- Block b is a map of n keys that is M. -/
structure MapM (w : World) (b n : Nat) (M : Int → Option Value) : Prop where
  ex : ∃ D, w.ownsMap Try.prog 21 anyR b n D ∧ size D = n ∧ Reads D M
def updM (M : Int → Option Value) (r : Int) (v : Option Value) (s : Int) : Option Value := if s = r then v else M s
theorem updM_same (M : Int → Option Value) (r : Int) (v : Option Value) : updM M r v r = v := if_pos rfl
theorem updM_ne (M : Int → Option Value) {r s : Int} (v : Option Value) (h : s ≠ r) : updM M r v s = M s := if_neg h
def plusN (M : Int → Option Value) (r : Int) (n : Nat) : Nat := if (M r).isSome then n else n + 1
def minusN (M : Int → Option Value) (r : Int) (n : Nat) : Nat := if (M r).isSome then n - 1 else n
theorem ownsMap_tight {H : Type} {P : Program} {k : TypeId} {R : Value → Option (DataW H × List MemPlace)} {w : World} {b n : Nat} {D : DataW H} (h : w.ownsMap P k R b n D) : w.ownsMap P k R b (size D) D := by
  obtain ⟨es, clock, hb, F, hs, rfl⟩ := h
  exact ⟨es, clock, hb, F, by simp [size, length_sorted], rfl⟩

section
variable {w w' : World} {b n : Nat} {M : Int → Option Value}
theorem MapM.lt (h : MapM w b n M) : b < w.heap.size := by obtain ⟨D, h1, _⟩ := h.ex; exact h1.lt
theorem MapM.keep (h : MapM w b n M) (hk : w'.heap[b]? = w.heap[b]?) : MapM w' b n M := by
  obtain ⟨D, ⟨es, clock, hb, h2⟩, h3⟩ := h.ex
  exact ⟨D, ⟨es, clock, hk.trans hb, h2⟩, h3⟩
theorem MapM.below (h : MapM w b n M) (hb : Below w.heap.size w w') : MapM w' b n M := h.keep (hb.block b h.lt)
theorem MapM.alloc (h : MapM w b n M) (o : Obj) : MapM (w.alloc o) b n M := h.keep (Below.heap_alloc w o b h.lt)
theorem MapM.drewN (h : MapM w b n M) (k : Nat) : MapM (w.drewN k) b n M := h.keep rfl
theorem MapM.far (h : MapM w b n M) {p : Addr} (hp : b ≠ p.block) (u : Value) : MapM (w.setCell p u) b n M := h.keep (Below.heap_setCell w p u b hp)
theorem MapM.congr (h : MapM w b n M) {M' : Int → Option Value} (he : ∀ r, I32 r → M' r = M r) : MapM w b n M' := by
  obtain ⟨D, h1, h2, h3⟩ := h.ex
  exact ⟨D, h1, h2, fun r hr => by rw [he r hr]; exact h3 r hr⟩
theorem MapM.noCells (h : MapM w b n M) : ∃ o : Obj, w.heap[b]? = some o ∧ o.isCells = false := by
  obtain ⟨D, ⟨es, clock, hb, _⟩, _⟩ := h.ex
  exact ⟨_, hb, rfl⟩
/-- A block of cells is no map. -/
theorem MapM.ne_box {g : Nat} {t : TypeId} {cs : Array Value} (h : MapM w b n M) (hx : Box w g t cs) : g ≠ b := fun e => by
  obtain ⟨o, h1, h2⟩ := h.noCells
  subst e
  unfold Box at hx
  rw [hx] at h1
  injection h1 with h1
  subst h1
  cases h2
theorem MapM.new (w : World) : MapM (w.alloc (.map #[] 0)) w.heap.size 0 (fun _ => none) :=
  ⟨.map [], World.ownsMap_made w _ _ _, rfl, fun r hr => ⟨rfl, fun v h => by cases h⟩⟩
theorem MapM.newAt {g : Nat} (hg : w.heap.size = g) : MapM (w.alloc (.map #[] 0)) g 0 (fun _ => none) := by subst hg; exact MapM.new w

theorem zeroM (w : World) : (zeroValue 72).run Try.prog w = .ok (.pointer none) w := by kernel_rfl
/-- v, ok := m[r] -/
theorem MapM.look_yes (h : MapM w b n M) {r : Int} (hr : I32 r) {v : Value} (hv : M r = some v) : (Instr.lookup 73 (.map (some b)) (.int .i32 r) true).run Try.prog w = .ok (.tuple #[v, .bool true]) w := by
  obtain ⟨D, h1, h2, h3⟩ := h.ex
  obtain ⟨u, ps, hrun, hu⟩ := h1.look_ok rkeyed Try.underlying73 (zeroM w) (zd := .held (.pointer none)) (zp := []) rfl (keyOf_r hr)
  obtain ⟨h4, h5⟩ := h3 r hr
  rw [h5 v hv] at hu
  have : u = v := (by simpa [anyR] using hu : u = v ∧ ps = []).1
  rw [h4, hv, this] at hrun
  exact hrun
theorem MapM.look_no (h : MapM w b n M) {r : Int} (hr : I32 r) (hv : M r = none) : (Instr.lookup 73 (.map (some b)) (.int .i32 r) true).run Try.prog w = .ok (.tuple #[.pointer none, .bool false]) w := by
  obtain ⟨D, h1, h2, h3⟩ := h.ex
  obtain ⟨u, ps, hrun, hu⟩ := h1.look_ok rkeyed Try.underlying73 (zeroM w) (zd := .held (.pointer none)) (zp := []) rfl (keyOf_r hr)
  obtain ⟨h4, h5⟩ := h3 r hr
  have h6 : has D (.int .i32 r) = false := by rw [h4, hv]; rfl
  rw [atKey_of_not_has h6] at hu
  have : u = .pointer none := (by simpa [anyR] using hu : u = .pointer none ∧ ps = []).1
  rw [h6, this] at hrun
  exact hrun
/-- m[r] -/
theorem MapM.at_yes (h : MapM w b n M) {r : Int} (hr : I32 r) {v : Value} (hv : M r = some v) : (Instr.lookup 73 (.map (some b)) (.int .i32 r) false).run Try.prog w = .ok v w := by
  obtain ⟨D, h1, h2, h3⟩ := h.ex
  obtain ⟨u, ps, hrun, hu⟩ := h1.lookup rkeyed Try.underlying73 (zeroM w) (zd := .held (.pointer none)) (zp := []) rfl (keyOf_r hr)
  rw [(h3 r hr).2 v hv] at hu
  have : u = v := (by simpa [anyR] using hu : u = v ∧ ps = []).1
  rw [this] at hrun
  exact hrun
theorem MapM.at_no (h : MapM w b n M) {r : Int} (hr : I32 r) (hv : M r = none) : (Instr.lookup 73 (.map (some b)) (.int .i32 r) false).run Try.prog w = .ok (.pointer none) w := by
  obtain ⟨D, h1, h2, h3⟩ := h.ex
  obtain ⟨u, ps, hrun, hu⟩ := h1.lookup rkeyed Try.underlying73 (zeroM w) (zd := .held (.pointer none)) (zp := []) rfl (keyOf_r hr)
  have h6 : has D (.int .i32 r) = false := by rw [(h3 r hr).1, hv]; rfl
  rw [atKey_of_not_has h6] at hu
  have : u = .pointer none := (by simpa [anyR] using hu : u = .pointer none ∧ ps = []).1
  rw [this] at hrun
  exact hrun
theorem MapM.len (h : MapM w b n M) (ty : TypeId) : (Builtin.len_ #[73] ty #[.map (some b)]).run Try.prog w = .ok (.int .i64 (n : Int)) w := by
  obtain ⟨D, h1, h2, h3⟩ := h.ex
  have := h1.len Try.underlying73 ty
  rwa [h2] at this
set_option maxRecDepth 20000 in
/-- m[r] = v -/
theorem MapM.store (h : MapM w b n M) {r : Int} (hr : I32 r) (v : Value) (hn : n < maxLen) : ∃ w', (Instr.mapUpdate 73 (.map (some b)) (.int .i32 r) v).run Try.prog w = .ok () w' ∧ MapM w' b (plusN M r n) (updM M r (some v)) ∧ w.grownBy w' (some b) ∧ w'.heap.size = w.heap.size := by
  obtain ⟨D, h1, h2, h3⟩ := h.ex
  obtain ⟨w', hrun, k1, k2⟩ := h1.store rkeyed Try.underlying73 hn (keyOf_r hr) (val := v) (d := .held v) (ps := []) rfl
  have hT := h1.tidy rkeyed
  have hsz : size (D.put (.int .i32 r) (.held v)) = plusN M r n := by
    rw [size_put hT, (h3 r hr).1, h2]
    rfl
  have k3 := ownsMap_tight k1
  rw [hsz] at k3
  refine ⟨w', hrun, ⟨_, k3, hsz, fun s hs => ?_⟩, k2.grown, ?_⟩
  · by_cases e : s = r
    · subst e
      rw [has_put_same hT.isMap (isKey_r hs), updM_same]
      exact ⟨rfl, fun u hu zd => by
        injection hu with hu
        rw [atKey_put_same hT.isMap (isKey_r hs), hu]⟩
    · rw [has_put_other (rlit_ne e), updM_ne _ _ e]
      exact ⟨(h3 s hs).1, fun u hu zd => by rw [atKey_put_other (rlit_ne e)]; exact (h3 s hs).2 u hu zd⟩
  · obtain ⟨es, clock, es', clock', _, rfl⟩ := k2
    simp [setBlock]
set_option maxRecDepth 20000 in
/-- delete(m, r) -/
theorem MapM.drop (h : MapM w b n M) {r : Int} (hr : I32 r) (ty : TypeId) : ∃ w', (Builtin.delete_ #[73, 21] ty #[.map (some b), .int .i32 r]).run Try.prog w = .ok (.tuple #[]) w' ∧ MapM w' b (minusN M r n) (updM M r none) ∧ w.grownBy w' (some b) ∧ w'.heap.size = w.heap.size := by
  obtain ⟨D, h1, h2, h3⟩ := h.ex
  obtain ⟨w', hrun, k1, k2⟩ := h1.drop rkeyed Try.underlying73 (keyOf_r hr) ty
  have hT := h1.tidy rkeyed
  have hsz : size (D.del (.int .i32 r)) = minusN M r n := by
    have h4 := size_del (k := .int .i32 r) hT
    rw [(h3 r hr).1, h2] at h4
    unfold minusN
    cases hm : (M r).isSome <;> rw [hm] at h4 <;> simp at h4 ⊢ <;> omega
  have k3 := ownsMap_tight k1
  rw [hsz] at k3
  refine ⟨w', hrun, ⟨_, k3, hsz, fun s hs => ?_⟩, k2.grown, ?_⟩
  · by_cases e : s = r
    · subst e
      rw [has_del_same, updM_same]
      exact ⟨rfl, fun u hu => by cases hu⟩
    · rw [has_del_other (rlit_ne e), updM_ne _ _ e]
      exact ⟨(h3 s hs).1, fun u hu zd => by rw [atKey_del_other (rlit_ne e)]; exact (h3 s hs).2 u hu zd⟩
  · obtain ⟨es, clock, es', clock', _, rfl⟩ := k2
    simp [setBlock]
set_option maxRecDepth 20000 in
/-- .. at the operation. -/
theorem wpList_storeM {ops : Array Oper} {rest : List Oper} {o : Oper} {a : Act} {Q : Exit → Act → World → Prop} (hg : o.guard = none) (m x v : Operand) (hop : o.op = Op.mapUpdate 73 m x v) {r : Int} (hr : I32 r) {val : Value}
    (hm : a.eval m = .map (some b)) (hx : a.eval x = .int .i32 r) (hv : a.eval v = val) (h : MapM w b n M) (hn : n < maxLen)
    (hK : ∀ w', MapM w' b (plusN M r n) (updM M r (some val)) → w.grownBy w' (some b) → w'.heap.size = w.heap.size → wpList Try.prog ops Q rest (a.put o.dst undef) w') : wpList Try.prog ops Q (o :: rest) a w := by
  refine wpList_plain hg fun K' hK' => ?_
  obtain ⟨w', hrun, r1, r2, r3⟩ := h.store hr val hn
  unfold Oper.wp
  simp [execOp, hop, hm, hx, hv, hrun, Result.andThen]
  exact hK' _ _ (hK w' r1 r2 r3)
set_option maxRecDepth 20000 in
theorem wpList_dropM {ops : Array Oper} {rest : List Oper} {o : Oper} {a : Act} {Q : Exit → Act → World → Prop} (hg : o.guard = none) (m x : Operand) (hop : o.op = Op.call { callee := Callee.builtin Builtin.delete, args := #[m, x], argTypes := #[73, 21] }) {r : Int} (hr : I32 r)
    (hm : a.eval m = .map (some b)) (hx : a.eval x = .int .i32 r) (h : MapM w b n M)
    (hK : ∀ w', MapM w' b (minusN M r n) (updM M r none) → w.grownBy w' (some b) → w'.heap.size = w.heap.size → wpList Try.prog ops Q rest (a.put o.dst (.tuple #[])) w') : wpList Try.prog ops Q (o :: rest) a w := by
  refine wpList_plain hg fun K' hK' => ?_
  obtain ⟨w', hrun, r1, r2, r3⟩ := h.drop hr o.type
  unfold Oper.wp
  simp [execOp, hop, resolve, invoke, builtin, hm, hx, hrun, Result.andThen]
  exact hK' _ _ (hK w' r1 r2 r3)
end

/-- The keys that have come, each once: those of D that are no longer to come. -/
def Coll (D : DataW Value) (left : Lit → Bool) (ss : List Int) : Prop := ss.Nodup ∧ ∀ x, x ∈ ss ↔ (I32 x ∧ has D (.int .i32 x) = true ∧ left (.int .i32 x) = false)
theorem Coll.start (D : DataW Value) : Coll D (has D) [] := ⟨List.Pairwise.nil, fun x => ⟨(fun h => by cases h), (fun ⟨_, h1, h2⟩ => by rw [h1] at h2; cases h2)⟩⟩
theorem Coll.step {D : DataW Value} {left : Lit → Bool} {ss : List Int} {x : Int} (h : Coll D left ss) (hx : I32 x) (hl : left (.int .i32 x) = true) (hh : has D (.int .i32 x) = true) : Coll D (fun z => left z && !z.sameKey (.int .i32 x)) (ss ++ [x]) := by
  refine ⟨List.nodup_append.2 ⟨h.1, List.pairwise_singleton _ _, fun a ha b hb e => ?_⟩, fun y => ?_⟩
  · rw [List.mem_singleton.1 hb] at e
    subst e
    have := ((h.2 a).1 ha).2.2
    rw [hl] at this
    cases this
  · show _ ↔ (I32 y ∧ has D (.int .i32 y) = true ∧ (left (.int .i32 y) && !(Lit.int .i32 y).sameKey (.int .i32 x)) = false)
    rw [List.mem_append, List.mem_singleton, h.2 y, sameKey_r]
    by_cases e : y = x
    · subst e
      simp [hx, hh]
    · simp [e]
theorem Coll.all {D : DataW Value} {left : Lit → Bool} {ss : List Int} (h : Coll D left ss) (hl : ∀ kl, left kl = false) : ss.Nodup ∧ ∀ x, x ∈ ss ↔ (I32 x ∧ has D (.int .i32 x) = true) :=
  ⟨h.1, fun x => by rw [h.2 x, hl]; simp⟩
theorem has_of_at {D : DataW Value} {kl : Lit} {y : DataW Value} (h : ∀ zd, D.atKey kl zd = y) : has D kl = true := has_true_of_atKey h
end Go.Proofs.Ytchcpeenpijekaa

/- A trie in memory: each text that a word begins with has a node's block and its map's block. -/
namespace Go.Proofs.Ytchcpeenpijekaa
open Go.RowKit Go.Maps Go.MapKept Go.ChangeMaps
set_option linter.unusedVariables false

/-- A node's block, its map's block. -/
abbrev Nd : Type := Nat × Nat
def ptrN (x : Option Nd) : Value := .pointer (x.map fun x => ⟨x.1, 0, none⟩)
def kidV (N : List Int → Option Nd) (p : List Int) (r : Int) : Option Value := (N (p ++ [r])).map fun x => .pointer (some ⟨x.1, 0, none⟩)
/-- Nodes in memory, from block B on: where each text's is (N), how often it is a word (C); at most K go on from one. -/
structure TreeT (w : World) (B K : Nat) (N : List Int → Option Nd) (C : List Int → Nat) : Prop where
  node : ∀ p x, N p = some x → Box w x.1 75 #[.int .i64 (C p : Nat), .map (some x.2)]
  kids : ∀ p x, N p = some x → ∃ n, n ≤ K ∧ MapM w x.2 n (kidV N p)
  one : ∀ p q x y, N p = some x → N q = some y → p ≠ q → x.1 ≠ y.1 ∧ x.2 ≠ y.2
  up : ∀ p r, (N (p ++ [r])).isSome = true → (N p).isSome = true ∧ I32 r
  base : ∀ p x, N p = some x → B ≤ x.1 ∧ B ≤ x.2

section
variable {w w' : World} {B K : Nat} {N : List Int → Option Nd} {C : List Int → Nat} {p q : List Int} {x y : Nd}
theorem TreeT.lt (h : TreeT w B K N C) (hx : N p = some x) : x.1 < w.heap.size ∧ x.2 < w.heap.size := by
  obtain ⟨n, _, hm⟩ := h.kids p x hx
  exact ⟨(h.node p x hx).lt, hm.lt⟩
theorem TreeT.ne (h : TreeT w B K N C) (hx : N p = some x) (hy : N q = some y) : x.1 ≠ y.2 := by
  obtain ⟨n, _, hm⟩ := h.kids q y hy
  exact hm.ne_box (h.node p x hx)
theorem TreeT.keep (h : TreeT w B K N C) (hk : ∀ p x, N p = some x → w'.heap[x.1]? = w.heap[x.1]? ∧ w'.heap[x.2]? = w.heap[x.2]?) : TreeT w' B K N C :=
  ⟨fun p x hx => ((hk p x hx).1.trans (h.node p x hx) : w'.heap[x.1]? = _), fun p x hx => by
    obtain ⟨n, hn, hm⟩ := h.kids p x hx
    exact ⟨n, hn, hm.keep (hk p x hx).2⟩, h.one, h.up, h.base⟩
theorem TreeT.below (h : TreeT w B K N C) (hb : Below w.heap.size w w') : TreeT w' B K N C := h.keep fun p x hx => ⟨hb.block _ (h.lt hx).1, hb.block _ (h.lt hx).2⟩
theorem TreeT.mono (h : TreeT w B K N C) {K' : Nat} (hK : K ≤ K') : TreeT w B K' N C := ⟨h.node, fun p x hx => by
  obtain ⟨n, hn, hm⟩ := h.kids p x hx
  exact ⟨n, by omega, hm⟩, h.one, h.up, h.base⟩
/-- A block of cells that are no node's has turned. -/
theorem TreeT.other (h : TreeT w B K N C) {g : Nat} {cs : Array Value} {t : TypeId} {k : Nat × Nat} (ho : w.heap[g]? = some (.cells cs t k)) (ht : t ≠ 75) (hg : w.grownBy w' (some g)) : TreeT w' B K N C :=
  h.keep fun p x hx => by
    refine ⟨hg.block _ (h.lt hx).1 fun e => ?_, hg.block _ (h.lt hx).2 fun e => ?_⟩
    · injection e with e
      have h1 : w.heap[x.1]? = some (.cells _ _ _) := h.node p x hx
      rw [e, ho] at h1
      injection h1 with h1
      injection h1 with _ h1
      exact ht h1
    · injection e with e
      obtain ⟨n, _, hm⟩ := h.kids p x hx
      obtain ⟨o, h1, h2⟩ := hm.noCells
      rw [e, ho] at h1
      injection h1 with h1
      subst h1
      cases h2
/-- What a word begins with has its node. -/
theorem TreeT.pre (h : TreeT w B K N C) : ∀ {t p : List Int}, (N (p ++ t)).isSome = true → (N p).isSome = true
  | [], p, hp => by rwa [List.append_nil] at hp
  | r :: t, p, hp => by
    rw [List.append_cons] at hp
    exact (h.up p r (h.pre hp)).1
theorem TreeT.prefix_ (h : TreeT w B K N C) (hp : p <+: q) (hq : (N q).isSome = true) : (N p).isSome = true := by
  obtain ⟨t, rfl⟩ := hp
  exact h.pre hq
theorem TreeT.look (h : TreeT w B K N C) (hx : N p = some x) {r : Int} (hr : I32 r) : (Instr.lookup 73 (.map (some x.2)) (.int .i32 r) false).run Try.prog w = .ok (ptrN (N (p ++ [r]))) w := by
  obtain ⟨n, _, hm⟩ := h.kids p x hx
  cases hy : N (p ++ [r]) with
  | none => exact hm.at_no hr (by rw [kidV, hy]; rfl)
  | some y => exact hm.at_yes hr (by rw [kidV, hy]; rfl)

/-- One more node. -/
def addN (N : List Int → Option Nd) (p : List Int) (x : Nd) (q : List Int) : Option Nd := if q = p then some x else N q
def delN (N : List Int → Option Nd) (p : List Int) (q : List Int) : Option Nd := if q = p then none else N q
theorem snoc_ne (p : List Int) (r : Int) : p ++ [r] ≠ p := fun e => by
  have := congrArg List.length e
  rw [List.length_append, List.length_singleton] at this
  omega
theorem snoc_inj {p q : List Int} {r s : Int} (h : p ++ [r] = q ++ [s]) : p = q ∧ r = s := by
  have := List.append_inj' h rfl
  exact ⟨this.1, by simpa using this.2⟩
theorem kidV_add (N : List Int → Option Nd) (p : List Int) (r : Int) (y : Nd) (q : List Int) : kidV (addN N (p ++ [r]) y) q = if q = p then updM (kidV N p) r (some (.pointer (some ⟨y.1, 0, none⟩))) else kidV N q := by
  funext s
  by_cases e : q = p
  · subst e
    rw [if_pos rfl]
    unfold kidV addN updM
    by_cases e2 : s = r
    · subst e2
      rw [if_pos rfl, if_pos rfl]; rfl
    · rw [if_neg (fun k => e2 (snoc_inj k).2), if_neg e2]
  · rw [if_neg e]
    unfold kidV addN
    rw [if_neg (fun k => e (snoc_inj k).1)]
theorem kidV_del (N : List Int → Option Nd) (p : List Int) (r : Int) (q : List Int) : kidV (delN N (p ++ [r])) q = if q = p then updM (kidV N p) r none else kidV N q := by
  funext s
  by_cases e : q = p
  · subst e
    rw [if_pos rfl]
    unfold kidV delN updM
    by_cases e2 : s = r
    · subst e2
      rw [if_pos rfl, if_pos rfl]; rfl
    · rw [if_neg (fun k => e2 (snoc_inj k).2), if_neg e2]
  · rw [if_neg e]
    unfold kidV delN
    rw [if_neg (fun k => e (snoc_inj k).1)]
/-- What 'n.kids[r] = &node{kids: ..}' leaves. -/
theorem TreeT.grow (h : TreeT w B K N C) (hx : N p = some x) {r : Int} (hr : I32 r) (hn : N (p ++ [r]) = none) (hC : C (p ++ [r]) = 0) {w1 w2 : World} {g b n : Nat}
    (hb : Below w.heap.size w w1) (hg : Box w1 g 75 #[.int .i64 0, .map (some b)]) (hm : MapM w1 b 0 fun _ => none) (hgs : w.heap.size ≤ g) (hbs : w.heap.size ≤ b) (hB : B ≤ w.heap.size)
    (hs : MapM w2 x.2 n (updM (kidV N p) r (some (.pointer (some ⟨g, 0, none⟩))))) (hnK : n ≤ K + 1) (hg2 : w1.grownBy w2 (some x.2)) : TreeT w2 B (K + 1) (addN N (p ++ [r]) (g, b)) C := by
  have h1 := h.below hb
  have hxl := h.lt hx
  have hgb : g ≠ x.2 := by omega
  have hbb : b ≠ x.2 := by omega
  refine ⟨fun q y hy => ?_, fun q y hy => ?_, fun q q' y y' hy hy' hne => ?_, fun q s hq => ?_, fun q y hy => ?_⟩
  · unfold addN at hy
    by_cases e : q = p ++ [r]
    · rw [if_pos e] at hy
      injection hy with hy
      subst hy e
      rw [hC]
      exact hg.grown hg2 (fun e => hgb (by injection e))
    · rw [if_neg e] at hy
      exact (h1.node q y hy).grown hg2 (fun e => h1.ne hy hx (by injection e))
  · rw [kidV_add]
    unfold addN at hy
    by_cases e : q = p ++ [r]
    · rw [if_pos e] at hy
      injection hy with hy
      subst hy
      rw [if_neg (by rw [e]; exact snoc_ne p r)]
      refine ⟨0, Nat.zero_le _, ?_⟩
      have hk : kidV N q = fun _ => none := by
        funext s
        unfold kidV
        cases hs : N (q ++ [s]) with
        | none => rfl
        | some z =>
          have := (h.up q s (by rw [hs]; rfl)).1
          rw [e, hn] at this
          cases this
      rw [hk]
      exact hm.keep (hg2.block b hm.lt fun e => hbb (by injection e))
    · rw [if_neg e] at hy
      by_cases e2 : q = p
      · subst e2
        rw [hx] at hy
        injection hy with hy
        subst hy
        rw [if_pos rfl]
        exact ⟨n, hnK, hs⟩
      · rw [if_neg e2]
        obtain ⟨m, hmK, hmm⟩ := h1.kids q y hy
        exact ⟨m, by omega, hmm.keep (hg2.block _ hmm.lt fun e => (h.one q p y x hy hx e2).2 (by injection e))⟩
  · unfold addN at hy hy'
    by_cases e : q = p ++ [r]
    · rw [if_pos e] at hy
      injection hy with hy
      subst hy
      rw [if_neg (fun k => hne (e.trans k.symm))] at hy'
      have := h.lt hy'
      exact ⟨by show g ≠ _; omega, by show b ≠ _; omega⟩
    · rw [if_neg e] at hy
      by_cases e' : q' = p ++ [r]
      · rw [if_pos e'] at hy'
        injection hy' with hy'
        subst hy'
        have := h.lt hy
        exact ⟨by show _ ≠ g; omega, by show _ ≠ b; omega⟩
      · rw [if_neg e'] at hy'
        exact h.one q q' y y' hy hy' hne
  · unfold addN at hq ⊢
    by_cases e : q ++ [s] = p ++ [r]
    · obtain ⟨rfl, rfl⟩ := snoc_inj e
      refine ⟨?_, hr⟩
      rw [if_neg (fun k => snoc_ne q s k.symm), hx]; rfl
    · rw [if_neg e] at hq
      have := h.up q s hq
      refine ⟨?_, this.2⟩
      by_cases e2 : q = p ++ [r]
      · rw [if_pos e2]; rfl
      · rw [if_neg e2]; exact this.1
  · unfold addN at hy
    by_cases e : q = p ++ [r]
    · rw [if_pos e] at hy
      injection hy with hy
      subst hy
      exact ⟨by show B ≤ g; omega, by show B ≤ b; omega⟩
    · rw [if_neg e] at hy
      exact h.base q y hy
/-- What 'delete(n.kids, r)' leaves where nothing goes on behind it. -/
theorem TreeT.shrink (h : TreeT w B K N C) (hx : N p = some x) {r : Int} (hk : ∀ s, N (p ++ [r] ++ [s]) = none) {w2 : World} {n : Nat} (hs : MapM w2 x.2 n (updM (kidV N p) r none)) (hnK : n ≤ K) (hg2 : w.grownBy w2 (some x.2)) : TreeT w2 B K (delN N (p ++ [r])) C := by
  refine ⟨fun q y hy => ?_, fun q y hy => ?_, fun q q' y y' hy hy' hne => ?_, fun q s hq => ?_, fun q y hy => ?_⟩
  · unfold delN at hy
    by_cases e : q = p ++ [r]
    · rw [if_pos e] at hy; cases hy
    · rw [if_neg e] at hy
      exact (h.node q y hy).grown hg2 (fun e => h.ne hy hx (by injection e))
  · rw [kidV_del]
    unfold delN at hy
    by_cases e : q = p ++ [r]
    · rw [if_pos e] at hy; cases hy
    · rw [if_neg e] at hy
      by_cases e2 : q = p
      · subst e2
        rw [hx] at hy
        injection hy with hy
        subst hy
        rw [if_pos rfl]
        exact ⟨n, hnK, hs⟩
      · rw [if_neg e2]
        obtain ⟨m, hmK, hmm⟩ := h.kids q y hy
        exact ⟨m, by omega, hmm.keep (hg2.block _ hmm.lt fun e => (h.one q p y x hy hx e2).2 (by injection e))⟩
  · unfold delN at hy hy'
    by_cases e : q = p ++ [r]
    · rw [if_pos e] at hy; cases hy
    · rw [if_neg e] at hy
      by_cases e' : q' = p ++ [r]
      · rw [if_pos e'] at hy'; cases hy'
      · rw [if_neg e'] at hy'
        exact h.one q q' y y' hy hy' hne
  · unfold delN at hq ⊢
    by_cases e : q ++ [s] = p ++ [r]
    · rw [if_pos e] at hq; cases hq
    · rw [if_neg e] at hq
      have := h.up q s hq
      refine ⟨?_, this.2⟩
      by_cases e2 : q = p ++ [r]
      · subst e2
        rw [hk s] at hq
        cases hq
      · rw [if_neg e2]; exact this.1
  · unfold delN at hy
    by_cases e : q = p ++ [r]
    · rw [if_pos e] at hy; cases hy
    · rw [if_neg e] at hy
      exact h.base q y hy
/-- A node's count is another one. -/
theorem TreeT.count (h : TreeT w B K N C) (hx : N p = some x) (c : Nat) : TreeT (w.setCell ⟨x.1, 0, none⟩ (.int .i64 (c : Nat))) B K N (fun q => if q = p then c else C q) := by
  refine ⟨fun q y hy => ?_, fun q y hy => ?_, h.one, h.up, h.base⟩
  · by_cases e : q = p
    · subst e
      rw [hx] at hy
      injection hy with hy
      subst hy
      rw [if_pos rfl]
      exact (h.node q x hx).set 0 _
    · rw [if_neg e]
      exact (h.node q y hy).far (p := ⟨x.1, 0, none⟩) (h.one q p y x hy hx e).1 _
  · obtain ⟨m, hmK, hmm⟩ := h.kids q y hy
    exact ⟨m, hmK, hmm.far (p := ⟨x.1, 0, none⟩) (fun e => h.ne hx hy e.symm) _⟩
theorem TreeT.far (h : TreeT w B K N C) {a : Addr} (u : Value) (ha : ∀ p x, N p = some x → x.1 ≠ a.block ∧ x.2 ≠ a.block) : TreeT (w.setCell a u) B K N C :=
  h.keep fun p x hx => ⟨Below.heap_setCell w a u _ (ha p x hx).1, Below.heap_setCell w a u _ (ha p x hx).2⟩
/-- A map without keys. -/
theorem MapM.zero {w : World} {b : Nat} {M : Int → Option Value} (h : MapM w b 0 M) : ∀ r, I32 r → M r = none := fun r hr => by
  obtain ⟨D, h1, h2, h3⟩ := h.ex
  have h4 := (h3 r hr).1
  cases hM : M r with
  | none => rfl
  | some v =>
    rw [hM] at h4
    exfalso
    have h5 := size_del (k := .int .i32 r) (h1.tidy rkeyed)
    rw [h4, h2] at h5
    simp at h5
end

/-- A trie at t: its nodes (N, C; Q is all that have one), how many words, unlike ones. -/
structure TrieN (w : World) (B t K : Nat) (N : List Int → Option Nd) (C : List Int → Nat) (Q : List (List Int)) (words unlike : Nat) : Prop where
  tree : TreeT w B K N C
  box : ∃ x, N [] = some x ∧ Box w t 77 #[.pointer (some ⟨x.1, 0, none⟩), .int .i64 (words : Nat), .int .i64 (unlike : Nat), .int .i64 (Q.length : Nat)]
  one : Q.Nodup
  mem : ∀ p, p ∈ Q ↔ (N p).isSome = true
  live : ∀ p, 0 < C p → (N p).isSome = true
  base : B ≤ t
section
variable {w w' : World} {B t K words unlike : Nat} {N : List Int → Option Nd} {C : List Int → Nat} {Q : List (List Int)}
theorem TrieN.below (h : TrieN w B t K N C Q words unlike) (hb : Below w.heap.size w w') : TrieN w' B t K N C Q words unlike := by
  obtain ⟨x, h1, h2⟩ := h.box
  exact ⟨h.tree.below hb, ⟨x, h1, h2.below hb⟩, h.one, h.mem, h.live, h.base⟩
theorem TrieN.lt (h : TrieN w B t K N C Q words unlike) : t < w.heap.size := by
  obtain ⟨x, h1, h2⟩ := h.box
  exact h2.lt
theorem TrieN.off (h : TrieN w B t K N C Q words unlike) {p : List Int} {x : Nd} (hx : N p = some x) : x.1 ≠ t ∧ x.2 ≠ t := by
  obtain ⟨x0, h1, h2⟩ := h.box
  refine ⟨fun e => ?_, fun e => ?_⟩
  · have h3 := h.tree.node p x hx
    unfold Box at h2 h3
    rw [e, h2] at h3
    injection h3 with h3
    injection h3 with _ h3
    exact absurd h3 (by decide)
  · obtain ⟨n, _, hm⟩ := h.tree.kids p x hx
    exact hm.ne_box h2 e.symm
/-- A block of cells that are neither a node's nor a trie's has turned. -/
theorem TrieN.other (h : TrieN w B t K N C Q words unlike) {g : Nat} {cs : Array Value} {ty : TypeId} {k : Nat × Nat} (ho : w.heap[g]? = some (.cells cs ty k)) (ht : ty ≠ 75) (ht2 : ty ≠ 77) (hg : w.grownBy w' (some g)) : TrieN w' B t K N C Q words unlike := by
  obtain ⟨x, h1, h2⟩ := h.box
  refine ⟨h.tree.other ho ht hg, ⟨x, h1, h2.grown hg fun e => ?_⟩, h.one, h.mem, h.live, h.base⟩
  injection e with e
  unfold Box at h2
  rw [e, ho] at h2
  injection h2 with h2
  injection h2 with _ h2
  exact ht2 h2
end
end Go.Proofs.Ytchcpeenpijekaa
