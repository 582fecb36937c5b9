/- A trie in memory: each text that a word begins with has a node's block and its map's block. -/
import Derived.Test.YtchcpeenpijekaaMapNod
import Derived.Test.YtchcpeenpijekaaTriP
import Derived.Test.YtchcpeenpijekaaTextA
import Derived.IntWalk
import Derived.Deep.LoopGhost
import Derived.Deep.CutBlock
import Derived.Deep.DeepCutAuto
namespace Go.Proofs.Ytchcpeenpijekaa
open Go.RowKit Go.Maps Go.MapKept Go.ChangeMaps
set_option linter.unusedVariables false

/-- A node's block, its map's block. -/
abbrev Nd : Type := Nat × Nat
def ptrN (x : Option Nd) : Value := .pointer (x.map fun x => ⟨x.1, 0, none⟩)
def kidV (N : List Int → Option Nd) (p : List Int) (r : Int) : Option Value := (N (p ++ [r])).map fun x => .pointer (some ⟨x.1, 0, none⟩)
/-- Nodes in memory, from block B on: where each text's is (N), how often it is a word (C); at most K go on from one. -/
structure TreeT (w : World) (B K : Nat) (N : List Int → Option Nd) (C : List Int → Nat) : Prop where
  node : ∀ p x, N p = some x → Box w x.1 75 #[.int .i64 (C p : Nat), .map (some x.2)]
  kids : ∀ p x, N p = some x → ∃ n, n ≤ K ∧ MapM w x.2 n (kidV N p)
  one : ∀ p q x y, N p = some x → N q = some y → p ≠ q → x.1 ≠ y.1 ∧ x.2 ≠ y.2
  up : ∀ p r, (N (p ++ [r])).isSome = true → (N p).isSome = true ∧ I32 r
  base : ∀ p x, N p = some x → B ≤ x.1 ∧ B ≤ x.2

section
variable {w w' : World} {B K : Nat} {N : List Int → Option Nd} {C : List Int → Nat} {p q : List Int} {x y : Nd}
theorem TreeT.lt (h : TreeT w B K N C) (hx : N p = some x) : x.1 < w.heap.size ∧ x.2 < w.heap.size := by
  obtain ⟨n, _, hm⟩ := h.kids p x hx
  exact ⟨(h.node p x hx).lt, hm.lt⟩
theorem TreeT.ne (h : TreeT w B K N C) (hx : N p = some x) (hy : N q = some y) : x.1 ≠ y.2 := by
  obtain ⟨n, _, hm⟩ := h.kids q y hy
  exact hm.ne_box (h.node p x hx)
theorem TreeT.keep (h : TreeT w B K N C) (hk : ∀ p x, N p = some x → w'.heap[x.1]? = w.heap[x.1]? ∧ w'.heap[x.2]? = w.heap[x.2]?) : TreeT w' B K N C :=
  ⟨fun p x hx => ((hk p x hx).1.trans (h.node p x hx) : w'.heap[x.1]? = _), fun p x hx => by
    obtain ⟨n, hn, hm⟩ := h.kids p x hx
    exact ⟨n, hn, hm.keep (hk p x hx).2⟩, h.one, h.up, h.base⟩
theorem TreeT.below (h : TreeT w B K N C) (hb : Below w.heap.size w w') : TreeT w' B K N C := h.keep fun p x hx => ⟨hb.block _ (h.lt hx).1, hb.block _ (h.lt hx).2⟩
theorem TreeT.mono (h : TreeT w B K N C) {K' : Nat} (hK : K ≤ K') : TreeT w B K' N C := ⟨h.node, fun p x hx => by
  obtain ⟨n, hn, hm⟩ := h.kids p x hx
  exact ⟨n, by omega, hm⟩, h.one, h.up, h.base⟩
/-- A block of cells that are no node's has turned. -/
theorem TreeT.other (h : TreeT w B K N C) {g : Nat} {cs : Array Value} {t : TypeId} {k : Nat × Nat} (ho : w.heap[g]? = some (.cells cs t k)) (ht : t ≠ 75) (hg : w.grownBy w' (some g)) : TreeT w' B K N C :=
  h.keep fun p x hx => by
    refine ⟨hg.block _ (h.lt hx).1 fun e => ?_, hg.block _ (h.lt hx).2 fun e => ?_⟩
    · injection e with e
      have h1 : w.heap[x.1]? = some (.cells _ _ _) := h.node p x hx
      rw [e, ho] at h1
      injection h1 with h1
      injection h1 with _ h1
      exact ht h1
    · injection e with e
      obtain ⟨n, _, hm⟩ := h.kids p x hx
      obtain ⟨o, h1, h2⟩ := hm.noCells
      rw [e, ho] at h1
      injection h1 with h1
      subst h1
      cases h2
/-- What a word begins with has its node. -/
theorem TreeT.pre (h : TreeT w B K N C) : ∀ {t p : List Int}, (N (p ++ t)).isSome = true → (N p).isSome = true
  | [], p, hp => by rwa [List.append_nil] at hp
  | r :: t, p, hp => by
    rw [List.append_cons] at hp
    exact (h.up p r (h.pre hp)).1
theorem TreeT.prefix_ (h : TreeT w B K N C) (hp : p <+: q) (hq : (N q).isSome = true) : (N p).isSome = true := by
  obtain ⟨t, rfl⟩ := hp
  exact h.pre hq
theorem TreeT.look (h : TreeT w B K N C) (hx : N p = some x) {r : Int} (hr : I32 r) : (Instr.lookup 73 (.map (some x.2)) (.int .i32 r) false).run Try.prog w = .ok (ptrN (N (p ++ [r]))) w := by
  obtain ⟨n, _, hm⟩ := h.kids p x hx
  cases hy : N (p ++ [r]) with
  | none => exact hm.at_no hr (by rw [kidV, hy]; rfl)
  | some y => exact hm.at_yes hr (by rw [kidV, hy]; rfl)

/-- One more node. -/
def addN (N : List Int → Option Nd) (p : List Int) (x : Nd) (q : List Int) : Option Nd := if q = p then some x else N q
def delN (N : List Int → Option Nd) (p : List Int) (q : List Int) : Option Nd := if q = p then none else N q
theorem snoc_ne (p : List Int) (r : Int) : p ++ [r] ≠ p := fun e => by
  have := congrArg List.length e
  rw [List.length_append, List.length_singleton] at this
  omega
theorem snoc_inj {p q : List Int} {r s : Int} (h : p ++ [r] = q ++ [s]) : p = q ∧ r = s := by
  have := List.append_inj' h rfl
  exact ⟨this.1, by simpa using this.2⟩
theorem kidV_add (N : List Int → Option Nd) (p : List Int) (r : Int) (y : Nd) (q : List Int) : kidV (addN N (p ++ [r]) y) q = if q = p then updM (kidV N p) r (some (.pointer (some ⟨y.1, 0, none⟩))) else kidV N q := by
  funext s
  by_cases e : q = p
  · subst e
    rw [if_pos rfl]
    unfold kidV addN updM
    by_cases e2 : s = r
    · subst e2
      rw [if_pos rfl, if_pos rfl]; rfl
    · rw [if_neg (fun k => e2 (snoc_inj k).2), if_neg e2]
  · rw [if_neg e]
    unfold kidV addN
    rw [if_neg (fun k => e (snoc_inj k).1)]
theorem kidV_del (N : List Int → Option Nd) (p : List Int) (r : Int) (q : List Int) : kidV (delN N (p ++ [r])) q = if q = p then updM (kidV N p) r none else kidV N q := by
  funext s
  by_cases e : q = p
  · subst e
    rw [if_pos rfl]
    unfold kidV delN updM
    by_cases e2 : s = r
    · subst e2
      rw [if_pos rfl, if_pos rfl]; rfl
    · rw [if_neg (fun k => e2 (snoc_inj k).2), if_neg e2]
  · rw [if_neg e]
    unfold kidV delN
    rw [if_neg (fun k => e (snoc_inj k).1)]
/-- What 'n.kids[r] = &node{kids: ..}' leaves. -/
theorem TreeT.grow (h : TreeT w B K N C) (hx : N p = some x) {r : Int} (hr : I32 r) (hn : N (p ++ [r]) = none) (hC : C (p ++ [r]) = 0) {w1 w2 : World} {g b n : Nat}
    (hb : Below w.heap.size w w1) (hg : Box w1 g 75 #[.int .i64 0, .map (some b)]) (hm : MapM w1 b 0 fun _ => none) (hgs : w.heap.size ≤ g) (hbs : w.heap.size ≤ b) (hB : B ≤ w.heap.size)
    (hs : MapM w2 x.2 n (updM (kidV N p) r (some (.pointer (some ⟨g, 0, none⟩))))) (hnK : n ≤ K + 1) (hg2 : w1.grownBy w2 (some x.2)) : TreeT w2 B (K + 1) (addN N (p ++ [r]) (g, b)) C := by
  have h1 := h.below hb
  have hxl := h.lt hx
  have hgb : g ≠ x.2 := by omega
  have hbb : b ≠ x.2 := by omega
  refine ⟨fun q y hy => ?_, fun q y hy => ?_, fun q q' y y' hy hy' hne => ?_, fun q s hq => ?_, fun q y hy => ?_⟩
  · unfold addN at hy
    by_cases e : q = p ++ [r]
    · rw [if_pos e] at hy
      injection hy with hy
      subst hy e
      rw [hC]
      exact hg.grown hg2 (fun e => hgb (by injection e))
    · rw [if_neg e] at hy
      exact (h1.node q y hy).grown hg2 (fun e => h1.ne hy hx (by injection e))
  · rw [kidV_add]
    unfold addN at hy
    by_cases e : q = p ++ [r]
    · rw [if_pos e] at hy
      injection hy with hy
      subst hy
      rw [if_neg (by rw [e]; exact snoc_ne p r)]
      refine ⟨0, Nat.zero_le _, ?_⟩
      have hk : kidV N q = fun _ => none := by
        funext s
        unfold kidV
        cases hs : N (q ++ [s]) with
        | none => rfl
        | some z =>
          have := (h.up q s (by rw [hs]; rfl)).1
          rw [e, hn] at this
          cases this
      rw [hk]
      exact hm.keep (hg2.block b hm.lt fun e => hbb (by injection e))
    · rw [if_neg e] at hy
      by_cases e2 : q = p
      · subst e2
        rw [hx] at hy
        injection hy with hy
        subst hy
        rw [if_pos rfl]
        exact ⟨n, hnK, hs⟩
      · rw [if_neg e2]
        obtain ⟨m, hmK, hmm⟩ := h1.kids q y hy
        exact ⟨m, by omega, hmm.keep (hg2.block _ hmm.lt fun e => (h.one q p y x hy hx e2).2 (by injection e))⟩
  · unfold addN at hy hy'
    by_cases e : q = p ++ [r]
    · rw [if_pos e] at hy
      injection hy with hy
      subst hy
      rw [if_neg (fun k => hne (e.trans k.symm))] at hy'
      have := h.lt hy'
      exact ⟨by show g ≠ _; omega, by show b ≠ _; omega⟩
    · rw [if_neg e] at hy
      by_cases e' : q' = p ++ [r]
      · rw [if_pos e'] at hy'
        injection hy' with hy'
        subst hy'
        have := h.lt hy
        exact ⟨by show _ ≠ g; omega, by show _ ≠ b; omega⟩
      · rw [if_neg e'] at hy'
        exact h.one q q' y y' hy hy' hne
  · unfold addN at hq ⊢
    by_cases e : q ++ [s] = p ++ [r]
    · obtain ⟨rfl, rfl⟩ := snoc_inj e
      refine ⟨?_, hr⟩
      rw [if_neg (fun k => snoc_ne q s k.symm), hx]; rfl
    · rw [if_neg e] at hq
      have := h.up q s hq
      refine ⟨?_, this.2⟩
      by_cases e2 : q = p ++ [r]
      · rw [if_pos e2]; rfl
      · rw [if_neg e2]; exact this.1
  · unfold addN at hy
    by_cases e : q = p ++ [r]
    · rw [if_pos e] at hy
      injection hy with hy
      subst hy
      exact ⟨by show B ≤ g; omega, by show B ≤ b; omega⟩
    · rw [if_neg e] at hy
      exact h.base q y hy
/-- What 'delete(n.kids, r)' leaves where nothing goes on behind it. -/
theorem TreeT.shrink (h : TreeT w B K N C) (hx : N p = some x) {r : Int} (hk : ∀ s, N (p ++ [r] ++ [s]) = none) {w2 : World} {n : Nat} (hs : MapM w2 x.2 n (updM (kidV N p) r none)) (hnK : n ≤ K) (hg2 : w.grownBy w2 (some x.2)) : TreeT w2 B K (delN N (p ++ [r])) C := by
  refine ⟨fun q y hy => ?_, fun q y hy => ?_, fun q q' y y' hy hy' hne => ?_, fun q s hq => ?_, fun q y hy => ?_⟩
  · unfold delN at hy
    by_cases e : q = p ++ [r]
    · rw [if_pos e] at hy; cases hy
    · rw [if_neg e] at hy
      exact (h.node q y hy).grown hg2 (fun e => h.ne hy hx (by injection e))
  · rw [kidV_del]
    unfold delN at hy
    by_cases e : q = p ++ [r]
    · rw [if_pos e] at hy; cases hy
    · rw [if_neg e] at hy
      by_cases e2 : q = p
      · subst e2
        rw [hx] at hy
        injection hy with hy
        subst hy
        rw [if_pos rfl]
        exact ⟨n, hnK, hs⟩
      · rw [if_neg e2]
        obtain ⟨m, hmK, hmm⟩ := h.kids q y hy
        exact ⟨m, by omega, hmm.keep (hg2.block _ hmm.lt fun e => (h.one q p y x hy hx e2).2 (by injection e))⟩
  · unfold delN at hy hy'
    by_cases e : q = p ++ [r]
    · rw [if_pos e] at hy; cases hy
    · rw [if_neg e] at hy
      by_cases e' : q' = p ++ [r]
      · rw [if_pos e'] at hy'; cases hy'
      · rw [if_neg e'] at hy'
        exact h.one q q' y y' hy hy' hne
  · unfold delN at hq ⊢
    by_cases e : q ++ [s] = p ++ [r]
    · rw [if_pos e] at hq; cases hq
    · rw [if_neg e] at hq
      have := h.up q s hq
      refine ⟨?_, this.2⟩
      by_cases e2 : q = p ++ [r]
      · subst e2
        rw [hk s] at hq
        cases hq
      · rw [if_neg e2]; exact this.1
  · unfold delN at hy
    by_cases e : q = p ++ [r]
    · rw [if_pos e] at hy; cases hy
    · rw [if_neg e] at hy
      exact h.base q y hy
/-- A node's count is another one. -/
theorem TreeT.count (h : TreeT w B K N C) (hx : N p = some x) (c : Nat) : TreeT (w.setCell ⟨x.1, 0, none⟩ (.int .i64 (c : Nat))) B K N (fun q => if q = p then c else C q) := by
  refine ⟨fun q y hy => ?_, fun q y hy => ?_, h.one, h.up, h.base⟩
  · by_cases e : q = p
    · subst e
      rw [hx] at hy
      injection hy with hy
      subst hy
      rw [if_pos rfl]
      exact (h.node q x hx).set 0 _
    · rw [if_neg e]
      exact (h.node q y hy).far (p := ⟨x.1, 0, none⟩) (h.one q p y x hy hx e).1 _
  · obtain ⟨m, hmK, hmm⟩ := h.kids q y hy
    exact ⟨m, hmK, hmm.far (p := ⟨x.1, 0, none⟩) (fun e => h.ne hx hy e.symm) _⟩
theorem TreeT.far (h : TreeT w B K N C) {a : Addr} (u : Value) (ha : ∀ p x, N p = some x → x.1 ≠ a.block ∧ x.2 ≠ a.block) : TreeT (w.setCell a u) B K N C :=
  h.keep fun p x hx => ⟨Below.heap_setCell w a u _ (ha p x hx).1, Below.heap_setCell w a u _ (ha p x hx).2⟩
/-- A map without keys. -/
theorem MapM.zero {w : World} {b : Nat} {M : Int → Option Value} (h : MapM w b 0 M) : ∀ r, I32 r → M r = none := fun r hr => by
  obtain ⟨D, h1, h2, h3⟩ := h.ex
  have h4 := (h3 r hr).1
  cases hM : M r with
  | none => rfl
  | some v =>
    rw [hM] at h4
    exfalso
    have h5 := size_del (k := .int .i32 r) (h1.tidy rkeyed)
    rw [h4, h2] at h5
    simp at h5
end

/-- A trie at t: its nodes (N, C; Q is all that have one), how many words, unlike ones. -/
structure TrieN (w : World) (B t K : Nat) (N : List Int → Option Nd) (C : List Int → Nat) (Q : List (List Int)) (words unlike : Nat) : Prop where
  tree : TreeT w B K N C
  box : ∃ x, N [] = some x ∧ Box w t 77 #[.pointer (some ⟨x.1, 0, none⟩), .int .i64 (words : Nat), .int .i64 (unlike : Nat), .int .i64 (Q.length : Nat)]
  one : Q.Nodup
  mem : ∀ p, p ∈ Q ↔ (N p).isSome = true
  live : ∀ p, 0 < C p → (N p).isSome = true
  base : B ≤ t
section
variable {w w' : World} {B t K words unlike : Nat} {N : List Int → Option Nd} {C : List Int → Nat} {Q : List (List Int)}
theorem TrieN.below (h : TrieN w B t K N C Q words unlike) (hb : Below w.heap.size w w') : TrieN w' B t K N C Q words unlike := by
  obtain ⟨x, h1, h2⟩ := h.box
  exact ⟨h.tree.below hb, ⟨x, h1, h2.below hb⟩, h.one, h.mem, h.live, h.base⟩
theorem TrieN.lt (h : TrieN w B t K N C Q words unlike) : t < w.heap.size := by
  obtain ⟨x, h1, h2⟩ := h.box
  exact h2.lt
theorem TrieN.off (h : TrieN w B t K N C Q words unlike) {p : List Int} {x : Nd} (hx : N p = some x) : x.1 ≠ t ∧ x.2 ≠ t := by
  obtain ⟨x0, h1, h2⟩ := h.box
  refine ⟨fun e => ?_, fun e => ?_⟩
  · have h3 := h.tree.node p x hx
    unfold Box at h2 h3
    rw [e, h2] at h3
    injection h3 with h3
    injection h3 with _ h3
    exact absurd h3 (by decide)
  · obtain ⟨n, _, hm⟩ := h.tree.kids p x hx
    exact hm.ne_box h2 e.symm
/-- A block of cells that are neither a node's nor a trie's has turned. -/
theorem TrieN.other (h : TrieN w B t K N C Q words unlike) {g : Nat} {cs : Array Value} {ty : TypeId} {k : Nat × Nat} (ho : w.heap[g]? = some (.cells cs ty k)) (ht : ty ≠ 75) (ht2 : ty ≠ 77) (hg : w.grownBy w' (some g)) : TrieN w' B t K N C Q words unlike := by
  obtain ⟨x, h1, h2⟩ := h.box
  refine ⟨h.tree.other ho ht hg, ⟨x, h1, h2.grown hg fun e => ?_⟩, h.one, h.mem, h.live, h.base⟩
  injection e with e
  unfold Box at h2
  rw [e, ho] at h2
  injection h2 with h2
  injection h2 with _ h2
  exact ht2 h2
end
end Go.Proofs.Ytchcpeenpijekaa
