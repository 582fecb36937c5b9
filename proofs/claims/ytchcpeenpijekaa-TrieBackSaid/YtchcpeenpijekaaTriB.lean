/- A trie: what an operation turns; Add's loop, in plain words. -/
import Derived.Test.YtchcpeenpijekaaTriA
namespace Go.Proofs.Ytchcpeenpijekaa
open Go.RowKit Go.Maps Go.MapKept Go.ChangeMaps
set_option linter.unusedVariables false

/-- A block of the trie. -/
def InT (N : List Int → Option Nd) (t g : Nat) : Prop := g = t ∨ ∃ p x, N p = some x ∧ (g = x.1 ∨ g = x.2)
/-- Only the trie's blocks have turned, and what is new. -/
structure Turn (N : List Int → Option Nd) (t : Nat) (w w' : World) : Prop where
  os : w'.os = w.os
  tape : w'.tape = w.tape
  output : w'.output = w.output
  size : w.heap.size ≤ w'.heap.size
  block : ∀ g, g < w.heap.size → ¬ InT N t g → w'.heap[g]? = w.heap[g]?
section
variable {w w' w1 w2 : World} {B t K k words unlike : Nat} {N N0 : List Int → Option Nd} {C : List Int → Nat} {Q Q0 : List (List Int)} {l p : List Int} {x y : Nd}
theorem Turn.refl (N : List Int → Option Nd) (t : Nat) (w : World) : Turn N t w w := ⟨rfl, rfl, rfl, Nat.le_refl _, fun _ _ _ => rfl⟩
theorem Turn.of_below (h : Below w.heap.size w w') : Turn N t w w' := ⟨h.os, h.tape, h.output, h.size, fun g hg _ => h.block g hg⟩
/-- One of its blocks, or a new one. -/
theorem Turn.grown (h : Turn N t w w1) {g : Nat} (hg : InT N t g ∨ w.heap.size ≤ g) (h2 : w1.grownBy w2 (some g)) : Turn N t w w2 :=
  ⟨h2.os.trans h.os, h2.tape.trans h.tape, h2.output.trans h.output, Nat.le_trans h.size h2.size, fun i hi hn => by
    refine (h2.block i (Nat.lt_of_lt_of_le hi h.size) fun e => ?_).trans (h.block i hi hn)
    injection e with e
    rcases hg with hg | hg
    · exact hn (e ▸ hg)
    · omega⟩
theorem Turn.next (h : Turn N t w w1) (h2 : Below w1.heap.size w1 w2) : Turn N t w w2 :=
  ⟨h2.os.trans h.os, h2.tape.trans h.tape, h2.output.trans h.output, Nat.le_trans h.size h2.size, fun i hi hn => (h2.block i (Nat.lt_of_lt_of_le hi h.size)).trans (h.block i hi hn)⟩
theorem set_grown (w : World) (a : Addr) (u : Value) : w.grownBy (w.setCell a u) (some a.block) :=
  ⟨rfl, rfl, rfl, by simp [World.setCell], fun i hi hne => Below.heap_setCell w a u i fun e => hne (by rw [e])⟩
theorem Turn.set (h : Turn N t w w1) {a : Addr} (hg : InT N t a.block ∨ w.heap.size ≤ a.block) (u : Value) : Turn N t w (w1.setCell a u) := h.grown hg (set_grown w1 a u)
theorem TrieN.inB (h : TrieN w B t K N C Q words unlike) {g : Nat} (hg : InT N t g) : B ≤ g := by
  rcases hg with rfl | ⟨p, x, hx, rfl | rfl⟩
  · exact h.base
  · exact (h.tree.base p x hx).1
  · exact (h.tree.base p x hx).2
theorem TrieN.inLt (h : TrieN w B t K N C Q words unlike) {g : Nat} (hg : InT N t g) : g < w.heap.size := by
  rcases hg with rfl | ⟨p, x, hx, rfl | rfl⟩
  · exact h.lt
  · exact (h.tree.lt hx).1
  · exact (h.tree.lt hx).2
/-- What lies ahead of the trie stays. -/
theorem Turn.low (h : Turn N t w w') (hT : TrieN w B t K N C Q words unlike) (hB : B ≤ w.heap.size) : Below B w w' :=
  ⟨h.os, h.tape, h.output, h.size, fun g hg => h.block g (by omega) fun e => by have := hT.inB e; omega⟩
theorem Turn.cells (h : Turn N t w w') (hT : TrieN w B t K N C Q words unlike) {g : Nat} {cs : Array Value} {ty : TypeId} {kk : Nat × Nat} (ho : w.heap[g]? = some (.cells cs ty kk)) (h1 : ty ≠ 75) (h2 : ty ≠ 77) : w'.heap[g]? = w.heap[g]? := by
  refine h.block g (Array.getElem?_eq_some_iff.1 ho).1 fun e => ?_
  rcases e with rfl | ⟨p, x, hx, rfl | rfl⟩
  · obtain ⟨x0, _, hb⟩ := hT.box
    unfold Box at hb
    rw [ho] at hb
    injection hb with hb
    injection hb with _ hb
    exact h2 hb
  · have hb := hT.tree.node p x hx
    unfold Box at hb
    rw [ho] at hb
    injection hb with hb
    injection hb with _ hb
    exact h1 hb
  · obtain ⟨n, _, hm⟩ := hT.tree.kids p x hx
    obtain ⟨o, h3, h4⟩ := hm.noCells
    rw [ho] at h3
    injection h3 with h3
    subst h3
    cases h4
theorem Turn.box (h : Turn N t w w') (hT : TrieN w B t K N C Q words unlike) {g : Nat} {cs : Array Value} {ty : TypeId} (ho : Box w g ty cs) (h1 : ty ≠ 75) (h2 : ty ≠ 77) : Box w' g ty cs := (h.cells hT ho h1 h2).trans ho
theorem Turn.runes (h : Turn N t w w') (hT : TrieN w B t K N C Q words unlike) {A : Option Addr} {n : Nat} {s : List Int} (hr : Runes w A n s) : Runes w' A n s :=
  hr.keep fun b o ha hn => h.block b (hr.lt hn ha) fun e => by
    obtain ⟨b', o', ha', hc⟩ := hr.at_ 0 hn
    rw [ha] at ha'
    injection ha' with ha'
    injection ha' with e1 e2
    subst e1
    rcases e with rfl | ⟨p, x, hx, rfl | rfl⟩
    · obtain ⟨x0, _, hb⟩ := hT.box
      rw [hb.cell] at hc
      have h4 : ∀ i : Nat, (#[Value.pointer (some ⟨x0.1, 0, none⟩), .int .i64 (words : Nat), .int .i64 (unlike : Nat), .int .i64 (Q.length : Nat)] : Array Value)[i]? ≠ some (.int .i32 (nth s 0)) := fun i => by
        match i with
        | 0 => simp
        | 1 => simp
        | 2 => simp
        | 3 => simp
        | i + 4 => simp
      exact h4 _ hc
    · rw [(hT.tree.node p x hx).cell] at hc
      have h4 : ∀ i : Nat, (#[Value.int .i64 (C p : Nat), .map (some x.2)] : Array Value)[i]? ≠ some (.int .i32 (nth s 0)) := fun i => by
        match i with
        | 0 => simp
        | 1 => simp
        | i + 2 => simp
      exact h4 _ hc
    · obtain ⟨n, _, hm⟩ := hT.tree.kids p x hx
      obtain ⟨ob, h3, h4⟩ := hm.noCells
      simp only [World.cell?, h3] at hc
      cases ob <;> simp_all [Obj.isCells]

/-- Between two rounds of Add. -/
structure AddSt (w wr : World) (B t K k : Nat) (N0 N : List Int → Option Nd) (C : List Int → Nat) (Q0 Q : List (List Int)) (words unlike : Nat) (l : List Int) (x : Nd) : Prop where
  tn : TrieN wr B t (K + k) N C Q words unlike
  at_ : N (l.take k) = some x
  mem : ∀ p, p ∈ Q ↔ p ∈ Q0 ∨ p <+: l.take k
  old : ∀ p y, N p = some y → N0 p = some y ∨ (w.heap.size ≤ y.1 ∧ w.heap.size ≤ y.2)
  turn : Turn N0 t w wr
theorem AddSt.start (h : TrieN w B t K N C Q words unlike) (l : List Int) (hx : N [] = some x) : AddSt w w B t K 0 N N C Q Q words unlike l x :=
  ⟨h, by rw [List.take_zero]; exact hx, fun p => by
    rw [List.take_zero, List.prefix_nil]
    constructor
    · exact .inl
    · rintro (h1 | rfl)
      · exact h1
      · exact (h.mem []).2 (by rw [hx]; rfl), fun p y h => .inl h, Turn.refl _ _ _⟩
theorem pre_snoc {p l : List Int} {k : Nat} (hk : k < l.length) : p <+: l.take (k + 1) ↔ p = l.take (k + 1) ∨ p <+: l.take k := by
  rw [take_snoc hk]
  exact List.prefix_concat_iff
theorem AddSt.yes {wr : World} (h : AddSt w wr B t K k N0 N C Q0 Q words unlike l x) (hk : k < l.length) (hy : N (l.take (k + 1)) = some y) : AddSt w wr B t K (k + 1) N0 N C Q0 Q words unlike l y :=
  ⟨⟨h.tn.tree.mono (by omega), h.tn.box, h.tn.one, h.tn.mem, h.tn.live, h.tn.base⟩, hy, fun p => by
    rw [h.mem, pre_snoc hk]
    constructor
    · rintro (h1 | h1)
      · exact .inl h1
      · exact .inr (.inr h1)
    · rintro (h1 | h1 | h1)
      · exact .inl h1
      · exact (h.mem p).1 ((h.tn.mem p).2 (by rw [h1, hy]; rfl))
      · exact .inr h1, h.old, h.turn⟩
theorem AddSt.no {wr : World} (h : AddSt w wr B t K k N0 N C Q0 Q words unlike l x) (hk : k < l.length) (hy : N (l.take (k + 1)) = none) (hr : I32 (nth l k)) {g b n : Nat} (hwB : B ≤ w.heap.size)
    (hb : Below wr.heap.size wr w1) (hg : Box w1 g 75 #[.int .i64 0, .map (some b)]) (hm : MapM w1 b 0 fun _ => none) (hgs : wr.heap.size ≤ g) (hbs : wr.heap.size ≤ b)
    (hs : MapM w2 x.2 n (updM (kidV N (l.take k)) (nth l k) (some (.pointer (some ⟨g, 0, none⟩))))) (hnK : n ≤ K + k + 1) (hg2 : w1.grownBy w2 (some x.2)) :
    AddSt w (w2.setCell ⟨t, 3, none⟩ (.int .i64 ((Q.length + 1 : Nat) : Int))) B t K (k + 1) N0 (addN N (l.take (k + 1)) (g, b)) C Q0 (l.take (k + 1) :: Q) words unlike l (g, b) := by
  have hts := take_snoc hk
  have hC : C (l.take (k + 1)) = 0 := by
    by_cases h0 : 0 < C (l.take (k + 1))
    · have := h.tn.live _ h0
      rw [hy] at this
      cases this
    · omega
  rw [hts] at hy hC
  have hsz := h.turn.size
  have hT := h.tn.tree.grow h.at_ hr hy hC hb hg hm hgs hbs (by omega) hs hnK hg2
  rw [← hts] at hT hy
  obtain ⟨x0, hx0, hbx⟩ := h.tn.box
  have hxt := h.tn.off h.at_
  have htl := h.tn.lt
  have hbx2 := (hbx.below hb).grown hg2 (fun e => hxt.2 (by injection e with e; exact e.symm))
  have hne : l.take (k + 1) ≠ [] := fun e => by
    have := congrArg List.length e
    rw [List.length_take, List.length_nil] at this
    omega
  refine ⟨⟨hT.far _ fun p z hz => ?_, ⟨x0, ?_, ?_⟩, ?_, fun p => ?_, fun p hp => ?_, h.tn.base⟩, ?_, fun p => ?_, fun p z hz => ?_, ?_⟩
  · unfold addN at hz
    by_cases e : p = l.take (k + 1)
    · rw [if_pos e] at hz
      injection hz with hz
      subst hz
      exact ⟨by show g ≠ t; omega, by show b ≠ t; omega⟩
    · rw [if_neg e] at hz
      exact h.tn.off hz
  · unfold addN
    rw [if_neg fun e => hne e.symm]
    exact hx0
  · have := hbx2.set 3 (.int .i64 ((Q.length + 1 : Nat) : Int))
    exact this
  · refine List.nodup_cons.2 ⟨fun hq => ?_, h.tn.one⟩
    have := (h.tn.mem _).1 hq
    rw [hy] at this
    cases this
  · rw [List.mem_cons, h.tn.mem]
    unfold addN
    by_cases e : p = l.take (k + 1)
    · rw [if_pos e]; simp [e]
    · rw [if_neg e]; simp [e]
  · have := h.tn.live p hp
    unfold addN
    by_cases e : p = l.take (k + 1)
    · rw [if_pos e]; rfl
    · rw [if_neg e]; exact this
  · unfold addN
    rw [if_pos rfl]
  · rw [List.mem_cons, h.mem, pre_snoc hk]
    constructor
    · rintro (h1 | h1 | h1)
      · exact .inr (.inl h1)
      · exact .inl h1
      · exact .inr (.inr h1)
    · rintro (h1 | h1 | h1)
      · exact .inr (.inl h1)
      · exact .inl h1
      · exact .inr (.inr h1)
  · unfold addN at hz
    by_cases e : p = l.take (k + 1)
    · rw [if_pos e] at hz
      injection hz with hz
      subst hz
      exact .inr ⟨by show _ ≤ g; omega, by show _ ≤ b; omega⟩
    · rw [if_neg e] at hz
      exact h.old p z hz
  · refine ((h.turn.next hb).grown ?_ hg2).set (.inl (.inl rfl)) _
    rcases h.old _ _ h.at_ with h1 | h1
    · exact .inl (.inr ⟨_, _, h1, .inr rfl⟩)
    · exact .inr h1.2
end
end Go.Proofs.Ytchcpeenpijekaa
