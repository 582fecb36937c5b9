/- Pieces, joined: TriA, TriB, TriC. -/
import Derived.Test.YtchcpeenpijekaaQ09
import Derived.Test.YtchcpeenpijekaaQ01

/- A trie: New, find, Count. -/
namespace Go.Proofs.Ytchcpeenpijekaa
open Go.RowKit Go.Maps Go.MapKept Go.ChangeMaps
set_option linter.unusedVariables false

theorem TrieN.start {w : World} {g b t : Nat} {B : Nat} (hg : Box w g 75 #[.int .i64 0, .map (some b)]) (hb : MapM w b 0 fun _ => none) (ht : Box w t 77 #[.pointer (some ⟨g, 0, none⟩), .int .i64 0, .int .i64 0, .int .i64 1]) (h1 : B ≤ g) (h2 : B ≤ b) (h3 : B ≤ t) :
    TrieN w B t 0 (addN (fun _ => none) [] (g, b)) (fun _ => 0) [[]] 0 0 := by
  have hN : ∀ p x, addN (fun _ => none) [] (g, b) p = some x → p = [] ∧ x = (g, b) := fun p x h => by
    unfold addN at h
    by_cases e : p = []
    · rw [if_pos e] at h
      injection h with h
      exact ⟨e, h.symm⟩
    · rw [if_neg e] at h; cases h
  refine ⟨⟨fun p x hx => ?_, fun p x hx => ?_, fun p q x y hx hy hne => ?_, fun p r hp => ?_, fun p x hx => ?_⟩, ⟨(g, b), rfl, ht⟩, List.nodup_cons.2 ⟨by simp, List.nodup_nil⟩, fun p => ?_, fun p hp => absurd hp (by omega), h3⟩
  · obtain ⟨rfl, rfl⟩ := hN p x hx
    exact hg
  · obtain ⟨rfl, rfl⟩ := hN p x hx
    refine ⟨0, Nat.le_refl _, ?_⟩
    have : kidV (addN (fun _ => none) [] (g, b)) [] = fun _ => none := by
      funext s
      unfold kidV addN
      rw [if_neg (by simp)]
      rfl
    rw [this]
    exact hb
  · exact absurd ((hN p x hx).1.trans (hN q y hy).1.symm) hne
  · unfold addN at hp
    rw [if_neg (by simp)] at hp
    cases hp
  · obtain ⟨rfl, rfl⟩ := hN p x hx
    exact ⟨h1, h2⟩
  · rw [List.mem_singleton]
    unfold addN
    by_cases e : p = []
    · rw [if_pos e]; simp [e]
    · rw [if_neg e]; simp [e]

set_option maxHeartbeats 400000 in
theorem tnew_any (w : World) : Calls Try.prog 11 #[] w fun e w' => ∃ t N, e = .returned (.pointer (some ⟨t, 0, none⟩)) ∧ TrieN w' w.heap.size t 0 N (fun _ => 0) [[]] 0 0 ∧ Below w.heap.size w w' := by
  obtain ⟨b, hb⟩ : ∃ b, w.heap.size = b := ⟨_, rfl⟩
  have HB := hide ((((Below.refl w.heap.size w).alloc (Nat.le_refl _) (.map #[] 0)).alloc (by simp) (.cells #[.int .i64 0, .map (some b)] 75)).alloc (by simp; omega) (.cells #[.pointer (some ⟨b + 1, 0, none⟩), .int .i64 0, .int .i64 0, .int .i64 1] 77))
  have HM := hide (((MapM.newAt hb).alloc (.cells #[.int .i64 0, .map (some b)] 75)).alloc (.cells #[.pointer (some ⟨b + 1, 0, none⟩), .int .i64 0, .int .i64 0, .int .i64 1] 77))
  have HG := hide ((Box.newAt (g := b + 1) (w := w.alloc (.map #[] 0)) (by simp [hb]) 75 #[.int .i64 0, .map (some b)]).alloc (.cells #[.pointer (some ⟨b + 1, 0, none⟩), .int .i64 0, .int .i64 0, .int .i64 1] 77))
  have HT := hide (Box.newAt (g := b + 2) (w := (w.alloc (.map #[] 0)).alloc (.cells #[.int .i64 0, .map (some b)] 75)) (by simp [hb]) 77 #[.pointer (some ⟨b + 1, 0, none⟩), .int .i64 0, .int .i64 0, .int .i64 1])
  have hmk := run_makeMap (P := Try.prog) 73 w
  rw [hb] at hmk ⊢
  have HBB := hide hb
  go_enter Try.func11, Try.ntmps11
  go_wp2_with fail
  go_ret
  exact ⟨b + 2, _, rfl, TrieN.start HG.out HM.out HT.out (by omega) (Nat.le_refl _) (by omega), HBB.out ▸ HB.out⟩

section
variable {w : World} {B t K words unlike : Nat} {N : List Int → Option Nd} {C : List Int → Nat} {Q : List (List Int)}
set_option maxHeartbeats 1000000 in
theorem find_any (A : Option Addr) (n c : Nat) (l : List Int) (h : TrieN w B t K N C Q words unlike) (hA : Runes w A n l) (hn : n ≤ 35184372088832) :
    Calls Try.prog 43 #[.pointer (some ⟨t, 0, none⟩), .slice A n c] w fun e w' => e = .returned (ptrN (N l)) ∧ w = w' := by
  obtain ⟨x0, hx0, hb⟩ := h.box
  have HT := hide h
  have HL := hide hA
  have c0 : w.cell? ⟨t, 0, none⟩ = some (.pointer (some ⟨x0.1, 0, none⟩)) := hb.cell 0
  have HX0 := hide hx0
  clear h hA hb hx0
  go_enter Try.func43, Try.ntmps43
  go_wp2_with fail
  clear c0
  go_loop [5, 14] (fun s5 s14 => ∃ (k : Nat) (x : Nd), k ≤ n ∧ s14 = .int .i64 k ∧ s5 = .pointer (some ⟨x.1, 0, none⟩) ∧ Hid (N (l.take k) = some x)) (fun _ s14 => n - (intOf s14).toNat)
  case atStart => exact ⟨0, x0, Nat.zero_le _, rfl, rfl, by rw [List.take_zero]; exact HX0.out⟩
  case round =>
    obtain ⟨k, x, hk, rfl, rfl, HX⟩ := hrel
    by_cases hlt : k < n
    · obtain ⟨ab, ao, rfl, hc⟩ := HL.out.at_ k hlt
      have hlk := HT.out.tree.look HX.out (HL.out.wf.bd k)
      have hl := HL.out.len
      rw [← take_snoc (by omega)] at hlk
      have hc1 : w.cell? ⟨x.1, 1, none⟩ = some (.map (some x.2)) := (HT.out.tree.node _ _ HX.out).cell 1
      have HPL := hide (show l.take (k + 1) <+: l from List.take_prefix _ _)
      clear hl
      cases hy : N (l.take (k + 1)) with
      | none =>
        rw [hy] at hlk
        have hN : N l = none := by
          cases hz : N l with
          | none => rfl
          | some z =>
            have := HT.out.tree.prefix_ HPL.out (by rw [hz]; rfl)
            rw [hy] at this
            cases this
        have hlk' : (Instr.lookup 73 (.map (some x.2)) (.int .i32 (nth l k)) false).run Try.prog w = .ok (.pointer none) w := hlk
        have HN := hide hN
        clear hy hlk hN
        go_wp2_with fail
        go_ret
        exact ⟨by rw [HN.out]; rfl, rfl⟩
      | some y =>
        rw [hy] at hlk
        have hlk' : (Instr.lookup 73 (.map (some x.2)) (.int .i32 (nth l k)) false).run Try.prog w = .ok (.pointer (some ⟨y.1, 0, none⟩)) w := hlk
        have HY := hide hy
        clear hy hlk
        go_wp2_with fail
        go_round
        case rel => exact ⟨k + 1, y, by omega, by go_num, rfl, HY.out⟩
        case measure => simp [intOf]; omega
    · obtain rfl : k = n := by omega
      have HN := hide (show N l = some x from by
        have := HX.out
        rwa [List.take_of_length_le (by have := HL.out.len; omega)] at this)
      clear HX
      go_wp2_with fail
      go_ret
      exact ⟨by rw [HN.out]; rfl, rfl⟩
set_option maxHeartbeats 1000000 in
theorem tcount_any (A : Option Addr) (n c : Nat) (l : List Int) (h : TrieN w B t K N C Q words unlike) (hA : Runes w A n l) (hn : n ≤ 35184372088832) :
    Calls Try.prog 16 #[.pointer (some ⟨t, 0, none⟩), .slice A n c] w fun e w' => e = .returned (.int .i64 (C l : Nat)) ∧ w = w' := by
  have HF := hide (find_any A n c l h hA hn)
  cases hN : N l with
  | none =>
    rw [hN] at HF
    have HC := hide (show C l = 0 from by
      by_cases h0 : 0 < C l
      · have := h.live l h0
        rw [hN] at this
        cases this
      · omega)
    clear hN h hA
    go_enter Try.func16, Try.ntmps16
    go_wp2_with (go_at_call 43; refine HF.out.mono ?_; rintro e w' ⟨rfl, rfl⟩; unfold ptrN)
    go_ret
    exact ⟨by rw [HC.out]; rfl, rfl⟩
  | some x =>
    rw [hN] at HF
    have c0 : w.cell? ⟨x.1, 0, none⟩ = some (.int .i64 (C l : Nat)) := (h.tree.node l x hN).cell 0
    clear hN h hA
    go_enter Try.func16, Try.ntmps16
    go_wp2_with (go_at_call 43; refine HF.out.mono ?_; rintro e w' ⟨rfl, rfl⟩; unfold ptrN)
    go_ret
    exact ⟨rfl, rfl⟩
end
end Go.Proofs.Ytchcpeenpijekaa

/- A trie: what an operation turns; Add's loop, in plain words. -/
namespace Go.Proofs.Ytchcpeenpijekaa
open Go.RowKit Go.Maps Go.MapKept Go.ChangeMaps
set_option linter.unusedVariables false

/-- A block of the trie. -/
def InT (N : List Int → Option Nd) (t g : Nat) : Prop := g = t ∨ ∃ p x, N p = some x ∧ (g = x.1 ∨ g = x.2)
/-- Only the trie's blocks have turned, and what is new. -/
structure Turn (N : List Int → Option Nd) (t : Nat) (w w' : World) : Prop where
  os : w'.os = w.os
  tape : w'.tape = w.tape
  output : w'.output = w.output
  size : w.heap.size ≤ w'.heap.size
  block : ∀ g, g < w.heap.size → ¬ InT N t g → w'.heap[g]? = w.heap[g]?
section
variable {w w' w1 w2 : World} {B t K k words unlike : Nat} {N N0 : List Int → Option Nd} {C : List Int → Nat} {Q Q0 : List (List Int)} {l p : List Int} {x y : Nd}
theorem Turn.refl (N : List Int → Option Nd) (t : Nat) (w : World) : Turn N t w w := ⟨rfl, rfl, rfl, Nat.le_refl _, fun _ _ _ => rfl⟩
theorem Turn.of_below (h : Below w.heap.size w w') : Turn N t w w' := ⟨h.os, h.tape, h.output, h.size, fun g hg _ => h.block g hg⟩
/-- One of its blocks, or a new one. -/
theorem Turn.grown (h : Turn N t w w1) {g : Nat} (hg : InT N t g ∨ w.heap.size ≤ g) (h2 : w1.grownBy w2 (some g)) : Turn N t w w2 :=
  ⟨h2.os.trans h.os, h2.tape.trans h.tape, h2.output.trans h.output, Nat.le_trans h.size h2.size, fun i hi hn => by
    refine (h2.block i (Nat.lt_of_lt_of_le hi h.size) fun e => ?_).trans (h.block i hi hn)
    injection e with e
    rcases hg with hg | hg
    · exact hn (e ▸ hg)
    · omega⟩
theorem Turn.next (h : Turn N t w w1) (h2 : Below w1.heap.size w1 w2) : Turn N t w w2 :=
  ⟨h2.os.trans h.os, h2.tape.trans h.tape, h2.output.trans h.output, Nat.le_trans h.size h2.size, fun i hi hn => (h2.block i (Nat.lt_of_lt_of_le hi h.size)).trans (h.block i hi hn)⟩
theorem set_grown (w : World) (a : Addr) (u : Value) : w.grownBy (w.setCell a u) (some a.block) :=
  ⟨rfl, rfl, rfl, by simp [World.setCell], fun i hi hne => Below.heap_setCell w a u i fun e => hne (by rw [e])⟩
theorem Turn.set (h : Turn N t w w1) {a : Addr} (hg : InT N t a.block ∨ w.heap.size ≤ a.block) (u : Value) : Turn N t w (w1.setCell a u) := h.grown hg (set_grown w1 a u)
theorem TrieN.inB (h : TrieN w B t K N C Q words unlike) {g : Nat} (hg : InT N t g) : B ≤ g := by
  rcases hg with rfl | ⟨p, x, hx, rfl | rfl⟩
  · exact h.base
  · exact (h.tree.base p x hx).1
  · exact (h.tree.base p x hx).2
theorem TrieN.inLt (h : TrieN w B t K N C Q words unlike) {g : Nat} (hg : InT N t g) : g < w.heap.size := by
  rcases hg with rfl | ⟨p, x, hx, rfl | rfl⟩
  · exact h.lt
  · exact (h.tree.lt hx).1
  · exact (h.tree.lt hx).2
/-- What lies ahead of the trie stays. -/
theorem Turn.low (h : Turn N t w w') (hT : TrieN w B t K N C Q words unlike) (hB : B ≤ w.heap.size) : Below B w w' :=
  ⟨h.os, h.tape, h.output, h.size, fun g hg => h.block g (by omega) fun e => by have := hT.inB e; omega⟩
theorem Turn.cells (h : Turn N t w w') (hT : TrieN w B t K N C Q words unlike) {g : Nat} {cs : Array Value} {ty : TypeId} {kk : Nat × Nat} (ho : w.heap[g]? = some (.cells cs ty kk)) (h1 : ty ≠ 75) (h2 : ty ≠ 77) : w'.heap[g]? = w.heap[g]? := by
  refine h.block g (Array.getElem?_eq_some_iff.1 ho).1 fun e => ?_
  rcases e with rfl | ⟨p, x, hx, rfl | rfl⟩
  · obtain ⟨x0, _, hb⟩ := hT.box
    unfold Box at hb
    rw [ho] at hb
    injection hb with hb
    injection hb with _ hb
    exact h2 hb
  · have hb := hT.tree.node p x hx
    unfold Box at hb
    rw [ho] at hb
    injection hb with hb
    injection hb with _ hb
    exact h1 hb
  · obtain ⟨n, _, hm⟩ := hT.tree.kids p x hx
    obtain ⟨o, h3, h4⟩ := hm.noCells
    rw [ho] at h3
    injection h3 with h3
    subst h3
    cases h4
theorem Turn.box (h : Turn N t w w') (hT : TrieN w B t K N C Q words unlike) {g : Nat} {cs : Array Value} {ty : TypeId} (ho : Box w g ty cs) (h1 : ty ≠ 75) (h2 : ty ≠ 77) : Box w' g ty cs := (h.cells hT ho h1 h2).trans ho
theorem Turn.runes (h : Turn N t w w') (hT : TrieN w B t K N C Q words unlike) {A : Option Addr} {n : Nat} {s : List Int} (hr : Runes w A n s) : Runes w' A n s :=
  hr.keep fun b o ha hn => h.block b (hr.lt hn ha) fun e => by
    obtain ⟨b', o', ha', hc⟩ := hr.at_ 0 hn
    rw [ha] at ha'
    injection ha' with ha'
    injection ha' with e1 e2
    subst e1
    rcases e with rfl | ⟨p, x, hx, rfl | rfl⟩
    · obtain ⟨x0, _, hb⟩ := hT.box
      rw [hb.cell] at hc
      have h4 : ∀ i : Nat, (#[Value.pointer (some ⟨x0.1, 0, none⟩), .int .i64 (words : Nat), .int .i64 (unlike : Nat), .int .i64 (Q.length : Nat)] : Array Value)[i]? ≠ some (.int .i32 (nth s 0)) := fun i => by
        match i with
        | 0 => simp
        | 1 => simp
        | 2 => simp
        | 3 => simp
        | i + 4 => simp
      exact h4 _ hc
    · rw [(hT.tree.node p x hx).cell] at hc
      have h4 : ∀ i : Nat, (#[Value.int .i64 (C p : Nat), .map (some x.2)] : Array Value)[i]? ≠ some (.int .i32 (nth s 0)) := fun i => by
        match i with
        | 0 => simp
        | 1 => simp
        | i + 2 => simp
      exact h4 _ hc
    · obtain ⟨n, _, hm⟩ := hT.tree.kids p x hx
      obtain ⟨ob, h3, h4⟩ := hm.noCells
      simp only [World.cell?, h3] at hc
      cases ob <;> simp_all [Obj.isCells]

/-- Between two rounds of Add. -/
structure AddSt (w wr : World) (B t K k : Nat) (N0 N : List Int → Option Nd) (C : List Int → Nat) (Q0 Q : List (List Int)) (words unlike : Nat) (l : List Int) (x : Nd) : Prop where
  tn : TrieN wr B t (K + k) N C Q words unlike
  at_ : N (l.take k) = some x
  mem : ∀ p, p ∈ Q ↔ p ∈ Q0 ∨ p <+: l.take k
  old : ∀ p y, N p = some y → N0 p = some y ∨ (w.heap.size ≤ y.1 ∧ w.heap.size ≤ y.2)
  turn : Turn N0 t w wr
theorem AddSt.start (h : TrieN w B t K N C Q words unlike) (l : List Int) (hx : N [] = some x) : AddSt w w B t K 0 N N C Q Q words unlike l x :=
  ⟨h, by rw [List.take_zero]; exact hx, fun p => by
    rw [List.take_zero, List.prefix_nil]
    constructor
    · exact .inl
    · rintro (h1 | rfl)
      · exact h1
      · exact (h.mem []).2 (by rw [hx]; rfl), fun p y h => .inl h, Turn.refl _ _ _⟩
theorem pre_snoc {p l : List Int} {k : Nat} (hk : k < l.length) : p <+: l.take (k + 1) ↔ p = l.take (k + 1) ∨ p <+: l.take k := by
  rw [take_snoc hk]
  exact List.prefix_concat_iff
theorem AddSt.yes {wr : World} (h : AddSt w wr B t K k N0 N C Q0 Q words unlike l x) (hk : k < l.length) (hy : N (l.take (k + 1)) = some y) : AddSt w wr B t K (k + 1) N0 N C Q0 Q words unlike l y :=
  ⟨⟨h.tn.tree.mono (by omega), h.tn.box, h.tn.one, h.tn.mem, h.tn.live, h.tn.base⟩, hy, fun p => by
    rw [h.mem, pre_snoc hk]
    constructor
    · rintro (h1 | h1)
      · exact .inl h1
      · exact .inr (.inr h1)
    · rintro (h1 | h1 | h1)
      · exact .inl h1
      · exact (h.mem p).1 ((h.tn.mem p).2 (by rw [h1, hy]; rfl))
      · exact .inr h1, h.old, h.turn⟩
theorem AddSt.no {wr : World} (h : AddSt w wr B t K k N0 N C Q0 Q words unlike l x) (hk : k < l.length) (hy : N (l.take (k + 1)) = none) (hr : I32 (nth l k)) {g b n : Nat} (hwB : B ≤ w.heap.size)
    (hb : Below wr.heap.size wr w1) (hg : Box w1 g 75 #[.int .i64 0, .map (some b)]) (hm : MapM w1 b 0 fun _ => none) (hgs : wr.heap.size ≤ g) (hbs : wr.heap.size ≤ b)
    (hs : MapM w2 x.2 n (updM (kidV N (l.take k)) (nth l k) (some (.pointer (some ⟨g, 0, none⟩))))) (hnK : n ≤ K + k + 1) (hg2 : w1.grownBy w2 (some x.2)) :
    AddSt w (w2.setCell ⟨t, 3, none⟩ (.int .i64 ((Q.length + 1 : Nat) : Int))) B t K (k + 1) N0 (addN N (l.take (k + 1)) (g, b)) C Q0 (l.take (k + 1) :: Q) words unlike l (g, b) := by
  have hts := take_snoc hk
  have hC : C (l.take (k + 1)) = 0 := by
    by_cases h0 : 0 < C (l.take (k + 1))
    · have := h.tn.live _ h0
      rw [hy] at this
      cases this
    · omega
  rw [hts] at hy hC
  have hsz := h.turn.size
  have hT := h.tn.tree.grow h.at_ hr hy hC hb hg hm hgs hbs (by omega) hs hnK hg2
  rw [← hts] at hT hy
  obtain ⟨x0, hx0, hbx⟩ := h.tn.box
  have hxt := h.tn.off h.at_
  have htl := h.tn.lt
  have hbx2 := (hbx.below hb).grown hg2 (fun e => hxt.2 (by injection e with e; exact e.symm))
  have hne : l.take (k + 1) ≠ [] := fun e => by
    have := congrArg List.length e
    rw [List.length_take, List.length_nil] at this
    omega
  refine ⟨⟨hT.far _ fun p z hz => ?_, ⟨x0, ?_, ?_⟩, ?_, fun p => ?_, fun p hp => ?_, h.tn.base⟩, ?_, fun p => ?_, fun p z hz => ?_, ?_⟩
  · unfold addN at hz
    by_cases e : p = l.take (k + 1)
    · rw [if_pos e] at hz
      injection hz with hz
      subst hz
      exact ⟨by show g ≠ t; omega, by show b ≠ t; omega⟩
    · rw [if_neg e] at hz
      exact h.tn.off hz
  · unfold addN
    rw [if_neg fun e => hne e.symm]
    exact hx0
  · have := hbx2.set 3 (.int .i64 ((Q.length + 1 : Nat) : Int))
    exact this
  · refine List.nodup_cons.2 ⟨fun hq => ?_, h.tn.one⟩
    have := (h.tn.mem _).1 hq
    rw [hy] at this
    cases this
  · rw [List.mem_cons, h.tn.mem]
    unfold addN
    by_cases e : p = l.take (k + 1)
    · rw [if_pos e]; simp [e]
    · rw [if_neg e]; simp [e]
  · have := h.tn.live p hp
    unfold addN
    by_cases e : p = l.take (k + 1)
    · rw [if_pos e]; rfl
    · rw [if_neg e]; exact this
  · unfold addN
    rw [if_pos rfl]
  · rw [List.mem_cons, h.mem, pre_snoc hk]
    constructor
    · rintro (h1 | h1 | h1)
      · exact .inr (.inl h1)
      · exact .inl h1
      · exact .inr (.inr h1)
    · rintro (h1 | h1 | h1)
      · exact .inr (.inl h1)
      · exact .inl h1
      · exact .inr (.inr h1)
  · unfold addN at hz
    by_cases e : p = l.take (k + 1)
    · rw [if_pos e] at hz
      injection hz with hz
      subst hz
      exact .inr ⟨by show _ ≤ g; omega, by show _ ≤ b; omega⟩
    · rw [if_neg e] at hz
      exact h.old p z hz
  · refine ((h.turn.next hb).grown ?_ hg2).set (.inl (.inl rfl)) _
    rcases h.old _ _ h.at_ with h1 | h1
    · exact .inl (.inr ⟨_, _, h1, .inr rfl⟩)
    · exact .inr h1.2
end
end Go.Proofs.Ytchcpeenpijekaa

/- A trie: Add. -/
namespace Go.Proofs.Ytchcpeenpijekaa
open Go.RowKit Go.Maps Go.MapKept Go.ChangeMaps
set_option linter.unusedVariables false

section
variable {w w' w1 w2 : World} {B t K k words unlike : Nat} {N N0 : List Int → Option Nd} {C : List Int → Nat} {Q Q0 : List (List Int)} {l p : List Int} {x y : Nd}
theorem TrieN.setU (h : TrieN w B t K N C Q words unlike) (u : Nat) : TrieN (w.setCell ⟨t, 2, none⟩ (.int .i64 (u : Int))) B t K N C Q words u := by
  obtain ⟨x, hx, hb⟩ := h.box
  exact ⟨h.tree.far _ fun p y hy => h.off hy, ⟨x, hx, hb.set 2 _⟩, h.one, h.mem, h.live, h.base⟩
theorem TrieN.setW (h : TrieN w B t K N C Q words unlike) (u : Nat) : TrieN (w.setCell ⟨t, 1, none⟩ (.int .i64 (u : Int))) B t K N C Q u unlike := by
  obtain ⟨x, hx, hb⟩ := h.box
  exact ⟨h.tree.far _ fun p y hy => h.off hy, ⟨x, hx, hb.set 1 _⟩, h.one, h.mem, h.live, h.base⟩
theorem TrieN.setC (h : TrieN w B t K N C Q words unlike) (hx : N p = some x) (c : Nat) : TrieN (w.setCell ⟨x.1, 0, none⟩ (.int .i64 (c : Int))) B t K N (fun q => if q = p then c else C q) Q words unlike := by
  obtain ⟨x0, hx0, hb⟩ := h.box
  refine ⟨h.tree.count hx c, ⟨x0, hx0, hb.far (p := ⟨x.1, 0, none⟩) (fun e => (h.off hx).1 e.symm) _⟩, h.one, h.mem, fun q hq => ?_, h.base⟩
  by_cases e : q = p
  · rw [e, hx]; rfl
  · rw [if_neg e] at hq
    exact h.live q hq

theorem plusN_le' (M : Int → Option Value) (r : Int) (n : Nat) : plusN M r n ≤ n + 1 := by unfold plusN; split <;> omega
/-- A store into a map whose run is known. -/
theorem wpList_storeRun {w w' : World} {ops : Array Oper} {rest : List Oper} {o : Oper} {a : Act} {Q : Exit → Act → World → Prop} (hg : o.guard = none) (m x v : Operand) (hop : o.op = Op.mapUpdate 73 m x v) {mv xv vv : Value}
    (hm : a.eval m = mv) (hx : a.eval x = xv) (hv : a.eval v = vv) (hrun : (Instr.mapUpdate 73 mv xv vv).run Try.prog w = .ok () w')
    (hK : wpList Try.prog ops Q rest (a.put o.dst undef) w') : wpList Try.prog ops Q (o :: rest) a w := by
  refine wpList_plain hg fun K' hK' => ?_
  unfold Oper.wp
  simp [execOp, hop, hm, hx, hv, hrun, Result.andThen]
  exact hK' _ _ hK
/-- What Add leaves. -/
def AddR (w : World) (B t K n : Nat) (N : List Int → Option Nd) (C : List Int → Nat) (Q : List (List Int)) (words unlike : Nat) (l : List Int) (e : Ending) (w' : World) : Prop :=
  e = .returned (.int .i64 0) ∧ Turn N t w w' ∧ ∃ N' Q', TrieN w' B t (K + n) N' (fun q => if q = l then C l + 1 else C q) Q' (words + 1) (if C l = 0 then unlike + 1 else unlike) ∧ ∀ p, p ∈ Q' ↔ p ∈ Q ∨ p <+: l
theorem AddSt.done {wr : World} (h : AddSt w wr B t K k N0 N C Q0 Q words unlike l x) (hk : k = l.length) :
    (0 < C l → AddR w B t K k N0 C Q0 words unlike l (.returned (.int .i64 0)) ((wr.setCell ⟨x.1, 0, none⟩ (.int .i64 ((C l + 1 : Nat) : Int))).setCell ⟨t, 1, none⟩ (.int .i64 ((words + 1 : Nat) : Int)))) ∧
      (C l = 0 → AddR w B t K k N0 C Q0 words unlike l (.returned (.int .i64 0)) (((wr.setCell ⟨t, 2, none⟩ (.int .i64 ((unlike + 1 : Nat) : Int))).setCell ⟨x.1, 0, none⟩ (.int .i64 ((C l + 1 : Nat) : Int))).setCell ⟨t, 1, none⟩ (.int .i64 ((words + 1 : Nat) : Int)))) := by
  have hx := h.at_
  have hm := h.mem
  rw [hk, List.take_of_length_le (Nat.le_refl _)] at hx hm
  have hin : InT N0 t x.1 ∨ w.heap.size ≤ x.1 := by
    rcases h.old _ _ h.at_ with h1 | h1
    · exact .inl (.inr ⟨_, _, h1, .inl rfl⟩)
    · exact .inr h1.1
  refine ⟨fun h0 => ?_, fun h0 => ?_⟩
  · refine ⟨rfl, (h.turn.set (a := ⟨x.1, 0, none⟩) hin _).set (a := ⟨t, 1, none⟩) (.inl (.inl rfl)) _, N, Q, ?_, hm⟩
    rw [if_neg (by omega)]
    exact (h.tn.setC hx _).setW _
  · refine ⟨rfl, ((h.turn.set (a := ⟨t, 2, none⟩) (.inl (.inl rfl)) _).set (a := ⟨x.1, 0, none⟩) hin _).set (a := ⟨t, 1, none⟩) (.inl (.inl rfl)) _, N, Q, ?_, hm⟩
    rw [if_pos h0]
    exact ((h.tn.setU _).setC hx _).setW _

set_option maxRecDepth 100000 in
set_option maxHeartbeats 2000000 in
theorem tadd_ok (A : Option Addr) (n c : Nat) (l : List Int) (h : TrieN w B t K N C Q words unlike) (hA : Runes w A n l) (hmay : mayS l = true) (hn0 : 0 < n) (hn : n ≤ 1000) (hw : words < 1000) (hB : B ≤ w.heap.size) (hK : K ≤ 1000000000) (hu : unlike ≤ 1000000000) (hQ : Q.length ≤ 1000000000) (hC : C l ≤ 1000000000) :
    Calls Try.prog 18 #[.pointer (some ⟨t, 0, none⟩), .slice A n c] w (AddR w B t K n N C Q words unlike l) := by
  obtain ⟨x0, hx0, hb⟩ := h.box
  have M1 := hide (may_any A n c l w hA (by omega))
  rw [hmay] at M1
  have HST := hide (AddSt.start h l hx0)
  have HL := hide hA
  have HT := hide h
  have hlen := hA.len
  have HLN := hide hlen
  have hd0 : ((n : Int) == 0) = false := by simp; omega
  have hd1 : decide ((1000 : Int) < (n : Int)) = false := by simp; omega
  have hd2 : decide ((1000 : Int) ≤ (words : Int)) = false := by simp; omega
  have c0 : w.cell? ⟨t, 0, none⟩ = some (.pointer (some ⟨x0.1, 0, none⟩)) := hb.cell 0
  have c1 : w.cell? ⟨t, 1, none⟩ = some (.int .i64 (words : Int)) := hb.cell 1
  clear h hA hb hx0 hmay hlen
  go_enter Try.func18, Try.ntmps18
  go_wp2_with (go_at_call 44; refine M1.out.mono ?_; rintro e w1 ⟨rfl, rfl⟩)
  clear c0 c1 M1 hd1 hd2
  go_loopw [5, 37] (fun s5 s37 wr => ∃ (k : Nat) (x : Nd) (N' : List Int → Option Nd) (Q' : List (List Int)), k ≤ n ∧ s37 = .int .i64 k ∧ s5 = .pointer (some ⟨x.1, 0, none⟩) ∧ Q'.length ≤ 1000000000 + k ∧ Hid (AddSt w wr B t K k N N' C Q Q' words unlike l x)) (fun _ s37 _ => n - (intOf s37).toNat)
  case atStart => exact ⟨0, x0, N, Q, Nat.zero_le _, rfl, rfl, by omega, HST.out⟩
  case round =>
    obtain ⟨k, x, N', Q', hk, rfl, rfl, hQ', HS⟩ := hrel
    by_cases hlt : k < n
    · have HLW := hide (HS.out.turn.runes HT.out HL.out)
      obtain ⟨ab, ao, rfl, hc⟩ := HLW.out.at_ k hlt
      have hwf := HL.out.wf.bd k
      have hlk := HS.out.tn.tree.look HS.out.at_ hwf
      rw [← take_snoc (by have := HLN.out; omega)] at hlk
      have hc1 : wr.cell? ⟨x.1, 1, none⟩ = some (.map (some x.2)) := (HS.out.tn.tree.node _ _ HS.out.at_).cell 1
      have HW := hide hwf
      clear hwf
      cases hy : N' (l.take (k + 1)) with
      | some y =>
        rw [hy] at hlk
        have hlk' : (Instr.lookup 73 (.map (some x.2)) (.int .i32 (nth l k)) false).run Try.prog wr = .ok (.pointer (some ⟨y.1, 0, none⟩)) wr := hlk
        have HY := hide (HS.out.yes (by have := HLN.out; omega) hy)
        clear hy hlk
        go_wp2_with fail
        go_roundw
        case rel => exact ⟨k + 1, y, N', Q', by omega, by go_num, rfl, by omega, HY.out⟩
        case measure => simp [intOf]; omega
      | none =>
        rw [hy] at hlk
        have hlk' : (Instr.lookup 73 (.map (some x.2)) (.int .i32 (nth l k)) false).run Try.prog wr = .ok (.pointer none) wr := hlk
        have HY := hide hy
        clear hy hlk
        go_upto_region 12 with fail
        obtain ⟨b, hbb⟩ : ∃ b, wr.heap.size = b := ⟨_, rfl⟩
        have hmk := run_makeMap (P := Try.prog) 73 wr
        rw [hbb] at hmk
        have hB1 := ((Below.refl wr.heap.size wr).alloc (Nat.le_refl _) (.map #[] 0)).alloc (by simp) (.cells #[.int .i64 0, .map (some b)] 75)
        have hG1 := Box.newAt (g := b + 1) (w := wr.alloc (.map #[] 0)) (by simp [hbb]) 75 #[.int .i64 0, .map (some b)]
        have hM1 := (MapM.newAt hbb).alloc (.cells #[.int .i64 0, .map (some b)] 75)
        obtain ⟨m, hmK, hm⟩ := HS.out.tn.tree.kids _ _ HS.out.at_
        obtain ⟨w2, hrun, hm2, hg2, hs2⟩ := (hm.below hB1).store HW.out (.pointer (some ⟨b + 1, 0, none⟩)) (by unfold maxLen; omega)
        have HN := hide (HS.out.no (l := l) (by have := HLN.out; omega) HY.out HW.out hB hB1 hG1 hM1 (by omega) (by omega) hm2 (by have := plusN_le' (kidV N' (l.take k)) (nth l k) m; omega) hg2)
        obtain ⟨xt, hxt, hbt⟩ := HS.out.tn.box
        have hbt2 := (hbt.below hB1).grown hg2 (fun e => (HS.out.tn.off HS.out.at_).2 (by injection e with e; exact e.symm))
        have c3 : w2.cell? ⟨t, 3, none⟩ = some (.int .i64 (Q'.length : Int)) := hbt2.cell 3
        have c3f := hbt2.frozen 3
        have e3 : ((Q'.length + 1 : Nat) : Int) = (Q'.length : Int) + 1 := by omega
        rw [e3] at HN
        have hNx : addN N' (l.take (k + 1)) (b + 1, b) (l.take k) = some x := by
          unfold addN
          rw [if_neg fun e => by
            have := congrArg List.length e
            rw [List.length_take, List.length_take] at this
            have := HLN.out
            omega]
          exact HS.out.at_
        have hlk3 := HN.out.tn.tree.look hNx HW.out
        rw [← take_snoc (by have := HLN.out; omega)] at hlk3
        have hlk3' : (Instr.lookup 73 (.map (some x.2)) (.int .i32 (nth l k)) false).run Try.prog (w2.setCell ⟨t, 3, none⟩ (.int .i64 ((Q'.length : Int) + 1))) = .ok (.pointer (some ⟨b + 1, 0, none⟩)) (w2.setCell ⟨t, 3, none⟩ (.int .i64 ((Q'.length : Int) + 1))) := by
          have e : addN N' (l.take (k + 1)) (b + 1, b) (l.take (k + 1)) = some (b + 1, b) := by unfold addN; rw [if_pos rfl]
          rw [e] at hlk3
          exact hlk3
        have hc4 : (w2.setCell ⟨t, 3, none⟩ (.int .i64 ((Q'.length : Int) + 1))).cell? ⟨x.1, 1, none⟩ = some (.map (some x.2)) := (HN.out.tn.tree.node _ _ hNx).cell 1
        have HBB := hide hbb
        clear hlk' hlk3 hB1 hG1 hM1 hm hm2 hg2 hs2 hxt hbt hbt2 e3 hNx
        go_upto_region 14 with (at_mapUpdate; refine wpList_storeRun rfl (.tmp 51) (.tmp 52) (.tmp 55) rfl rfl rfl rfl hrun ?_)
        clear hmk hrun c3 c3f hc1 hc hbb
        generalize w2.setCell ⟨t, 3, none⟩ (.int .i64 ((Q'.length : Int) + 1)) = w3 at HN hlk3' hc4 ⊢
        go_wp2_with fail
        go_roundw
        case rel => exact ⟨k + 1, (b + 1, b), _, _, by omega, by go_num, rfl, by simp; omega, HN.out⟩
        case measure => simp [intOf]; omega
    · obtain rfl : k = n := by omega
      have hD := HS.out.done HLN.out.symm
      have hN := HS.out.at_
      have hnode := HS.out.tn.tree.node _ _ HS.out.at_
      rw [List.take_of_length_le (by have := HLN.out; omega)] at hN hnode
      obtain ⟨xt, hxt, hbt⟩ := HS.out.tn.box
      have hne := HS.out.tn.off HS.out.at_
      have c0 : wr.cell? ⟨x.1, 0, none⟩ = some (.int .i64 (C l : Nat)) := hnode.cell 0
      have c0f := hnode.frozen 0
      have c1 : wr.cell? ⟨t, 1, none⟩ = some (.int .i64 (words : Nat)) := hbt.cell 1
      have c2 : wr.cell? ⟨t, 2, none⟩ = some (.int .i64 (unlike : Nat)) := hbt.cell 2
      have c1f := hbt.frozen 1
      have c2f := hbt.frozen 2
      have hn1 : x.1 ≠ t := hne.1
      have hn2 : t ≠ x.1 := fun e => hne.1 e.symm
      have e1 : ((C l + 1 : Nat) : Int) = (C l : Int) + 1 := by omega
      have e2 : ((words + 1 : Nat) : Int) = (words : Int) + 1 := by omega
      have e3 : ((unlike + 1 : Nat) : Int) = (unlike : Int) + 1 := by omega
      rw [e1, e2, e3] at hD
      have HD := hide hD
      clear hD hN hnode hxt hbt hne e1 e2 e3
      by_cases h0 : C l = 0
      · have hd0 : (((C l : Nat) : Int) == 0) = true := by simp [h0]
        have HD0 := hide (HD.out.2 h0)
        clear h0 HD
        go_wp2_with fail
        go_ret
        exact HD0.out
      · have hd0 : (((C l : Nat) : Int) == 0) = false := by simp [h0]
        have HD0 := hide (HD.out.1 (by omega))
        clear h0 HD
        go_wp2_with fail
        go_ret
        exact HD0.out
end
end Go.Proofs.Ytchcpeenpijekaa
