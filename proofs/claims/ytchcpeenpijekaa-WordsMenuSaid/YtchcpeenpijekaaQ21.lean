/- Pieces, joined: TriJ, MenQ. -/
import Derived.Test.YtchcpeenpijekaaQ20
import Derived.Test.YtchcpeenpijekaaQ08
import Derived.Test.YtchcpeenpijekaaQ04

/- A trie that holds a bag: Add, Drop, With, Count, Len, Nodes. -/
namespace Go.Proofs.Ytchcpeenpijekaa
open Go.RowKit Go.Maps Go.MapKept Go.ChangeMaps Go.Shelf
set_option linter.unusedVariables false

/-- What an operation on a trie leaves as it was: all below B, all texts, all blocks of other types. -/
structure Calm (B : Nat) (w w' : World) : Prop where
  low : Below B w w'
  runes : ∀ {A : Option Addr} {n : Nat} {s : List Int}, Runes w A n s → Runes w' A n s
  cells : ∀ {g : Nat} {cs : Array Value} {ty : TypeId} {k : Nat × Nat}, w.heap[g]? = some (.cells cs ty k) → ty ≠ 75 → ty ≠ 77 → w'.heap[g]? = w.heap[g]?
section
variable {B : Nat} {w w' w1 w2 : World}
theorem Calm.of_below (h : Below w.heap.size w w') (hB : B ≤ w.heap.size) : Calm B w w' := ⟨h.mono hB, fun hr => hr.below h, fun ho _ _ => h.block _ (Array.getElem?_eq_some_iff.1 ho).1⟩
theorem Calm.trans (h : Calm B w w1) (k : Calm B w1 w2) : Calm B w w2 := ⟨h.low.trans k.low, fun hr => k.runes (h.runes hr), fun ho h1 h2 => (k.cells ((h.cells ho h1 h2).trans ho) h1 h2).trans (h.cells ho h1 h2)⟩
theorem Calm.size (h : Calm B w w') : w.heap.size ≤ w'.heap.size := h.low.size
theorem Calm.box (h : Calm B w w') {g : Nat} {cs : Array Value} {ty : TypeId} (ho : Box w g ty cs) (h1 : ty ≠ 75) (h2 : ty ≠ 77) : Box w' g ty cs := (h.cells ho h1 h2).trans ho
theorem Calm.own (h : Calm B w w') {B' n c : Nat} {A : Option Addr} {l : List Int} (ho : Own w B' A n c l) : Own w' B' A n c l :=
  ho.keep fun g e => by
    obtain ⟨cur, hc⟩ := ho.obj (g := g) (by rw [e]; rfl)
    exact h.cells hc (by decide) (by decide)
theorem Calm.rowG (h : Calm B w w') {et : TypeId} {sz B' n c : Nat} {A : Option Addr} {vs : List (List Value)} (ho : RowG w et sz B' A n c vs) (h1 : et ≠ 75) (h2 : et ≠ 77) : RowG w' et sz B' A n c vs :=
  ho.keep fun g e => by
    obtain ⟨cur, hc⟩ := ho.obj e
    exact h.cells hc h1 h2
theorem Turn.calm {N : List Int → Option Nd} {t K words unlike : Nat} {C : List Int → Nat} {Q : List (List Int)} (h : Turn N t w w') (hT : TrieN w B t K N C Q words unlike) (hB : B ≤ w.heap.size) : Calm B w w' :=
  ⟨h.low hT hB, fun hr => h.runes hT hr, fun ho h1 h2 => h.cells hT ho h1 h2⟩
end

def addE (L : List Itm) (l : List Int) : Int := if l.length = 0 ∨ mayS l = false then 1 else if 1000 < l.length ∨ 1000 ≤ allB L then 3 else 0
def addL (L : List Itm) (l : List Int) : List Itm := if addE L l = 0 then addB L l else L
def dropE (L : List Itm) (l : List Int) : Int := if cntB L l = 0 then 4 else 0
/-- A bag within the bounds. -/
structure Small (L : List Itm) : Prop where
  bag : BagW L
  len : ∀ x ∈ L, x.1.length ≤ 1000
  all : allB L ≤ 1000
/-- A trie at t that holds L. -/
def TrieB (w : World) (B t K : Nat) (L : List Itm) : Prop := Small L ∧ ∃ N Q, TrieS w B t K L N Q

theorem words_iff {L : List Itm} (hb : BagW L) (P : List Int → Prop) : (∃ x ∈ L, P x.1) ↔ ∃ v, 0 < cntB L v ∧ P v := by
  constructor
  · rintro ⟨x, hx, hp⟩
    exact ⟨x.1, by rw [cntB_mem hb hx]; exact hb.pos x hx, hp⟩
  · rintro ⟨v, hv, hp⟩
    exact ⟨_, cntB_pos hv, hp⟩
theorem words_add {L : List Itm} (hb : BagW L) (w : List Int) (P : List Int → Prop) : (∃ x ∈ addB L w, P x.1) ↔ (∃ x ∈ L, P x.1) ∨ P w := by
  rw [words_iff (addB_bag w hb), words_iff hb]
  constructor
  · rintro ⟨v, hv, hp⟩
    rw [cnt_addB w v hb] at hv
    by_cases e : v = w
    · exact .inr (e ▸ hp)
    · rw [if_neg e] at hv
      exact .inl ⟨v, hv, hp⟩
  · rintro (⟨v, hv, hp⟩ | hp)
    · refine ⟨v, ?_, hp⟩
      rw [cnt_addB w v hb]
      split <;> omega
    · exact ⟨w, by rw [cnt_addB w w hb, if_pos rfl]; omega, hp⟩
theorem Small.nil : Small [] := ⟨BagW.nil, (fun x h => by cases h), Nat.zero_le _⟩
theorem Small.add {L : List Itm} (h : Small L) (l : List Int) : Small (addL L l) := by
  unfold addL
  by_cases he : addE L l = 0
  · rw [if_pos he]
    unfold addE at he
    split at he
    · cases he
    · split at he
      · cases he
      · rename_i h1 h2
        refine ⟨addB_bag l h.bag, fun x hx => ?_, by rw [all_addB]; omega⟩
        rcases mem_addB hx with e | hx
        · rw [e]; omega
        · exact h.len x hx
  · rw [if_neg he]; exact h
theorem Small.drop {L : List Itm} (h : Small L) (l : List Int) : Small (dropB L l) := by
  refine ⟨dropB_bag l h.bag, fun x hx => ?_, ?_⟩
  · obtain ⟨y, hy, e⟩ := dropB_sub hx
    rw [← e]; exact h.len y hy
  · by_cases h0 : 0 < cntB L l
    · have := all_dropB h0 h.bag
      have := h.all
      omega
    · rw [dropB_no (by omega) h.bag]; exact h.all
theorem nodesGo_le : ∀ (v : List Int) (L : List Itm), (∀ x ∈ L, x.1.length ≤ 1000) → nodesGo v L ≤ 1000 * L.length
  | v, [], h => Nat.zero_le _
  | v, x :: L, h => by
    have h1 := nodesGo_le x.1 L fun y hy => h y (List.mem_cons_of_mem _ hy)
    have h2 := h x List.mem_cons_self
    rw [nodesGo, List.length_cons]
    omega
theorem TrieS.q {w : World} {B t K : Nat} {L : List Itm} {N : List Int → Option Nd} {Q : List (List Int)} (h : TrieS w B t K L N Q) : Q.length = nodesB L := nodes_card h.bag h.trie.one fun p => by rw [h.trie.mem, h.mem]
theorem TrieS.qle {w : World} {B t K : Nat} {L : List Itm} {N : List Int → Option Nd} {Q : List (List Int)} (h : TrieS w B t K L N Q) (hs : Small L) : Q.length ≤ 1000001 ∧ L.length ≤ 1000 := by
  have h1 := h.q
  have h2 := nodesGo_le [] L hs.len
  have h3 := len_le_all hs.bag
  have h4 := hs.all
  unfold nodesB at h1
  omega

section
variable {w : World} {B t K : Nat} {L : List Itm} {A : Option Addr} {n c : Nat} {l : List Int}
theorem TrieB.below {w' : World} (h : TrieB w B t K L) (hb : Below w.heap.size w w') : TrieB w' B t K L := by
  obtain ⟨h1, N, Q, h2⟩ := h
  exact ⟨h1, N, Q, h2.below hb⟩
theorem TrieB.other {w' : World} (h : TrieB w B t K L) {g : Nat} {cs : Array Value} {ty : TypeId} {k : Nat × Nat} (ho : w.heap[g]? = some (.cells cs ty k)) (ht : ty ≠ 75) (ht2 : ty ≠ 77) (hg : w.grownBy w' (some g)) : TrieB w' B t K L := by
  obtain ⟨h1, N, Q, h2⟩ := h
  exact ⟨h1, N, Q, h2.trie.other ho ht ht2 hg, h2.bag, h2.mem⟩
theorem TrieB.lt (h : TrieB w B t K L) : t < w.heap.size := by
  obtain ⟨h1, N, Q, h2⟩ := h
  exact h2.trie.lt

/-- What Add leaves. -/
def AddQ (w : World) (B t K : Nat) (L : List Itm) (l : List Int) (e : Ending) (w' : World) : Prop := e = .returned (.int .i64 (addE L l)) ∧ Calm B w w' ∧ TrieB w' B t (K + 1000) (addL L l)
theorem tadd_any (h : TrieB w B t K L) (hA : Runes w A n l) (hn : n ≤ 35184372088832) (hB : B ≤ w.heap.size) (hK : K ≤ 1000000000) :
    Calls Try.prog 18 #[.pointer (some ⟨t, 0, none⟩), .slice A n c] w (AddQ w B t K L l) := by
  obtain ⟨hs, N, Q, hT⟩ := h
  have hl := hA.len
  have hq := hT.qle hs
  have stay : ∀ {E : Int} {e : Ending} {w' : World}, addE L l = E → E ≠ 0 → e = .returned (.int .i64 E) ∧ w = w' → AddQ w B t K L l e w' := fun {E e w'} h1 h2 ⟨h3, h4⟩ => by
    subst h4
    refine ⟨by rw [h3, h1], Calm.of_below (Below.refl _ _) hB, ?_⟩
    unfold addL
    rw [if_neg (by rw [h1]; exact h2)]
    exact ⟨hs, N, Q, ⟨hT.trie.tree.mono (by omega), hT.trie.box, hT.trie.one, hT.trie.mem, hT.trie.live, hT.trie.base⟩, hT.bag, hT.mem⟩
  by_cases h1 : n = 0 ∨ mayS l = false
  · exact (tadd_form (t := t) A n c l w hA hn h1).mono fun e w' h => stay (by unfold addE; rw [if_pos (by rw [hl]; exact h1)]) (by omega) h
  · have hmay : mayS l = true := by
      cases hm : mayS l with
      | true => rfl
      | false => exact absurd (.inr hm) h1
    by_cases h2 : 1000 < n ∨ 1000 ≤ allB L
    · exact (tadd_full A n c l hT.trie hA hmay (by omega) hn (by have := hs.all; omega) h2).mono fun e w' h => stay (by unfold addE; rw [if_neg (by rw [hl]; exact h1), if_pos (by rw [hl]; exact h2)]) (by omega) h
    · have hE : addE L l = 0 := by unfold addE; rw [if_neg (by rw [hl]; exact h1), if_neg (by rw [hl]; exact h2)]
      refine (tadd_ok A n c l hT.trie hA hmay (by omega) (by omega) (by omega) hB hK (by omega) (by omega) (by have := cnt_le_all L l; have := hs.all; omega)).mono ?_
      rintro e w' ⟨rfl, hturn, N', Q', hN', hQ'⟩
      have hC : (fun q => if q = l then cntB L l + 1 else cntB L q) = cntB (addB L l) := by
        funext q
        rw [cnt_addB l q hs.bag]
      have hU : (if cntB L l = 0 then L.length + 1 else L.length) = (addB L l).length := by
        rw [len_addB hs.bag]
        by_cases h0 : cntB L l = 0
        · rw [if_pos h0, if_neg (by omega)]
        · rw [if_neg h0, if_pos (by omega)]
      rw [hC, hU, ← all_addB L l] at hN'
      refine ⟨by rw [hE], hturn.calm hT.trie hB, hs.add l, N', Q', ?_⟩
      unfold addL
      rw [if_pos hE]
      refine ⟨⟨hN'.tree.mono (by omega), hN'.box, hN'.one, hN'.mem, hN'.live, hN'.base⟩, addB_bag l hs.bag, fun p => ?_⟩
      rw [← hN'.mem, hQ', hT.trie.mem, hT.mem, words_add hs.bag l fun v => p <+: v, or_assoc]

/-- What Drop leaves. -/
def DropQ (w : World) (B t K : Nat) (L : List Itm) (l : List Int) (e : Ending) (w' : World) : Prop := e = .returned (.int .i64 (dropE L l)) ∧ Calm B w w' ∧ TrieB w' B t K (dropB L l)
theorem tdrop_any (h : TrieB w B t K L) (hA : Runes w A n l) (hn : n ≤ 1000000) (hB : B ≤ w.heap.size) (hK : K ≤ 1000000000) :
    Calls Try.prog 14 #[.pointer (some ⟨t, 0, none⟩), .slice A n c] w (DropQ w B t K L l) := by
  obtain ⟨hs, N, Q, hT⟩ := h
  have hq := hT.qle hs
  by_cases h0 : cntB L l = 0
  · refine (tdrop_none A n c l hT.trie hA (by omega) h0).mono ?_
    rintro e w' ⟨rfl, rfl⟩
    refine ⟨by unfold dropE; rw [if_pos h0], Calm.of_below (Below.refl _ _) hB, ?_⟩
    rw [dropB_no h0 hs.bag]
    exact ⟨hs, N, Q, hT⟩
  · have hle := cnt_le_all L l
    have hall := hs.all
    have hpos := len_le_all hs.bag
    have hll : 0 < L.length := by have := posB_lt (L := L) (w := l) (by omega); omega
    refine (tdrop_ok A n c l hT.trie hA hn (by omega) (by omega) hB hK (by omega) (by omega) hll (by omega) (by omega)).mono ?_
    rintro e w' ⟨rfl, hturn, N', Q', i, hN', hEq, hEx⟩
    have hC : (fun q => if q = l then cntB L l - 1 else cntB L q) = cntB (dropB L l) := by
      funext q
      rw [cnt_dropB l q hs.bag]
    have hU : (if cntB L l = 1 then L.length - 1 else L.length) = (dropB L l).length := by rw [len_dropB (by omega) hs.bag]
    have hW : allB L - 1 = allB (dropB L l) := by have := all_dropB (L := L) (w := l) (by omega) hs.bag; omega
    have hCi : (if l.take i = l then cntB L l - 1 else cntB L (l.take i)) = cntB (dropB L l) (l.take i) := by rw [← hC]
    rw [hCi] at hEx
    rw [hC, hU, hW] at hN'
    have hbD := dropB_bag l hs.bag
    have hcnt : ∀ v, v ≠ l → 0 < cntB L v → 0 < cntB (dropB L l) v := fun v hv h => by
      rw [cnt_dropB l v hs.bag, if_neg hv]; exact h
    refine ⟨by unfold dropE; rw [if_neg h0], hturn.calm hT.trie hB, hs.drop l, N', Q', hN', hbD, fun p => ?_⟩
    rw [words_iff hbD fun v => p <+: v]
    constructor
    · intro hp
      rw [hEq] at hp
      by_cases hr : p <+: l ∧ i < p.length
      · rw [if_pos hr] at hp; cases hp
      · rw [if_neg hr] at hp
        rcases (hT.mem p).1 hp with h | ⟨x, hx, hpx⟩
        · exact .inl h
        · by_cases hxl : x.1 = l
          · rw [hxl] at hpx
            have hpi : p.length ≤ i := by
              by_cases h : i < p.length
              · exact absurd ⟨hpx, h⟩ hr
              · omega
            by_cases hp0 : p = []
            · exact .inl hp0
            · right
              have hpt : p <+: l.take i := by
                have h1 := List.prefix_iff_eq_take.1 hpx
                rw [h1]
                exact List.take_prefix_take_left hpi
              rcases hEx with h | ⟨hil, h | ⟨s, hs'⟩⟩
              · exfalso
                rw [h] at hpi
                exact hp0 (List.eq_nil_of_length_eq_zero (by omega))
              · exact ⟨l.take i, h, hpt⟩
              · rw [hEq] at hs'
                by_cases hr2 : l.take i ++ [s] <+: l ∧ i < (l.take i ++ [s]).length
                · rw [if_pos hr2] at hs'; cases hs'
                · rw [if_neg hr2] at hs'
                  rcases (hT.mem _).1 hs' with h | ⟨x', hx', hpx'⟩
                  · simp at h
                  · have hne : x'.1 ≠ l := fun e => hr2 ⟨e ▸ hpx', by rw [List.length_append, List.length_take, List.length_singleton]; omega⟩
                    exact ⟨x'.1, hcnt _ hne (by rw [cntB_mem hs.bag hx']; exact hs.bag.pos x' hx'), (hpt.trans (List.prefix_append _ _)).trans hpx'⟩
          · exact .inr ⟨x.1, hcnt _ hxl (by rw [cntB_mem hs.bag hx]; exact hs.bag.pos x hx), hpx⟩
    · rintro (rfl | ⟨v, hv, hpv⟩)
      · rw [hEq, if_neg (by rintro ⟨_, h⟩; exact absurd h (Nat.not_lt_zero i))]
        exact (hT.mem []).2 (.inl rfl)
      · exact hN'.tree.prefix_ hpv (hN'.live v hv)
theorem tcount_all (h : TrieB w B t K L) (hA : Runes w A n l) (hn : n ≤ 35184372088832) :
    Calls Try.prog 16 #[.pointer (some ⟨t, 0, none⟩), .slice A n c] w fun e w' => e = .returned (.int .i64 (cntB L l : Nat)) ∧ w = w' := by
  obtain ⟨hs, N, Q, hT⟩ := h
  exact tcount_any A n c l hT.trie hA hn
set_option maxHeartbeats 400000 in
theorem tlen_any (h : TrieB w B t K L) : Calls Try.prog 25 #[.pointer (some ⟨t, 0, none⟩)] w fun e w' => e = .returned (.int .i64 (L.length : Nat)) ∧ w = w' := by
  obtain ⟨hs, N, Q, hT⟩ := h
  obtain ⟨x, hx, hb⟩ := hT.trie.box
  have c2 : w.cell? ⟨t, 2, none⟩ = some (.int .i64 (L.length : Nat)) := hb.cell 2
  clear hT hb hx hs
  go_enter Try.func25, Try.ntmps25
  go_wp2_with fail
  go_ret
  exact ⟨rfl, rfl⟩
set_option maxHeartbeats 400000 in
theorem tnodes_any (h : TrieB w B t K L) : Calls Try.prog 26 #[.pointer (some ⟨t, 0, none⟩)] w fun e w' => e = .returned (.int .i64 (nodesB L : Nat)) ∧ w = w' := by
  obtain ⟨hs, N, Q, hT⟩ := h
  obtain ⟨x, hx, hb⟩ := hT.trie.box
  have c3 : w.cell? ⟨t, 3, none⟩ = some (.int .i64 (Q.length : Nat)) := hb.cell 3
  have HQ := hide hT.q
  clear hT hb hx hs
  go_enter Try.func26, Try.ntmps26
  go_wp2_with fail
  go_ret
  exact ⟨by rw [HQ.out]; rfl, rfl⟩
set_option maxHeartbeats 400000 in
theorem tnodes_nil (w : World) : Calls Try.prog 26 #[.pointer none] w fun e w' => e = .returned (.int .i64 0) ∧ w = w' := by
  go_enter Try.func26, Try.ntmps26
  go_wp2_with fail
  go_ret
  exact ⟨rfl, rfl⟩
theorem tnew_all (w : World) : Calls Try.prog 11 #[] w fun e w' => ∃ t, e = .returned (.pointer (some ⟨t, 0, none⟩)) ∧ TrieB w' w.heap.size t 0 [] ∧ Below w.heap.size w w' := by
  refine (tnew_any w).mono ?_
  rintro e w' ⟨t, N, rfl, hT, hb⟩
  refine ⟨t, rfl, ⟨Small.nil, N, [[]], hT, BagW.nil, fun p => ?_⟩, hb⟩
  rw [← hT.mem, List.mem_singleton]
  constructor
  · exact .inl
  · rintro (h | ⟨x, hx, _⟩)
    · exact h
    · cases hx

/-- What With hands back. -/
def WithQ (L : List Itm) (l : List Int) (w : World) (e : Ending) (w' : World) : Prop := ∃ Ao no co us, e = .returned (.slice Ao no co) ∧ ItemsO w' w.heap.size Ao no co us ∧ us.map IV.itm = withB L l ∧ Below w.heap.size w w'
set_option maxRecDepth 100000 in
set_option maxHeartbeats 2000000 in
theorem twith_any (h : TrieB w B t K L) (hA : Runes w A n l) (hn : n ≤ 1000000) (hK : K ≤ 1000000) :
    Calls Try.prog 24 #[.pointer (some ⟨t, 0, none⟩), .slice A n c] w (WithQ L l w) := by
  obtain ⟨hs, N, Q, hT⟩ := h
  have hq := hT.qle hs
  have HF := hide (find_any A n c l hT.trie hA (by omega))
  cases hN : N l with
  | none =>
    rw [hN] at HF
    have HW := hide (show withB L l = [] from by
      cases hw : withB L l with
      | nil => rfl
      | cons x r =>
        have hx : x ∈ withB L l := by rw [hw]; exact List.mem_cons_self
        have := (hT.mem l).2 (.inr ⟨x, mem_withB.1 hx⟩)
        rw [hN] at this
        cases this)
    clear hN hT hA hs
    go_enter Try.func24, Try.ntmps24
    go_wp2_with (go_at_call 43; refine HF.out.mono ?_; rintro e w' ⟨rfl, rfl⟩; unfold ptrN)
    go_ret
    exact ⟨none, 0, 0, [], rfl, ItemsO.nil _ _, by rw [HW.out]; rfl, Below.refl _ _⟩
  | some x =>
    rw [hN] at HF
    have HTT := hide hT
    have HX := hide hN
    have HS := hide hs
    have HA := hide hA
    clear hN hT hA hs
    go_enter Try.func24, Try.ntmps24
    go_wp2_with (go_at_call 43; refine HF.out.mono ?_; rintro e w' ⟨rfl, rfl⟩; unfold ptrN)
    obtain ⟨bo, hbo⟩ : ∃ bo, w.heap.size = bo := ⟨_, rfl⟩
    have hb1 := (Below.refl w.heap.size w).alloc (Nat.le_refl _) (.cells #[.slice none 0 0] 26)
    have hx1 := Box.newAt hbo 26 #[.slice none 0 0]
    refine (clone_any A n c l _ (HA.out.below hb1) (by omega)).mono ?_
    rintro e w2 ⟨A1, n1, c1, rfl, ho1, hb2⟩
    have HST := hide (show WkSt w w2 bo none 0 0 [] A1 n1 c1 l from ⟨hb1.trans (hb2.mono hb1.size), hx1.below hb2, ItemsO.nil _ _, ho1.mono hb1.size, by omega, (fun u hu => by cases hu)⟩)
    have HLE := hide (show ([] : List IV).length + (withB L l).length ≤ 1000000 from by
      have h1 : (withB L l).length ≤ L.length := List.length_filter_le _ _
      simp
      omega)
    clear hb1 hx1 ho1 hb2
    go_wp2_with fail
    refine (walk_any HTT.out HS.out.len hK (by have := HS.out.all; omega) 1001 l x A1 n1 c1 w2 bo none 0 0 [] (by omega) HX.out HST.out HLE.out).mono ?_
    rintro e w3 ⟨rfl, Ao, no, co, us, hF, hst, -⟩
    have HE := hide (And.intro hF hst)
    obtain ⟨c0, -⟩ := hst.box.c1
    clear hF hst HST
    go_wp2_with fail
    go_ret
    exact ⟨Ao, no, co, us, rfl, by have := HE.out.2.items; rwa [List.nil_append] at this, HE.out.1, HE.out.2.below⟩
end
end Go.Proofs.Ytchcpeenpijekaa

/- Plain laws of the menu's words: all words in a bag, then those that begin with the prefix; or those alone. -/
namespace Go.Proofs.Ytchcpeenpijekaa
open Go.RowKit
set_option linter.unusedVariables false

theorem cnt_withB {L : List Itm} (h : BagW L) (p v : List Int) : cntB (withB L p) v = if begS v p = true then cntB L v else 0 := by
  by_cases hb : begS v p = true
  · rw [if_pos hb]
    by_cases h0 : 0 < cntB L v
    · have h1 := cntB_pos h0
      have h2 : (v, cntB L v) ∈ withB L p := List.mem_filter.2 ⟨h1, hb⟩
      exact cntB_mem (h.with_ p) h2
    · have h1 : cntB L v = 0 := by omega
      rw [h1]
      refine cntB_out fun x hx e => ?_
      have h2 := (mem_withB.1 hx).1
      have h3 := h.pos x h2
      have h4 := cntB_mem h h2
      rw [e] at h4
      omega
  · rw [if_neg hb]
    refine cntB_out fun x hx e => hb ?_
    rw [← e]
    exact begS_iff.2 (mem_withB.1 hx).2
theorem withB_add {L : List Itm} (h : BagW L) {w p : List Int} (hb : begS w p = true) : withB (addB L w) p = addB (withB L p) w :=
  bag_ext ((addB_bag w h).with_ p) (addB_bag w (h.with_ p)) fun v => by
    rw [cnt_withB (addB_bag w h), cnt_addB w v h, cnt_addB w v (h.with_ p), cnt_withB h, cnt_withB h]
    by_cases e : v = w
    · rw [e, if_pos rfl, if_pos hb, if_pos rfl, if_pos hb]
    · rw [if_neg e, if_neg e]
theorem withB_add_not {L : List Itm} (h : BagW L) {w p : List Int} (hb : begS w p = false) : withB (addB L w) p = withB L p :=
  bag_ext ((addB_bag w h).with_ p) (h.with_ p) fun v => by
    rw [cnt_withB (addB_bag w h), cnt_addB w v h, cnt_withB h]
    by_cases e : v = w
    · rw [e, if_pos rfl, hb]; simp
    · rw [if_neg e]
/-- The word of a span. -/
def wdS (s : List Int) (p : Nat × Nat) : List Int := (s.drop p.1).take (p.2 - p.1)
def stepA (s : List Int) (own : Nat × Nat) (L : List Itm) (p : Nat × Nat) : List Itm := if p = own then L else addL L (wdS s p)
def stepR (s : List Int) (own : Nat × Nat) (pre : List Int) (L : List Itm) (p : Nat × Nat) : List Itm := if p = own then L else if begS (wdS s p) pre = true then addL L (wdS s p) else L
theorem allB_with (L : List Itm) (p : List Int) : allB (withB L p) ≤ allB L := by
  unfold allB withB
  induction L with
  | nil => exact Nat.le_refl _
  | cons x L ih =>
    rw [List.filter_cons]
    split
    · simp only [List.map_cons, List.sum_cons]; omega
    · simp only [List.map_cons, List.sum_cons]; omega
theorem all_addL (L : List Itm) (l : List Int) : allB (addL L l) ≤ allB L + 1 := by
  unfold addL
  split
  · rw [all_addB]; exact Nat.le_refl _
  · omega
theorem folds_agree (s : List Int) (own : Nat × Nat) (pre : List Int) : ∀ (ps : List (Nat × Nat)) (L : List Itm), BagW L → allB L + ps.length ≤ 1000 → (∀ p ∈ ps, (wdS s p).length ≤ 1000) →
    withB (ps.foldl (stepA s own) L) pre = ps.foldl (stepR s own pre) (withB L pre)
  | [], L, _, _, _ => rfl
  | p :: ps, L, h, hl, hw => by
    rw [List.length_cons] at hl
    rw [List.foldl_cons, List.foldl_cons]
    have hbag : BagW (stepA s own L p) := by
      unfold stepA addL
      split
      · exact h
      · split
        · exact addB_bag _ h
        · exact h
    have hall : allB (stepA s own L p) ≤ allB L + 1 := by
      unfold stepA
      split
      · omega
      · exact all_addL _ _
    rw [folds_agree s own pre ps _ hbag (by omega) fun q hq => hw q (List.mem_cons_of_mem _ hq)]
    congr 1
    unfold stepA stepR
    by_cases e : p = own
    · rw [if_pos e, if_pos e]
    · rw [if_neg e, if_neg e]
      have hE : addE (withB L pre) (wdS s p) = addE L (wdS s p) := by
        unfold addE
        have h1 := allB_with L pre
        have h2 := hw p List.mem_cons_self
        rw [if_neg (show ¬ (1000 < (wdS s p).length ∨ 1000 ≤ allB (withB L pre)) by omega), if_neg (show ¬ (1000 < (wdS s p).length ∨ 1000 ≤ allB L) by omega)]
      unfold addL
      rw [hE]
      by_cases hb : begS (wdS s p) pre = true
      · rw [if_pos hb]
        split
        · exact withB_add h hb
        · rfl
      · rw [if_neg hb]
        split
        · exact withB_add_not h (by simpa using hb)
        · rfl
/-- All words but the touched one. -/
def allW (s : List Int) (own : Nat × Nat) : List Itm := (spansS s).foldl (stepA s own) []
def someW (s : List Int) (own : Nat × Nat) (pre : List Int) : List Itm := (spansS s).foldl (stepR s own pre) []
theorem wd_len (s : List Int) (p : Nat × Nat) : (wdS s p).length ≤ s.length := by
  unfold wdS
  rw [List.length_take, List.length_drop]
  omega
theorem words_agree {s : List Int} (own : Nat × Nat) (pre : List Int) (hs : s.length ≤ 1000) : withB (allW s own) pre = someW s own pre := by
  have h := folds_agree s own pre (spansS s) [] BagW.nil (by have := spans_len (s := s); simp [allB]; omega) fun p _ => Nat.le_trans (wd_len s p) hs
  exact h
def tfst (o : Option (Nat × Nat)) : Nat := match o with | some p => p.1 | none => 0
def tsnd (o : Option (Nat × Nat)) : Nat := match o with | some p => p.2 | none => 0
def ownS (s : List Int) (at_ : Int) : Nat × Nat := (tfst (touchL (spansS s) at_), tsnd (touchL (spansS s) at_))
def preS (s : List Int) (at_ : Int) : List Int := (s.drop (at_.toNat - aheadS s at_)).take (aheadS s at_)
/-- The menu's items. -/
def menuS (s : List Int) (at_ : Int) : List Itm := if aheadS s at_ = 0 ∨ 1000 < s.length then [] else (topL (withB (allW s (ownS s at_)) (preS s at_))).take 50
theorem menuS_none {s : List Int} {at_ : Int} (h : aheadS s at_ = 0 ∨ 1000 < s.length) : menuS s at_ = [] := if_pos h
theorem menuS_some {s : List Int} {at_ : Int} (h : aheadS s at_ ≠ 0) (h2 : s.length ≤ 1000) : menuS s at_ = (topL (withB (allW s (ownS s at_)) (preS s at_))).take 50 := if_neg (by omega)
theorem small_fold {s : List Int} {own : Nat × Nat} : ∀ (ps : List (Nat × Nat)) (L : List Itm), Small L → Small (ps.foldl (stepA s own) L)
  | [], L, h => h
  | p :: ps, L, h => by
    rw [List.foldl_cons]
    refine small_fold ps _ ?_
    unfold stepA
    split
    · exact h
    · exact h.add _
end Go.Proofs.Ytchcpeenpijekaa
