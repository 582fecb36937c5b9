/- A trie that is a bag; the walk through its words. -/
import Derived.Test.YtchcpeenpijekaaTriG
import Derived.StillTailTactics
namespace Go.Proofs.Ytchcpeenpijekaa
open Go.RowKit Go.Maps Go.MapKept Go.ChangeMaps Go.Shelf
set_option linter.unusedVariables false

/-- A trie that holds the bag L. -/
structure TrieS (w : World) (B t K : Nat) (L : List Itm) (N : List Int → Option Nd) (Q : List (List Int)) : Prop where
  trie : TrieN w B t K N (cntB L) Q (allB L) L.length
  bag : BagW L
  mem : ∀ p, (N p).isSome = true ↔ p = [] ∨ ∃ x ∈ L, p <+: x.1
theorem TrieS.below {w w' : World} {B t K : Nat} {L : List Itm} {N : List Int → Option Nd} {Q : List (List Int)} (h : TrieS w B t K L N Q) (hb : Below w.heap.size w w') : TrieS w' B t K L N Q := ⟨h.trie.below hb, h.bag, h.mem⟩
theorem lt_of_le_nodup {l : List Int} (h : l.Pairwise (· ≤ ·)) (k : l.Nodup) : l.Pairwise (· < ·) := by
  have := h.and k
  exact this.imp fun ⟨h1, h2⟩ => by omega

/-- In the walk: the path, what has been told so far. -/
structure WkSt (w0 w : World) (bo : Nat) (Ao : Option Addr) (no co : Nat) (us : List IV) (A : Option Addr) (n c : Nat) (p : List Int) : Prop where
  below : Below w0.heap.size w0 w
  box : Box w bo 26 #[.slice Ao no co]
  items : ItemsO w w0.heap.size Ao no co us
  path : Own w w0.heap.size A n c p
  bo_ : w0.heap.size ≤ bo
  off : ∀ u ∈ us, Apart u.A A
/-- How far it has come: F more. -/
def WkP (w0 w : World) (bo : Nat) (Ao : Option Addr) (us : List IV) (A : Option Addr) (n c : Nat) (p : List Int) (F : List Itm) (w' : World) : Prop :=
  ∃ Ao' no' co' us', us'.map IV.itm = F ∧ WkSt w0 w' bo Ao' no' co' (us ++ us') A n c p ∧ KeepS (fun g => g = bo ∨ blk Ao = some g ∨ blk A = some g) w w' ∧
    (∀ g, blk Ao' = some g → blk Ao = some g ∨ w.heap.size ≤ g) ∧ ∀ u ∈ us', ∀ g, blk u.A = some g → w.heap.size ≤ g
section
variable {w0 w w1 w2 : World} {bo no co n c : Nat} {Ao A : Option Addr} {us : List IV} {p : List Int} {F F1 F2 : List Itm}
theorem WkP.start (h : WkSt w0 w bo Ao no co us A n c p) : WkP w0 w bo Ao us A n c p [] w :=
  ⟨Ao, no, co, [], rfl, by rw [List.append_nil]; exact h, KeepS.refl _ _, fun g hg => .inl hg, fun u hu => by cases hu⟩
theorem WkSt.next (h : WkSt w0 w bo Ao no co us A n c p) (hb : Below w.heap.size w w1) : WkSt w0 w1 bo Ao no co us A n c p :=
  ⟨h.below.trans (hb.mono h.below.size), h.box.below hb, h.items.below hb, h.path.below hb, h.bo_, h.off⟩
theorem WkP.next (h : WkP w0 w bo Ao us A n c p F w1) (hb : Below w1.heap.size w1 w2) : WkP w0 w bo Ao us A n c p F w2 := by
  obtain ⟨Ao', no', co', us', h1, h2, h3, h4, h5⟩ := h
  exact ⟨Ao', no', co', us', h1, h2.next hb, h3.next hb, h4, h5⟩
/-- One more item at the path's own word. -/
theorem WkSt.more (h : WkSt w0 w bo Ao no co us A n c p) {k : Nat} {e : Ending} (hm : MoreR w w0.heap.size bo Ao no us p k e w1) : e = .returned (.tuple #[]) ∧ WkP w0 w bo Ao us A n c p [(p, k)] w1 := by
  obtain ⟨rfl, Ao', co', u, hut, huk, hbx, hit, hun, hks, hao⟩ := hm
  have hAo : blk A = none ∨ blk A ≠ blk Ao := own_ne_row h.path h.items.row (by decide)
  have hAb := own_ne_box h.path h.box (by decide)
  refine ⟨rfl, Ao', no + 1, co', [u], by simp [IV.itm, hut, huk], ⟨?_, hbx, hit, hks.own h.path fun g hg e => ?_, h.bo_, fun v hv => ?_⟩, hks.mono fun g hg => ?_, hao, fun v hv g hg => ?_⟩
  · refine h.below.trans (hks.below (fun g hg => ?_) h.below.size)
    rcases hg with rfl | hg
    · exact h.bo_
    · exact (h.items.row.blk_ge g hg).1
  · rcases e with rfl | e
    · exact hAb hg
    · rcases hAo with h1 | h1
      · rw [h1] at hg; cases hg
      · exact h1 (hg.trans e.symm)
  · rcases List.mem_append.1 hv with hv | hv
    · exact h.off v hv
    · rw [List.mem_singleton.1 hv]
      exact Apart.symm (apart_of (fun g hg => (h.path.blk_ge g hg).2) hun)
  · rcases hg with hg | hg
    · exact .inl hg
    · exact .inr (.inl hg)
  · rw [List.mem_singleton.1 hv] at hg
    exact hun g hg
/-- A call of the walk for a kid, the path longer by one sign. -/
theorem WkP.kid (h : WkP w0 w bo Ao us A n c p F1 w1) {Ao' : Option Addr} {no' co' : Nat} {us' : List IV} (hst : WkSt w0 w1 bo Ao' no' co' (us ++ us') A n c p) (hF : us'.map IV.itm = F1) (hks : KeepS (fun g => g = bo ∨ blk Ao = some g ∨ blk A = some g) w w1)
    (hao : ∀ g, blk Ao' = some g → blk Ao = some g ∨ w.heap.size ≤ g) (hun : ∀ u ∈ us', ∀ g, blk u.A = some g → w.heap.size ≤ g) {wa wb : World} {A' : Option Addr} {c' : Nat} {r : Int} (ha : Below w1.heap.size w1 wa)
    (ho : Own wb w0.heap.size A n c p) (ho' : Own wb w0.heap.size A' (n + 1) c' (p ++ [r])) (hor : (A' = A ∧ c' = c ∧ wa.grownBy wb (blk A)) ∨ ((∀ g, blk A' = some g → wa.heap.size ≤ g) ∧ Below wa.heap.size wa wb)) :
    WkSt w0 wb bo Ao' no' co' (us ++ us') A' (n + 1) c' (p ++ [r]) ∧ ∀ w2, WkP w0 wb bo Ao' (us ++ us') A' (n + 1) c' (p ++ [r]) F2 w2 → WkP w0 w bo Ao us A n c p (F1 ++ F2) w2 := by
  have hsa := hst.next ha
  have hAo : blk A = none ∨ blk A ≠ blk Ao' := own_ne_row hsa.path hsa.items.row (by decide)
  have hAb := own_ne_box hsa.path hsa.box (by decide)
  have hsz := ha.size
  have hwsz := hks.size
  have hlow := hst.below.size
  have hlt : ∀ g, blk A = some g → g < w1.heap.size := fun g hg => (hst.path.blk_ge g hg).2
  have hg1 : wa.grownBy wb (blk A) := by
    rcases hor with ⟨_, _, h1⟩ | ⟨_, h1⟩
    · exact h1
    · exact ⟨h1.os, h1.tape, h1.output, h1.size, fun k hk _ => h1.block k hk⟩
  have hsb := hg1.size
  have hbw : Below w0.heap.size w0 wb := hsa.below.grown hg1 hsa.below.size fun g hg => (hsa.path.blk_ge g hg).1
  have hbb : Box wb bo 26 #[.slice Ao' no' co'] := hsa.box.grown hg1 fun e => hAb e.symm
  have hrow : RowG wb 49 2 w0.heap.size Ao' no' co' ((us ++ us').map IV.cells) := hsa.items.row.kept hg1 (by
    cases hC : blk Ao' with
    | none => exact .inl rfl
    | some g =>
      refine .inr fun e => ?_
      rcases hAo with h1 | h1
      · rw [h1] at e; cases e
      · exact h1 (by rw [hC]; exact e.symm))
  have hown : ∀ u ∈ us ++ us', Own wb w0.heap.size u.A u.n u.c u.t := fun u hu => (hsa.items.own u hu).kept hg1 (by
    cases hC : blk u.A with
    | none => exact .inl rfl
    | some g => exact .inr fun e => hsa.off u hu g hC e.symm)
  have hoff : ∀ u ∈ us ++ us', Apart u.A A' := fun u hu => by
    rcases hor with ⟨rfl, _, _⟩ | ⟨h1, _⟩
    · exact hsa.off u hu
    · exact apart_of (fun g hg => ((hsa.items.own u hu).blk_ge g hg).2) h1
  refine ⟨⟨hbw, hbb, ⟨hrow, hown, hsa.items.ap⟩, ho', hst.bo_, hoff⟩, fun w2 hk => ?_⟩
  obtain ⟨Ao2, no2, co2, us2, k1, k2, k3, k4, k5⟩ := hk
  have hAbb := own_ne_box ho hbb (by decide)
  have hAob : blk A = none ∨ blk A ≠ blk Ao' := own_ne_row ho hrow (by decide)
  have hpath : Own w2 w0.heap.size A n c p := by
    rcases hor with ⟨rfl, rfl, _⟩ | ⟨h1, _⟩
    · have := k2.path.takeP (m := n) (by omega)
      rwa [List.take_append_of_le_length (by rw [ho.len]; exact Nat.le_refl _), List.take_of_length_le (by rw [ho.len]; exact Nat.le_refl _)] at this
    · refine k3.own ho fun g hg e => ?_
      rcases e with rfl | e | e
      · exact hAbb hg
      · rcases hAob with h2 | h2
        · rw [h2] at hg; cases hg
        · exact h2 (hg.trans e.symm)
      · have := h1 g e
        have := hlt g hg
        omega
  refine ⟨Ao2, no2, co2, us' ++ us2, by rw [List.map_append, hF, k1], ⟨k2.below, k2.box, by rw [← List.append_assoc]; exact k2.items, hpath, hst.bo_, fun u hu => ?_⟩, ?_, fun g hg => ?_, fun u hu g hg => ?_⟩
  · rw [← List.append_assoc] at hu
    rcases List.mem_append.1 hu with hu | hu
    · exact hsa.off u hu
    · refine Apart.symm (apart_of (k := wb.heap.size) (fun g hg => ?_) fun g hg => k5 u hu g hg)
      have := hlt g hg
      omega
  · refine ((hks.next ha).grownO (fun g hg => .inl (.inr (.inr hg))) hg1).trans k3 fun g hg => ?_
    rcases hg with hg | hg | hg
    · exact .inl (.inl hg)
    · rcases hao g hg with h1 | h1
      · exact .inl (.inr (.inl h1))
      · exact .inr h1
    · rcases hor with ⟨rfl, _, _⟩ | ⟨h1, _⟩
      · exact .inl (.inr (.inr hg))
      · have := h1 g hg
        exact .inr (by omega)
  · rcases k4 g hg with h1 | h1
    · exact hao g h1
    · exact .inr (by omega)
  · rcases List.mem_append.1 hu with hu | hu
    · exact hun u hu g hg
    · have := k5 u hu g hg
      omega
end
end Go.Proofs.Ytchcpeenpijekaa
