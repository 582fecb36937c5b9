/- A tree that a law made: its own blocks and all that lies elsewhere. The contract of standishlaw28.known: it answers true. -/
import Derived.Test.YtjhnenljmmeflaaUndoB
namespace Go.Proofs.Ytjhnenljmmeflaa
open Go.RowKit
set_option linter.unusedVariables false

/-- A block that is there and is not the tree's. -/
def Off (P : Nat → Prop) (w : World) (b : Nat) : Prop := b < w.heap.size ∧ ¬ P b
/-- All that was not the tree's is as it was, and still is not the tree's. -/
def Stays (P : Nat → Prop) (w : World) (Q : Nat → Prop) (w' : World) : Prop := ∀ b, Off P w b → Off Q w' b ∧ w'.heap[b]? = w.heap[b]?
theorem Stays.trans {P Q R : Nat → Prop} {w w1 w2 : World} (h : Stays P w Q w1) (k : Stays Q w1 R w2) : Stays P w R w2 := fun b hb => by
  obtain ⟨h1, h2⟩ := h b hb
  obtain ⟨k1, k2⟩ := k b h1
  exact ⟨k1, k2.trans h2⟩
/-- A tree of the call's own, from block B on. -/
structure Tr (B : Nat) (w0 w : World) (P : Nat → Prop) (t : Nat) (gs : List Grp) (now : Nat) : Prop where
  tree : TreeM w P t gs now
  own : ∀ b, P b → B ≤ b
  below : Below B w0 w
section
variable {B : Nat} {w0 w w' : World} {P : Nat → Prop} {t : Nat} {gs : List Grp} {now : Nat}
theorem Tr.start (h : TreeM w' (fun g => w.heap.size ≤ g ∧ g < w'.heap.size) t gs now) (hb : Below w.heap.size w w') (h0 : Below B w0 w) (hB : B ≤ w.heap.size) : Tr B w0 w' (fun g => w.heap.size ≤ g ∧ g < w'.heap.size) t gs now ∧ Stays (fun _ => False) w (fun g => w.heap.size ≤ g ∧ g < w'.heap.size) w' :=
  ⟨⟨h, fun b hb => Nat.le_trans hB hb.1, h0.trans (hb.mono hB)⟩, fun b hb' => ⟨⟨Nat.lt_of_lt_of_le hb'.1 hb.size, fun e => by have := hb'.1; omega⟩, hb.block b hb'.1⟩⟩
theorem Tr.size (h : Tr B w0 w P t gs now) (h0 : B ≤ w0.heap.size) : B ≤ w.heap.size := Nat.le_trans h0 h.below.size
theorem Tr.next (h : Tr B w0 w P t gs now) (h0 : B ≤ w0.heap.size) (hb : Below w.heap.size w w') : Tr B w0 w' P t gs now ∧ Stays P w P w' :=
  ⟨⟨h.tree.below hb, h.own, h.below.trans (hb.mono (h.size h0))⟩, fun b hb' => ⟨⟨Nat.lt_of_lt_of_le hb'.1 hb.size, hb'.2⟩, hb.block b hb'.1⟩⟩
/-- What is new is not the tree's. -/
theorem Tr.off (h : TreeM w P t gs now) (hb : Below w.heap.size w w') {b : Nat} (h1 : w.heap.size ≤ b) (h2 : b < w'.heap.size) : Off P w' b := ⟨h2, fun e => by have := h.lt b e; omega⟩
theorem Tr.add {l : List Chg} {before : Int} {e : Ending} (h : Tr B w0 w P t gs now) (h0 : B ≤ w0.heap.size) {gs' : List Grp} {now' : Nat} (k : AddR w P t gs' now' l before e w') :
    e = .returned (.bool true) ∧ ∃ Q, Tr B w0 w' Q t (addG gs' now' l before) gs'.length ∧ Stays P w Q w' := by
  obtain ⟨he, Q, k1, k2, k3⟩ := k
  have hs := h.size h0
  have ho : ∀ b, P b → B ≤ b := h.own
  refine ⟨he, Q, ⟨k1, fun b hb => ?_, k2.to_below h.below hs h.own⟩, fun b hb => ⟨⟨Nat.lt_of_lt_of_le hb.1 k2.size, fun e => ?_⟩, k2.block b hb.1 hb.2⟩⟩
  · rcases k3 b hb with h1 | h1
    · exact ho b h1
    · omega
  · rcases k3 b e with h1 | h1
    · exact hb.2 h1
    · have := hb.1; omega
theorem Tr.move {l : List Chg} {before : Int} {ok : Bool} {now' : Nat} {e : Ending} (h : Tr B w0 w P t gs now) (h0 : B ≤ w0.heap.size) (k : MoveR w P t gs now' l before ok e w') :
    ∃ A n c vs, e = .returned (.tuple #[.slice A n c, .int .i64 before, .bool ok]) ∧ RowC w' w.heap.size A n c vs ∧ Elts w' w.heap.size vs l ∧ Ap vs ∧ Tr B w0 w' P t gs now' ∧ Stays P w P w' ∧ (∀ b, w.heap.size ≤ b → b < w'.heap.size → Off P w' b) ∧ n = l.length := by
  obtain ⟨A, n, c, vs, he, k1, k2, k3, k4, k5⟩ := k
  have hs := h.size h0
  have htt := h.tree.inT
  refine ⟨A, n, c, vs, he, k1, k2, k3, ⟨k4, h.own, (k5.wider (Q := P) (fun b hb => by rw [hb]; exact htt)).to_below h.below hs h.own⟩, fun b hb => ⟨⟨Nat.lt_of_lt_of_le hb.1 k5.size, hb.2⟩, k5.block b hb.1 fun e => hb.2 (by rw [e]; exact htt)⟩, fun b h1 h2 => ⟨h2, fun e => ?_⟩, ?_⟩
  · have := h.tree.lt b e; omega
  · rw [k2.len, k1.len]
theorem Tr.pick {x : Grp} {i : Int} {e : Ending} (h : Tr B w0 w P t gs now) (h0 : B ≤ w0.heap.size) (k : PickR w P t gs now x i e w') :
    (e = .returned (.bool false) ∧ ¬ (0 ≤ i ∧ i < x.kids.length) ∧ Tr B w0 w' P t gs now ∧ Stays P w P w') ∨ (e = .returned (.bool true) ∧ 0 ≤ i ∧ i < x.kids.length ∧ Tr B w0 w' P t (pickG gs now i.toNat) now ∧ Stays P w P w') := by
  rcases k with ⟨he, hi, q, rfl⟩ | ⟨he, h1, h2, h3, h4⟩
  · obtain ⟨a, b⟩ := h.next h0 (below_drewN (Below.refl _ _) q)
    exact .inl ⟨he, hi, a, b⟩
  · exact .inr ⟨he, h1, h2, ⟨h3, h.own, h4.to_below h.below (h.size h0) h.own⟩, fun b hb => ⟨⟨Nat.lt_of_lt_of_le hb.1 h4.size, hb.2⟩, h4.block b hb.1 hb.2⟩⟩
theorem Stays.box {P Q : Nat → Prop} {g : Nat} {tt : TypeId} {cs : Array Value} (h : Stays P w Q w') (hx : Box w g tt cs) (ho : Off P w g) : Box w' g tt cs ∧ Off Q w' g := ⟨(h g ho).2.trans hx, (h g ho).1⟩
theorem Stays.cell {P Q : Nat → Prop} {g i : Nat} (h : Stays P w Q w') (ho : Off P w g) : w'.cell? ⟨g, i, none⟩ = w.cell? ⟨g, i, none⟩ := World.cell?_of_block (w := w) (h g ho).2
theorem Stays.ofKeeps (h : TreeM w P t gs now) (k : Keeps P w w') : Stays P w P w' := fun b hb => ⟨⟨Nat.lt_of_lt_of_le hb.1 k.size, hb.2⟩, k.block b hb.1 hb.2⟩
end

/-- One change in a row that is known whole. -/
theorem Chgs.row1 {W : World} {z : Nat} {tt : TypeId} {v : CV} {x : Chg} (h : Box W z tt #[.int .i64 v.at_, .slice v.C v.n v.c, .slice v.P v.m v.d]) (hr : CRd W v x) : Chgs W (some ⟨z, 0, none⟩) 1 (fun _ => v) [x] := by
  refine ⟨rfl, fun j hj => ⟨_, _, rfl, ?_⟩, fun j hj => ⟨x, ?_, hr⟩⟩
  · match j, hj with
    | 0, _ => exact ⟨h.cell 0, h.cell 1, h.cell 2⟩
  · match j, hj with
    | 0, _ => rfl
theorem Chgs.row2 {W : World} {z : Nat} {tt : TypeId} {v : CV} {x : Chg} (h : Box W z tt #[.int .i64 v.at_, .slice v.C v.n v.c, .slice v.P v.m v.d, .int .i64 v.at_, .slice v.C v.n v.c, .slice v.P v.m v.d]) (hr : CRd W v x) : Chgs W (some ⟨z, 0, none⟩) 2 (fun _ => v) [x, x] := by
  refine ⟨rfl, fun j hj => ⟨_, _, rfl, ?_⟩, fun j hj => ⟨x, ?_, hr⟩⟩
  · match j, hj with
    | 0, _ => exact ⟨h.cell 0, h.cell 1, h.cell 2⟩
    | 1, _ => exact ⟨h.cell 3, h.cell 4, h.cell 5⟩
  · match j, hj with
    | 0, _ => rfl
    | 1, _ => rfl
def litC (a r : Int) : Chg := ⟨a, [], [r]⟩
def litV (a : Int) (x : Nat) : CV := ⟨a, none, 0, 0, some ⟨x, 0, none⟩, 1, 1⟩
theorem lit_rd {W : World} {x : Nat} {a r : Int} (h : Box W x 21 #[.int .i32 r]) (ha : -9223372036854775808 ≤ a ∧ a ≤ 9223372036854775807) (hr : 0 ≤ r ∧ r ≤ 1000) : CRd W (litV a x) (litC a r) :=
  ⟨rfl, Runes.nil _ _, ⟨rfl, fun j hj => ⟨x, 0, rfl, by
    obtain rfl : j = 0 := by have hj' : j < 1 := hj; omega
    exact h.cell 0⟩, fun y hy => by
      have : y = r := List.mem_singleton.1 hy
      subst this
      omega⟩, ha, by simp [litC], by simp [litC]⟩
theorem lit1_keeps {P : Nat → Prop} {w : World} {x z : Nat} {a r : Int} (hz : Box w z 31 #[.int .i64 a, .slice none 0 0, .slice (some ⟨x, 0, none⟩) 1 1]) (hx : Box w x 21 #[.int .i32 r]) (oz : Off P w z) (ox : Off P w x)
    (ha : -9223372036854775808 ≤ a ∧ a ≤ 9223372036854775807) (hr : 0 ≤ r ∧ r ≤ 1000) : ∀ W, Keeps P w W → Chgs W (some ⟨z, 0, none⟩) 1 (fun _ => litV a x) [litC a r] := fun W hk =>
  Chgs.row1 ((hk.block z oz.1 oz.2).trans hz : Box W z _ _) (lit_rd ((hk.block x ox.1 ox.2).trans hx) ha hr)
theorem lit2_keeps {P : Nat → Prop} {w : World} {x z : Nat} {a r : Int} (hz : Box w z 31 #[.int .i64 a, .slice none 0 0, .slice (some ⟨x, 0, none⟩) 1 1, .int .i64 a, .slice none 0 0, .slice (some ⟨x, 0, none⟩) 1 1]) (hx : Box w x 21 #[.int .i32 r]) (oz : Off P w z) (ox : Off P w x)
    (ha : -9223372036854775808 ≤ a ∧ a ≤ 9223372036854775807) (hr : 0 ≤ r ∧ r ≤ 1000) : ∀ W, Keeps P w W → Chgs W (some ⟨z, 0, none⟩) 2 (fun _ => litV a x) [litC a r, litC a r] := fun W hk =>
  Chgs.row2 ((hk.block z oz.1 oz.2).trans hz : Box W z _ _) (lit_rd ((hk.block x ox.1 ox.2).trans hx) ha hr)
end Go.Proofs.Ytjhnenljmmeflaa
