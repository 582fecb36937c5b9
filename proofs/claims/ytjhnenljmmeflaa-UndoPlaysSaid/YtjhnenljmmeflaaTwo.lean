/- Two trees in one memory, undo's and the reference's: what their calls leave. -/
import Derived.Test.YtjhnenljmmeflaaRefA
import Derived.Test.YtjhnenljmmeflaaUndoH
namespace Go.Proofs.Ytjhnenljmmeflaa
open Go.RowKit
set_option linter.unusedVariables false

theorem TreeR.same {w w' : World} {P Q : Nat → Prop} {t : Nat} {gs : List Grp} {now : Nat} (h : TreeR w P t gs now) (hs : ∀ g, P g → w'.heap[g]? = w.heap[g]?) (hq : ∀ g, P g → Q g) (hl : ∀ g, Q g → g < w'.heap.size) : TreeR w' Q t gs now := by
  obtain ⟨g, n, c, ps, h1, h2⟩ := h.mem
  exact ⟨h.wf, g, n, c, ps, h1, h2.same hs hq hl⟩
theorem TreeR.keeps {w w' : World} {P S : Nat → Prop} {t : Nat} {gs : List Grp} {now : Nat} (h : TreeR w P t gs now) (hb : Keeps S w w') (hq : ∀ g, P g → ¬ S g) : TreeR w' P t gs now :=
  h.same (fun g hg => hb.block g (h.lt g hg) (hq g hg)) (fun g hg => hg) (fun g hg => Nat.lt_of_lt_of_le (h.lt g hg) hb.size)
theorem TreeR.inT {w : World} {P : Nat → Prop} {t : Nat} {gs : List Grp} {now : Nat} (h : TreeR w P t gs now) : P t := by
  obtain ⟨g, n, c, ps, h1, h2⟩ := h.mem
  exact h2.inT

/-- Rows that are no block of S stay. -/
theorem rowC_keeps {w w' : World} {S : Nat → Prop} {k n c : Nat} {A : Option Addr} {vs : List CV} (hr : RowC w k A n c vs) (hk : Keeps S w w') (hS : ∀ x, S x → x < k ∨ w.heap.size ≤ x) : RowC w' k A n c vs :=
  hr.keepB fun g hg => by
    have h1 := hr.blk_ge g hg
    exact hk.block g h1.2 fun e => by rcases hS g e with h | h <;> omega
theorem elts_in {w : World} {k : Nat} {vs : List CV} {l : List Chg} (he : Elts w k vs l) : ∀ u ∈ vs, CVIn (fun b => k ≤ b ∧ b < w.heap.size) u := fun u hu => by
  obtain ⟨j, hj⟩ := List.mem_iff_getElem?.1 hu
  obtain ⟨x, _, hx⟩ := he.at_ j u hj
  exact ⟨hx.cut.blk_ge, hx.put.blk_ge⟩
theorem elts_keeps {w w' : World} {S : Nat → Prop} {k : Nat} {vs : List CV} {l : List Chg} (he : Elts w k vs l) (hk : Keeps S w w') (hS : ∀ x, S x → x < k ∨ w.heap.size ≤ x) : Elts w' k vs l :=
  he.keepB (elts_in he) fun g hg => hk.block g hg.2 fun e => by rcases hS g e with h | h <;> omega

/-- Two trees, in memory that is new since w0. -/
structure Two (w0 w : World) (P Q : Nat → Prop) (t r : Nat) (ga : List Grp) (na : Nat) (gb : List Grp) (nb : Nat) : Prop where
  a : TreeM w P t ga na
  b : TreeR w Q r gb nb
  dis : ∀ x, P x → ¬ Q x
  ownP : ∀ x, P x → w0.heap.size ≤ x
  ownQ : ∀ x, Q x → w0.heap.size ≤ x
  below : Below w0.heap.size w0 w
section
variable {w0 w w' : World} {P Q S : Nat → Prop} {t r na nb na' nb' : Nat} {ga gb : List Grp} {l : List Chg} {before : Int} {ok : Bool} {e : Ending}
theorem Two.next (h : Two w0 w P Q t r ga na gb nb) (hb : Below w.heap.size w w') : Two w0 w' P Q t r ga na gb nb := ⟨h.a.below hb, h.b.below hb, h.dis, h.ownP, h.ownQ, h.below.trans (hb.mono h.below.size)⟩
theorem Two.keeps (h : Two w0 w P Q t r ga na gb nb) (hk : Keeps S w w') (hP : ∀ x, P x → ¬ S x) (hQ : ∀ x, Q x → ¬ S x) (hS : ∀ x, S x → w0.heap.size ≤ x) : Two w0 w' P Q t r ga na gb nb :=
  ⟨h.a.keeps hk hP, h.b.keeps hk hQ, h.dis, h.ownP, h.ownQ, hk.to_below h.below h.below.size hS⟩
theorem Two.moveA (h : Two w0 w P Q t r ga na gb nb) (k : MoveR w P t ga na' l before ok e w') :
    ∃ A n c vs, e = .returned (.tuple #[.slice A n c, .int .i64 before, .bool ok]) ∧ RowC w' w.heap.size A n c vs ∧ Elts w' w.heap.size vs l ∧ Ap vs ∧ Two w0 w' P Q t r ga na' gb nb ∧ Keeps (· = t) w w' := by
  obtain ⟨A, n, c, vs, he, k1, k2, k3, k4, k5⟩ := k
  exact ⟨A, n, c, vs, he, k1, k2, k3, ⟨k4, h.b.keeps k5 fun g hg e => h.dis g (e ▸ h.a.inT) hg, h.dis, h.ownP, h.ownQ, k5.to_below h.below h.below.size fun g hg => hg ▸ h.ownP _ h.a.inT⟩, k5⟩
theorem Two.moveB (h : Two w0 w P Q t r ga na gb nb) (k : RMoveR w Q r gb nb' l before ok e w') :
    ∃ A n c vs, e = .returned (.tuple #[.slice A n c, .int .i64 before, .bool ok]) ∧ RowC w' w.heap.size A n c vs ∧ Elts w' w.heap.size vs l ∧ Two w0 w' P Q t r ga na gb nb' ∧ Keeps (· = r) w w' := by
  obtain ⟨A, n, c, vs, he, k1, k2, k4, k5⟩ := k
  exact ⟨A, n, c, vs, he, k1, k2, ⟨h.a.keeps k5 fun g hg e => h.dis g hg (e ▸ h.b.inT), k4, h.dis, h.ownP, h.ownQ, k5.to_below h.below h.below.size fun g hg => hg ▸ h.ownQ _ h.b.inT⟩, k5⟩
theorem Two.addA {gs' : List Grp} {now' : Nat} (h : Two w0 w P Q t r ga na gb nb) (k : AddR w P t gs' now' l before e w') :
    e = .returned (.bool true) ∧ ∃ P', Two w0 w' P' Q t r (addG gs' now' l before) gs'.length gb nb ∧ Keeps P w w' ∧ ∀ x, P' x → P x ∨ w.heap.size ≤ x := by
  obtain ⟨he, P', k1, k2, k3⟩ := k
  have hs := h.below.size
  exact ⟨he, P', ⟨k1, h.b.keeps k2 fun g hg e => h.dis g e hg, fun x hx hq => by
    rcases k3 x hx with h1 | h1
    · exact h.dis x h1 hq
    · have := h.b.lt x hq; omega, fun x hx => by
    rcases k3 x hx with h1 | h1
    · exact h.ownP x h1
    · omega, h.ownQ, k2.to_below h.below hs h.ownP⟩, k2, k3⟩
theorem Two.addB {gs' : List Grp} {now' : Nat} (h : Two w0 w P Q t r ga na gb nb) (k : RAddR w Q r gs' now' l before e w') :
    e = .returned (.bool true) ∧ ∃ Q', Two w0 w' P Q' t r ga na (addG gs' now' l before) gs'.length ∧ Keeps Q w w' ∧ ∀ x, Q' x → Q x ∨ w.heap.size ≤ x := by
  obtain ⟨he, Q', k1, k2, k3⟩ := k
  have hs := h.below.size
  exact ⟨he, Q', ⟨h.a.keeps k2 fun g hg e => h.dis g hg e, k1, fun x hx hq => by
    rcases k3 x hq with h1 | h1
    · exact h.dis x hx h1
    · have := h.a.lt x hx; omega, h.ownP, fun x hx => by
    rcases k3 x hx with h1 | h1
    · exact h.ownQ x h1
    · omega, k2.to_below h.below hs h.ownQ⟩, k2, k3⟩
/-- What Pick leaves of the groups. -/
def pickedG (gs : List Grp) (now : Nat) (x : Grp) (i : Int) : List Grp := if 0 ≤ i ∧ i < x.kids.length then pickG gs now i.toNat else gs
def pickB (x : Grp) (i : Int) : Bool := decide (0 ≤ i ∧ i < x.kids.length)
theorem Two.pickA {x : Grp} {i : Int} (h : Two w0 w P Q t r ga na gb nb) (k : PickR w P t ga na x i e w') : e = .returned (.bool (pickB x i)) ∧ Two w0 w' P Q t r (pickedG ga na x i) na gb nb ∧ Keeps P w w' := by
  unfold pickedG pickB
  rcases k with ⟨he, hi, q, rfl⟩ | ⟨he, h1, h2, h3, h4⟩
  · rw [if_neg hi]
    exact ⟨by rw [he]; simp [hi], h.next (below_drewN (Below.refl _ _) q), (Keeps.refl P w).drewN q⟩
  · rw [if_pos ⟨h1, h2⟩]
    exact ⟨by rw [he]; simp [h1, h2], ⟨h3, h.b.keeps h4 fun g hg e => h.dis g e hg, h.dis, h.ownP, h.ownQ, h4.to_below h.below h.below.size h.ownP⟩, h4⟩
theorem Two.pickRB {x : Grp} {i : Int} (h : Two w0 w P Q t r ga na gb nb) (k : RPickR w Q r gb nb x i e w') : e = .returned (.bool (pickB x i)) ∧ Two w0 w' P Q t r ga na (pickedG gb nb x i) nb ∧ Keeps Q w w' := by
  unfold pickedG pickB
  rcases k with ⟨he, hi, q, rfl⟩ | ⟨he, h1, h2, h3, h4⟩
  · rw [if_neg hi]
    exact ⟨by rw [he]; simp [hi], h.next (below_drewN (Below.refl _ _) q), (Keeps.refl Q w).drewN q⟩
  · rw [if_pos ⟨h1, h2⟩]
    exact ⟨by rw [he]; simp [h1, h2], ⟨h.a.keeps h4 fun g hg e => h.dis g hg e, h3, h.dis, h.ownP, h.ownQ, h4.to_below h.below h.below.size h.ownQ⟩, h4⟩
/-- The copy goes on in place of the tree. -/
theorem Two.copied {t' : Nat} (h : Two w0 w P Q t r ga na gb nb) (k : TreeM w' (fun b => w.heap.size ≤ b ∧ b < w'.heap.size) t' ga na) (hb : Below w.heap.size w w') :
    Two w0 w' (fun b => w.heap.size ≤ b ∧ b < w'.heap.size) Q t' r ga na gb nb :=
  ⟨k, h.b.below hb, fun x hx hq => by have := h.b.lt x hq; omega, fun x hx => by have := h.below.size; omega, h.ownQ, h.below.trans (hb.mono h.below.size)⟩
end
end Go.Proofs.Ytjhnenljmmeflaa
