/- Pieces, joined: Two21. -/
import Derived.Test.YtchcpeenpijekaaQ30

/- The trie and the reference's bag of layer 21 in one memory. -/
namespace Go.Proofs.Ytchcpeenpijekaa
open Go.RowKit Go.Maps Go.MapKept Go.ChangeMaps Go.Shelf
set_option linter.unusedVariables false
variable {P P' : Nat → Prop}

theorem and21 (x : Int) : 0 ≤ bits .and .i64 x 7 ∧ bits .and .i64 x 7 ≤ 7 := by
  have h : bits .and .i64 x 7 = IntKind.i64.wrap ((BitVec.ofInt 64 x &&& BitVec.ofInt 64 7).toNat : Int) := rfl
  have hb : (BitVec.ofInt 64 x &&& BitVec.ofInt 64 7).toNat ≤ 7 := by
    rw [BitVec.toNat_and]
    refine Nat.le_trans Nat.and_le_right ?_
    decide
  rw [h, IntKind.wrap_i64]
  omega
structure Two21 (P : Nat → Prop) (w w' : World) (t K g : Nat) (L : List Itm) : Prop where
  t_ : TrieB w' w.heap.size t K L
  g_ : BagM P w' w.heap.size g L
  below : Below w.heap.size w w'
section
variable {w w1 w2 w3 : World} {t K g : Nat} {L L' : List Itm}
theorem Two21.next (h : Two21 P w w1 t K g L) (hb : Below w1.heap.size w1 w2) : Two21 P w w2 t K g L := ⟨h.t_.below hb, h.g_.below hb, h.below.trans (hb.mono h.below.size)⟩
theorem BagM.off {B : Nat} (h : BagM P w B g L) (hP : ∀ x, x < w.heap.size → P' x) : BagM P' w B g L := by
  obtain ⟨A, n, c, us, h⟩ := h
  refine ⟨A, n, c, us, h.box, h.row, h.eq, h.rd, fun u hu hn b hb => ?_, h.base, h.cap⟩
  obtain ⟨b', o, e, hc⟩ := (h.rd u hu).at_ 0 hn
  have hl := (h.rd u hu).lt hn e
  rw [e] at hb
  injection hb with hb
  subst hb
  exact hP _ hl
theorem Two21.off (h : Two21 P w w1 t K g L) (hP : ∀ x, x < w1.heap.size → P' x) : Two21 P' w w1 t K g L := ⟨h.t_, h.g_.off hP, h.below⟩
theorem BagM.nil (w : World) (B : Nat) (hB : B ≤ w.heap.size) : BagM P (w.alloc (.cells #[.slice none 0 0] 28)) B w.heap.size [] :=
  ⟨none, 0, 0, [], Box.new _ _ _, RowG.nil _ _ _ _, rfl, (fun u hu => by cases hu), (fun u hu => by cases hu), hB, (fun u hu => by cases hu)⟩
/-- A lent text is spoiled: no text of the bag lies there. -/
theorem BagM.spoil {B B' gx n c : Nat} {l : List Int} (h : BagM (fun z => z ≠ gx) w B g L) (ho : Own w B' (some ⟨gx, 0, none⟩) n c l) (hg : w.grownBy w1 (some gx)) : BagM (fun _ => True) w1 B g L := by
  obtain ⟨A, n, c, us, h⟩ := h
  refine ⟨A, n, c, us, h.box.grown hg fun e => ?_, h.row.kept hg ?_, h.eq, fun u hu => (h.rd u hu).keep fun b o e hn => hg.block b ((h.rd u hu).lt hn e) fun e2 => ?_, fun u hu _ b _ => trivial, h.base, h.cap⟩
  · have h1 := own_ne_box ho h.box (by decide)
    exact h1 e.symm
  · cases hA : blk A with
    | none => exact .inl rfl
    | some b =>
      refine .inr fun e => ?_
      rcases own_ne_row ho h.row (by decide) with h1 | h1
      · cases h1
      · exact h1 (by rw [hA, e]; rfl)
  · injection e2 with e2
    subst e2
    exact h.off u hu hn b (by rw [e]; rfl) rfl
theorem Two21.spoil {B' gx n c : Nat} {l : List Int} (h : Two21 (fun z => z ≠ gx) w w1 t K g L) (ho : Own w1 B' (some ⟨gx, 0, none⟩) n c l) (hg : w1.grownBy w2 (some gx)) (hB : w.heap.size ≤ gx) : Two21 (fun _ => True) w w2 t K g L := by
  obtain ⟨cur, hcur⟩ := ho.obj (g := gx) rfl
  exact ⟨h.t_.other hcur (by decide) (by decide) hg, h.g_.spoil ho hg, h.below.grown hg h.below.size fun z hz => by cases hz; exact hB⟩
theorem bcount_all {B m d : Nat} {S : Option Addr} {l : List Int} (h : BagM P w B g L) (hs : Small L) (hS : Runes w S m l) (hm : m ≤ 35184372088832) :
    Calls Try.prog 17 #[.pointer (some ⟨g, 0, none⟩), .slice S m d] w fun e w' => e = .returned (.int .i64 (cntB L l : Nat)) ∧ Below w.heap.size w w' := by
  obtain ⟨A, n, c, us, h⟩ := h
  have hsz := h.sizes hs
  refine (bcount_any S m d l h hs.bag (by omega) hS (by omega) fun u hu => by have := hsz.2 u hu; omega).mono ?_
  rintro e w' ⟨rfl, q, rfl⟩
  exact ⟨rfl, lt_drewN w q⟩
/-- A step of both: Add. -/
theorem Two21.added {L2 L3 : List Itm} (h : Two21 P w w1 t K g L) (hc : Calm w.heap.size w1 w2) (ht : TrieB w2 w.heap.size t K L2) (hd : CalmB w.heap.size w2 w3) (hb : BagM P w3 w.heap.size g L2) : Two21 P w w3 t K g L2 := ⟨ht.calm hd, hb, (h.below.trans hc.low).trans hd.low⟩
end
end Go.Proofs.Ytchcpeenpijekaa
