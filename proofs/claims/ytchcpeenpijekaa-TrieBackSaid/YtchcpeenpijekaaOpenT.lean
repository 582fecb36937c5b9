/- What came in, opened: a slice of texts. -/
import Derived.Test.YtchcpeenpijekaaOpenA
import Derived.Deep.Slices
import Derived.Deep.Fields
import Derived.ChangeSame
namespace Go.Proofs.Ytchcpeenpijekaa
open Go.ChangeShapes Go.WideShapes Go.ChangeAt Go.RowKit Go.Deep
set_option linter.unusedVariables false
set_option maxRecDepth 100000

/-- A text. -/
structure TV where
  T : Option Addr
  n : Nat
  c : Nat
  t : List Int
def TV0 : TV := ⟨none, 0, 0, []⟩
structure TOk (W : World) (u : TV) : Prop where
  rd : Runes W u.T u.n u.t
  le : u.n ≤ u.c
  cap : u.c ≤ 9223372036854775807
  len : u.n ≤ 35184372087808
theorem TOk.below {w w' : World} {u : TV} (h : TOk w u) (hb : Below w.heap.size w w') : TOk w' u := ⟨h.rd.below hb, h.le, h.cap, h.len⟩
/-- A slice of texts. -/
structure Txts (w : World) (A : Option Addr) (n : Nat) (ds : Nat → TV) : Prop where
  at_ : ∀ j, j < n → ∃ b o, A = some ⟨b, o, none⟩ ∧ w.cell? ⟨b, o + j, none⟩ = some (.slice (ds j).T (ds j).n (ds j).c)
  ok : ∀ j, j < n → TOk w (ds j)
theorem Txts.below {w w' : World} {A : Option Addr} {n : Nat} {ds : Nat → TV} (h : Txts w A n ds) (hb : Below w.heap.size w w') : Txts w' A n ds :=
  ⟨fun j hj => by
    obtain ⟨b, o, e, h0⟩ := h.at_ j hj
    have hl : b < w.heap.size := World.block_lt_of_cell? w _ h0
    exact ⟨b, o, e, (hb.cell (p := ⟨b, o + j, none⟩) hl).trans h0⟩, fun j hj => (h.ok j hj).below hb⟩
structure TxtsArg (W : World) (v : Value) (A : Option Addr) (n c : Nat) (ds : Nat → TV) : Prop where
  eq : v = .slice A n c
  rd : Txts W A n ds
  le : n ≤ c
  cap : c ≤ 9223372036854775807

section
variable {H : Type} {enc : TypeId × Value → H} {W : World} {base : Nat} {spare : Nat → Bool} {held : Bool}

theorem weights_all_memT {e : TypeId} {x : Nat} : ∀ {l : List (DataW H)} {d : DataW H}, d ∈ l → x ∈ d.weights Try.prog e → x ∈ DataW.weightsAll Try.prog e l
  | d' :: r, d, hd, hx => by
    rw [DataW.weightsAll, List.mem_append]
    rcases List.mem_cons.1 hd with rfl | h
    · exact .inl hx
    · exact .inr (weights_all_memT h hx)
theorem one_of {cs : List Value} (h : cs.length = 1) : ∃ v, cs = [v] := by
  match cs, h with
  | [v], _ => exact ⟨v, rfl⟩
theorem open_txts_arg {fuel : Nat} {b0 : Nat} {v : Value} {d : DataW H} {p : List MemPlace} (ht : Try.prog.underlying 42 = some (.slice 29)) (hv : Value.okWide Try.prog W .any b0 42 v)
    (h : DataW.trod enc Try.prog W base spare held fuel 42 v.cells.toList = some (d, p)) (hw : ∀ x ∈ d.weights Try.prog 42, x ≤ reachBytes) :
    ∃ A n c ds, TxtsArg W v A n c ds := by
  obtain ⟨a0, len0, cap0, rfl⟩ := okWide_slice ht hv
  rcases open_slice Try.underlying42 h with ⟨hcs, _⟩ | ⟨a, len, cap, m, n, D, Pl, hcs, hb, hl, hm, hmm, hx, hi⟩
  · have hcs : Value.slice a0 len0 cap0 = .slice none 0 0 := by simpa [Value.cells] using hcs
    exact ⟨none, 0, 0, fun _ => TV0, hcs, ⟨fun j h => absurd h (by omega), fun j h => absurd h (by omega)⟩, Nat.le_refl _, by omega⟩
  · have hcs : Value.slice a0 len0 cap0 = .slice (some a) len cap := by simpa [Value.cells] using hcs
    have hC : Try.prog.cellsOf 29 = 1 := by kernel_rfl
    rw [hC] at hi
    injection hx with hx _
    have hlm : len ≤ m := by rw [hmm]; split <;> omega
    have key : ∀ i, i < len → ∃ (u : TV), W.cell? (a.add i) = some (.slice u.T u.n u.c) ∧ TOk W u := fun i hil => by
      obtain ⟨cs', hc', ht'⟩ := hi i (by omega)
      obtain ⟨_, hsz, hat⟩ := World.cells?_some hc'
      obtain ⟨v, rfl⟩ := one_of (cs := cs') hsz
      obtain ⟨T, n, c, t, hT⟩ := open_runes ht' fun y hy => hw y (by
        rw [hx]
        simp only [DataW.weights, Try.underlying42]
        refine List.mem_cons.2 (.inr (List.mem_append.2 (.inl ?_)))
        exact weights_all_memT (List.mem_map.2 ⟨i, List.mem_range.2 hil, rfl⟩) hy)
      refine ⟨⟨T, n, c, t⟩, ?_, hT.rd, hT.le, hT.cap, hT.len⟩
      have := hat 0 (by simp)
      rw [add_add, Nat.add_zero, Nat.mul_one, hT.eq] at this
      exact this
    have key2 : ∀ i, ∃ (u : TV), i < len → W.cell? (a.add i) = some (.slice u.T u.n u.c) ∧ TOk W u := fun i => by
      by_cases hil : i < len
      · obtain ⟨u, h⟩ := key i hil
        exact ⟨u, fun _ => h⟩
      · exact ⟨TV0, fun h => absurd h hil⟩
    obtain ⟨f, hf⟩ := Classical.axiomOfChoice key2
    obtain ⟨b, o, sp⟩ := a
    refine ⟨some ⟨b, o, sp⟩, len, cap, f, hcs, ⟨fun j hj => ?_, fun j hj => (hf j hj).2⟩, hl, by simpa [maxLen] using hm⟩
    have h0 := (hf j hj).1
    have hspot : sp = none := by
      simpa [Addr.add] using World.cell?_spot (hf 0 (by omega)).1
    subst hspot
    simp only [addr_lit] at h0
    exact ⟨b, o, rfl, h0⟩
end
end Go.Proofs.Ytchcpeenpijekaa
