/- What came in, opened: a slice of standish/standishlaw21.Deed. -/
import Derived.Test.YtchcpeenpijekaaOpenA
import Derived.Deep.Slices
import Derived.Deep.Fields
import Derived.ChangeSame
namespace Go.Proofs.Ytchcpeenpijekaa
open Go.ChangeShapes Go.WideShapes Go.ChangeAt Go.RowKit Go.Deep
set_option linter.unusedVariables false
set_option maxRecDepth 100000

/-- A deed. -/
structure DV where
  how : Int
  T : Option Addr
  n : Nat
  c : Nat
  t : List Int
def DV0 : DV := ⟨0, none, 0, 0, []⟩
structure DOk (W : World) (u : DV) : Prop where
  rd : Runes W u.T u.n u.t
  le : u.n ≤ u.c
  cap : u.c ≤ 9223372036854775807
  len : u.n ≤ 35184372087808
  hw : -9223372036854775808 ≤ u.how ∧ u.how ≤ 9223372036854775807
theorem DOk.below {w w' : World} {u : DV} (h : DOk w u) (hb : Below w.heap.size w w') : DOk w' u := ⟨h.rd.below hb, h.le, h.cap, h.len, h.hw⟩
/-- A slice of deeds. -/
structure Deeds (w : World) (A : Option Addr) (n : Nat) (ds : Nat → DV) : Prop where
  at_ : ∀ j, j < n → ∃ b o, A = some ⟨b, o, none⟩ ∧ w.cell? ⟨b, o + j * 2, none⟩ = some (.int .i64 (ds j).how) ∧ w.cell? ⟨b, o + j * 2 + 1, none⟩ = some (.slice (ds j).T (ds j).n (ds j).c)
  ok : ∀ j, j < n → DOk w (ds j)
theorem Deeds.below {w w' : World} {A : Option Addr} {n : Nat} {ds : Nat → DV} (h : Deeds w A n ds) (hb : Below w.heap.size w w') : Deeds w' A n ds :=
  ⟨fun j hj => by
    obtain ⟨b, o, e, h0, h1⟩ := h.at_ j hj
    have hl : b < w.heap.size := World.block_lt_of_cell? w _ h0
    exact ⟨b, o, e, (hb.cell (p := ⟨b, o + j * 2, none⟩) hl).trans h0, (hb.cell (p := ⟨b, o + j * 2 + 1, none⟩) hl).trans h1⟩, fun j hj => (h.ok j hj).below hb⟩
structure DeedsArg (W : World) (v : Value) (A : Option Addr) (n c : Nat) (ds : Nat → DV) : Prop where
  eq : v = .slice A n c
  rd : Deeds W A n ds
  le : n ≤ c
  cap : c ≤ 9223372036854775807

section
variable {H : Type} {enc : TypeId × Value → H} {W : World} {base : Nat} {spare : Nat → Bool} {held : Bool}

theorem weights_all_memD {e : TypeId} {x : Nat} : ∀ {l : List (DataW H)} {d : DataW H}, d ∈ l → x ∈ d.weights Try.prog e → x ∈ DataW.weightsAll Try.prog e l
  | d' :: r, d, hd, hx => by
    rw [DataW.weightsAll, List.mem_append]
    rcases List.mem_cons.1 hd with rfl | h
    · exact .inl hx
    · exact .inr (weights_all_memD h hx)
/-- An element: a deed in its cells. -/
theorem open_deed {fuel : Nat} {cs : List Value} {d : DataW H} {p : List MemPlace} (h : DataW.trod enc Try.prog W base spare held fuel 32 cs = some (d, p))
    (hw : ∀ x ∈ d.weights Try.prog 32, x ≤ reachBytes) :
    ∃ (u : DV), cs = [.int .i64 u.how, .slice u.T u.n u.c] ∧ DOk W u := by
  obtain ⟨ys, k, _, hy, hlen, hyl, hf⟩ := DataW.trod_struct Try.underlying32 h
  simp only [Prod.mk.injEq] at hy
  obtain ⟨hd, hp⟩ := hy
  subst hd
  have hlen2 : cs.length = 2 := hlen.trans (by kernel_rfl)
  obtain ⟨v0, v1, rfl⟩ : ∃ v0 v1, cs = [v0, v1] := by
    match cs, hlen2 with
    | [v0, v1], _ => exact ⟨v0, v1, rfl⟩
  obtain ⟨y0, y1, rfl⟩ : ∃ a b, ys = [a, b] := by
    match ys, hyl with
    | [a, b], _ => exact ⟨a, b, rfl⟩
  have g0 : DataW.trod enc Try.prog W base spare held k 3 [v0] = some y0 := hf 0 _ rfl
  have g1 : DataW.trod enc Try.prog W base spare held k 29 [v1] = some y1 := hf 1 _ rfl
  obtain ⟨x0, e0, _, w0⟩ := DataW.trod_int Try.underlying3 g0
  injection e0 with e0
  obtain ⟨T, n, c, t, hT⟩ := open_runes g1 fun x hx => hw x (by
    simp only [DataW.weights, Try.underlying32]
    simp only [List.map_cons, List.map_nil, DataW.weightsEach, List.mem_append]
    exact .inr (.inl hx))
  exact ⟨⟨x0, T, n, c, t⟩, by rw [e0, hT.eq], hT.rd, hT.le, hT.cap, hT.len, wf_i64 w0⟩

theorem open_deeds_arg {fuel : Nat} {b0 : Nat} {v : Value} {d : DataW H} {p : List MemPlace} (ht : Try.prog.underlying 22 = some (.slice 32)) (hv : Value.okWide Try.prog W .any b0 22 v)
    (h : DataW.trod enc Try.prog W base spare held fuel 22 v.cells.toList = some (d, p)) (hw : ∀ x ∈ d.weights Try.prog 22, x ≤ reachBytes) :
    ∃ A n c ds, DeedsArg W v A n c ds := by
  obtain ⟨a0, len0, cap0, rfl⟩ := okWide_slice ht hv
  rcases open_slice Try.underlying22 h with ⟨hcs, _⟩ | ⟨a, len, cap, m, n, D, Pl, hcs, hb, hl, hm, hmm, hx, hi⟩
  · have hcs : Value.slice a0 len0 cap0 = .slice none 0 0 := by simpa [Value.cells] using hcs
    exact ⟨none, 0, 0, fun _ => DV0, hcs, ⟨fun j h => absurd h (by omega), fun j h => absurd h (by omega)⟩, Nat.le_refl _, by omega⟩
  · have hcs : Value.slice a0 len0 cap0 = .slice (some a) len cap := by simpa [Value.cells] using hcs
    have hC : Try.prog.cellsOf 32 = 2 := by kernel_rfl
    rw [hC] at hi
    injection hx with hx _
    have hlm : len ≤ m := by rw [hmm]; split <;> omega
    have key : ∀ i, i < len → ∃ (u : DV), (W.cell? (a.add (i * 2)) = some (.int .i64 u.how) ∧ W.cell? (a.add (i * 2 + 1)) = some (.slice u.T u.n u.c)) ∧ DOk W u := fun i hil => by
      obtain ⟨cs', hc', ht'⟩ := hi i (by omega)
      obtain ⟨u, rfl, h2⟩ := open_deed ht' fun y hy => hw y (by
        rw [hx]
        simp only [DataW.weights, Try.underlying22]
        refine List.mem_cons.2 (.inr (List.mem_append.2 (.inl ?_)))
        exact weights_all_memD (List.mem_map.2 ⟨i, List.mem_range.2 hil, rfl⟩) hy)
      obtain ⟨_, _, hat⟩ := World.cells?_some hc'
      refine ⟨u, ⟨?_, ?_⟩, h2⟩
      · have := hat 0 (by simp)
        rw [add_add, Nat.add_zero] at this
        exact this
      · have := hat 1 (by simp)
        rw [add_add] at this
        exact this
    have key2 : ∀ i, ∃ (u : DV), i < len → (W.cell? (a.add (i * 2)) = some (.int .i64 u.how) ∧ W.cell? (a.add (i * 2 + 1)) = some (.slice u.T u.n u.c)) ∧ DOk W u := fun i => by
      by_cases hil : i < len
      · obtain ⟨u, h⟩ := key i hil
        exact ⟨u, fun _ => h⟩
      · exact ⟨DV0, fun h => absurd h hil⟩
    obtain ⟨f, hf⟩ := Classical.axiomOfChoice key2
    obtain ⟨b, o, sp⟩ := a
    refine ⟨some ⟨b, o, sp⟩, len, cap, f, hcs, ⟨fun j hj => ?_, fun j hj => (hf j hj).2⟩, hl, by simpa [maxLen] using hm⟩
    have h0 := (hf j hj).1
    have hspot : sp = none := by
      simpa [Addr.add] using World.cell?_spot (hf 0 (by omega)).1.1
    subst hspot
    simp only [addr_lit] at h0
    exact ⟨b, o, rfl, h0⟩
end
end Go.Proofs.Ytchcpeenpijekaa
