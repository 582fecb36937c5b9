/- What came in, opened: a slice of standish/standishlaw26.Deed. -/
import Derived.Test.YthmchmpicncgdaaOpenA
import Derived.Deep.Slices
import Derived.Deep.Fields
import Derived.ChangeSame
namespace Go.Proofs.Ythmchmpicncgdaa
open Go.ChangeShapes Go.WideShapes Go.ChangeAt Go.RowKit Go.Deep
set_option linter.unusedVariables false

/-- A deed. -/
structure DV where
  name : Int
  pick : Int
  T : Option Addr
  n : Nat
  c : Nat
  t : List Int
  q : Bool
def DV0 : DV := ⟨0, 0, none, 0, 0, [], false⟩
structure DOk (W : World) (u : DV) : Prop where
  rd : Runes W u.T u.n u.t
  le : u.n ≤ u.c
  cap : u.c ≤ 9223372036854775807
  len : u.n ≤ 35184372087808
  hw : -2147483648 ≤ u.name ∧ u.name ≤ 2147483647
  pw : -9223372036854775808 ≤ u.pick ∧ u.pick ≤ 9223372036854775807
theorem DOk.below {w w' : World} {u : DV} (h : DOk w u) (hb : Below w.heap.size w w') : DOk w' u := ⟨h.rd.below hb, h.le, h.cap, h.len, h.hw, h.pw⟩
/-- A slice of deeds. -/
structure Deeds (w : World) (A : Option Addr) (n : Nat) (ds : Nat → DV) : Prop where
  at_ : ∀ j, j < n → ∃ b o, A = some ⟨b, o, none⟩ ∧ w.cell? ⟨b, o + j * 4, none⟩ = some (.int .i32 (ds j).name) ∧ w.cell? ⟨b, o + j * 4 + 1, none⟩ = some (.int .i64 (ds j).pick) ∧ w.cell? ⟨b, o + j * 4 + 2, none⟩ = some (.slice (ds j).T (ds j).n (ds j).c) ∧ w.cell? ⟨b, o + j * 4 + 3, none⟩ = some (.bool (ds j).q)
  ok : ∀ j, j < n → DOk w (ds j)
theorem Deeds.below {w w' : World} {A : Option Addr} {n : Nat} {ds : Nat → DV} (h : Deeds w A n ds) (hb : Below w.heap.size w w') : Deeds w' A n ds :=
  ⟨fun j hj => by
    obtain ⟨b, o, e, h0, h1, h2, h3⟩ := h.at_ j hj
    have hl : b < w.heap.size := World.block_lt_of_cell? w _ h0
    exact ⟨b, o, e, (hb.cell (p := ⟨b, o + j * 4, none⟩) hl).trans h0, (hb.cell (p := ⟨b, o + j * 4 + 1, none⟩) hl).trans h1, (hb.cell (p := ⟨b, o + j * 4 + 2, none⟩) hl).trans h2, (hb.cell (p := ⟨b, o + j * 4 + 3, none⟩) hl).trans h3⟩, fun j hj => (h.ok j hj).below hb⟩
structure DeedsArg (W : World) (v : Value) (A : Option Addr) (n c : Nat) (ds : Nat → DV) : Prop where
  eq : v = .slice A n c
  rd : Deeds W A n ds
  le : n ≤ c
  cap : c ≤ 9223372036854775807

section
variable {H : Type} {enc : TypeId × Value → H} {W : World} {base : Nat} {spare : Nat → Bool} {held : Bool}

theorem weights_all_memD {e : TypeId} {x : Nat} : ∀ {l : List (DataW H)} {d : DataW H}, d ∈ l → x ∈ d.weights Try.prog e → x ∈ DataW.weightsAll Try.prog e l
  | d' :: r, d, hd, hx => by
    rw [DataW.weightsAll, List.mem_append]
    rcases List.mem_cons.1 hd with rfl | h
    · exact .inl hx
    · exact .inr (weights_all_memD h hx)
/-- An element: a deed in its cells. -/
theorem open_deed {fuel : Nat} {cs : List Value} {d : DataW H} {p : List MemPlace} (h : DataW.trod enc Try.prog W base spare held fuel 34 cs = some (d, p))
    (hw : ∀ x ∈ d.weights Try.prog 34, x ≤ reachBytes) :
    ∃ (u : DV), cs = [.int .i32 u.name, .int .i64 u.pick, .slice u.T u.n u.c, .bool u.q] ∧ DOk W u := by
  obtain ⟨ys, k, _, hy, hlen, hyl, hf⟩ := DataW.trod_struct Try.underlying34 h
  simp only [Prod.mk.injEq] at hy
  obtain ⟨hd, hp⟩ := hy
  subst hd
  have hlen2 : cs.length = 4 := hlen.trans (by kernel_rfl)
  obtain ⟨v0, v1, v2, v3, rfl⟩ : ∃ v0 v1 v2 v3, cs = [v0, v1, v2, v3] := by
    match cs, hlen2 with
    | [v0, v1, v2, v3], _ => exact ⟨v0, v1, v2, v3, rfl⟩
  obtain ⟨y0, y1, y2, rfl⟩ : ∃ a b c, ys = [a, b, c] := by
    match ys, hyl with
    | [a, b, c], _ => exact ⟨a, b, c, rfl⟩
  have g0 : DataW.trod enc Try.prog W base spare held k 21 [v0] = some y0 := hf 0 _ rfl
  have g1 : DataW.trod enc Try.prog W base spare held k 3 [v1] = some y1 := hf 1 _ rfl
  have g2 : DataW.trod enc Try.prog W base spare held k 29 [v2, v3] = some y2 := hf 2 _ rfl
  obtain ⟨x0, e0, _, w0⟩ := DataW.trod_int Try.underlying21 g0
  injection e0 with e0
  obtain ⟨x1, e1, _, w1⟩ := DataW.trod_int Try.underlying3 g1
  injection e1 with e1
  obtain ⟨dR, pR⟩ := y2
  obtain ⟨ys2, k2, _, hy2, hlenR, hyl2, hf2⟩ := DataW.trod_struct Try.underlying29 g2
  simp only [Prod.mk.injEq] at hy2
  obtain ⟨hd2, hp2⟩ := hy2
  subst hd2
  obtain ⟨z0, z1, rfl⟩ : ∃ a b, ys2 = [a, b] := by
    match ys2, hyl2 with
    | [a, b], _ => exact ⟨a, b, rfl⟩
  have g3 : DataW.trod enc Try.prog W base spare held k2 27 [v2] = some z0 := hf2 0 _ rfl
  have g4 : DataW.trod enc Try.prog W base spare held k2 4 [v3] = some z1 := hf2 1 _ rfl
  obtain ⟨T, n, c, t, hT⟩ := open_runes g3 fun x hx => hw x (by
    simp only [DataW.weights, Try.underlying34, Try.underlying29]
    simp only [List.map_cons, List.map_nil, DataW.weightsEach, DataW.weights, Try.underlying29, List.mem_append]
    exact .inr (.inr (.inl (.inl hx))))
  obtain ⟨b4, e4, _⟩ := DataW.trod_bool Try.underlying4 g4
  injection e4 with e4
  exact ⟨⟨x0, x1, T, n, c, t, b4⟩, by rw [e0, e1, hT.eq, e4], hT.rd, hT.le, hT.cap, hT.len, wf_i32 w0, wf_i64 w1⟩

theorem open_deeds_arg {fuel : Nat} {b0 : Nat} {v : Value} {d : DataW H} {p : List MemPlace} (ht : Try.prog.underlying 22 = some (.slice 34)) (hv : Value.okWide Try.prog W .any b0 22 v)
    (h : DataW.trod enc Try.prog W base spare held fuel 22 v.cells.toList = some (d, p)) (hw : ∀ x ∈ d.weights Try.prog 22, x ≤ reachBytes) :
    ∃ A n c ds, DeedsArg W v A n c ds := by
  obtain ⟨a0, len0, cap0, rfl⟩ := okWide_slice ht hv
  rcases open_slice Try.underlying22 h with ⟨hcs, _⟩ | ⟨a, len, cap, m, n, D, Pl, hcs, hb, hl, hm, hmm, hx, hi⟩
  · have hcs : Value.slice a0 len0 cap0 = .slice none 0 0 := by simpa [Value.cells] using hcs
    exact ⟨none, 0, 0, fun _ => DV0, hcs, ⟨fun j h => absurd h (by omega), fun j h => absurd h (by omega)⟩, Nat.le_refl _, by omega⟩
  · have hcs : Value.slice a0 len0 cap0 = .slice (some a) len cap := by simpa [Value.cells] using hcs
    have hC : Try.prog.cellsOf 34 = 4 := by kernel_rfl
    rw [hC] at hi
    injection hx with hx _
    have hlm : len ≤ m := by rw [hmm]; split <;> omega
    have key : ∀ i, i < len → ∃ (u : DV), (W.cell? (a.add (i * 4)) = some (.int .i32 u.name) ∧ W.cell? (a.add (i * 4 + 1)) = some (.int .i64 u.pick) ∧ W.cell? (a.add (i * 4 + 2)) = some (.slice u.T u.n u.c) ∧ W.cell? (a.add (i * 4 + 3)) = some (.bool u.q)) ∧ DOk W u := fun i hil => by
      obtain ⟨cs', hc', ht'⟩ := hi i (by omega)
      obtain ⟨u, rfl, h2⟩ := open_deed ht' fun y hy => hw y (by
        rw [hx]
        simp only [DataW.weights, Try.underlying22]
        refine List.mem_cons.2 (.inr (List.mem_append.2 (.inl ?_)))
        exact weights_all_memD (List.mem_map.2 ⟨i, List.mem_range.2 hil, rfl⟩) hy)
      obtain ⟨_, _, hat⟩ := World.cells?_some hc'
      refine ⟨u, ⟨?_, ?_, ?_, ?_⟩, h2⟩
      · have := hat 0 (by simp)
        rw [add_add, Nat.add_zero] at this
        exact this
      · have := hat 1 (by simp)
        rw [add_add] at this
        exact this
      · have := hat 2 (by simp)
        rw [add_add] at this
        exact this
      · have := hat 3 (by simp)
        rw [add_add] at this
        exact this
    have key2 : ∀ i, ∃ (u : DV), i < len → (W.cell? (a.add (i * 4)) = some (.int .i32 u.name) ∧ W.cell? (a.add (i * 4 + 1)) = some (.int .i64 u.pick) ∧ W.cell? (a.add (i * 4 + 2)) = some (.slice u.T u.n u.c) ∧ W.cell? (a.add (i * 4 + 3)) = some (.bool u.q)) ∧ DOk W u := fun i => by
      by_cases hil : i < len
      · obtain ⟨u, h⟩ := key i hil
        exact ⟨u, fun _ => h⟩
      · exact ⟨DV0, fun h => absurd h hil⟩
    obtain ⟨f, hf⟩ := Classical.axiomOfChoice key2
    obtain ⟨b, o, sp⟩ := a
    refine ⟨some ⟨b, o, sp⟩, len, cap, f, hcs, ⟨fun j hj => ?_, fun j hj => (hf j hj).2⟩, hl, by simpa [maxLen] using hm⟩
    have h0 := (hf j hj).1
    have hspot : sp = none := by
      simpa [Addr.add] using World.cell?_spot (hf 0 (by omega)).1.1
    subst hspot
    simp only [addr_lit] at h0
    exact ⟨b, o, rfl, h0⟩
end
end Go.Proofs.Ythmchmpicncgdaa
