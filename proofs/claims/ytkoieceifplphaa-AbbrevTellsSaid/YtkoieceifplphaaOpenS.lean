/- What came in, opened: slices of snippets. -/
import Derived.Test.YtkoieceifplphaaOpenN
import Derived.Test.YtkoieceifplphaaSnip
namespace Go.Proofs.Ytkoieceifplphaa
open Go.ChangeShapes Go.WideShapes Go.ChangeAt Go.RowKit Go.Deep
set_option linter.unusedVariables false

section
variable {H : Type} {enc : TypeId × Value → H} {W : World} {base : Nat} {spare : Nat → Bool} {held : Bool}

/-- What a slice of snippets that came in is. -/
structure SnipsArg (W : World) (v : Value) (A : Option Addr) (n c : Nat) (us : Nat → SNV) (l : List Snp) : Prop where
  eq : v = .slice A n c
  rd : Snips W A n us l
  le : n ≤ c
  cap : c ≤ 9223372036854775807

/-- An element: a snippet in two cells. -/
theorem open_snip {fuel : Nat} {cs : List Value} {d : DataW H} {p : List MemPlace} (h : DataW.trod enc Try.prog W base spare held fuel 36 cs = some (d, p))
    (hw : ∀ x ∈ d.weights Try.prog 36, x ≤ reachBytes) :
    ∃ (u : SNV) (x : Snp), cs = [.slice u.T u.n u.c, .slice u.B u.m u.d] ∧ SRd W u x := by
  obtain ⟨ys, k, _, hy, hlen, hyl, hf⟩ := DataW.trod_struct Try.underlying36 h
  simp only [Prod.mk.injEq] at hy
  obtain ⟨hd, hp⟩ := hy
  have hlen2 : cs.length = 2 := hlen.trans (by kernel_rfl)
  obtain ⟨v0, v1, rfl⟩ : ∃ a b, cs = [a, b] := by
    match cs, hlen2 with
    | [a, b], _ => exact ⟨a, b, rfl⟩
  obtain ⟨y0, y1, rfl⟩ : ∃ a b, ys = [a, b] := by
    match ys, hyl with
    | [a, b], _ => exact ⟨a, b, rfl⟩
  have f0 := hf 0 _ rfl
  have f1 := hf 1 _ rfl
  have c1 : Try.prog.cellsOf 23 = 1 := by kernel_rfl
  have g0 : DataW.trod enc Try.prog W base spare held k 23 [v0] = some y0 := f0
  have g1 : DataW.trod enc Try.prog W base spare held k 23 [v1] = some y1 := f1
  subst hd
  obtain ⟨C, n, c, cut, hC⟩ := open_runes g0 fun x hx => hw x (by
    simp only [DataW.weights, Try.underlying36]
    simp only [List.map_cons, DataW.weightsEach, List.mem_append]
    exact .inl hx)
  obtain ⟨P, m, e', put, hP⟩ := open_runes g1 fun x hx => hw x (by
    simp only [DataW.weights, Try.underlying36]
    simp only [List.map_cons, DataW.weightsEach, List.mem_append]
    exact .inr (.inl hx))
  exact ⟨⟨C, n, c, P, m, e'⟩, ⟨cut, put⟩, by rw [hC.eq, hP.eq], ⟨hC.rd, hP.rd, ⟨hC.le, hC.cap⟩, ⟨hP.le, hP.cap⟩⟩⟩

theorem weights_all_memS {e : TypeId} {x : Nat} : ∀ {l : List (DataW H)} {d : DataW H}, d ∈ l → x ∈ d.weights Try.prog e → x ∈ DataW.weightsAll Try.prog e l
  | d' :: r, d, hd, hx => by
    rw [DataW.weightsAll, List.mem_append]
    rcases List.mem_cons.1 hd with rfl | h
    · exact .inl hx
    · exact .inr (weights_all_memS h hx)

theorem open_snips_arg {fuel : Nat} {b0 : Nat} {v : Value} {d : DataW H} {p : List MemPlace} (ht : Try.prog.underlying 22 = some (.slice 36)) (hv : Value.okWide Try.prog W .any b0 22 v)
    (h : DataW.trod enc Try.prog W base spare held fuel 22 v.cells.toList = some (d, p)) (hw : ∀ x ∈ d.weights Try.prog 22, x ≤ reachBytes) :
    ∃ A n c us l, SnipsArg W v A n c us l := by
  obtain ⟨a0, len0, cap0, rfl⟩ := okWide_slice ht hv
  rcases open_slice Try.underlying22 h with ⟨hcs, _⟩ | ⟨a, len, cap, m, n, D, Pl, hcs, hb, hl, hm, hmm, hx, hi⟩
  · have hcs : Value.slice a0 len0 cap0 = .slice none 0 0 := by simpa [Value.cells] using hcs
    exact ⟨none, 0, 0, fun _ => ⟨none, 0, 0, none, 0, 0⟩, [], hcs, Snips.nil W none _, Nat.le_refl _, by omega⟩
  · have hcs : Value.slice a0 len0 cap0 = .slice (some a) len cap := by simpa [Value.cells] using hcs
    have hC : Try.prog.cellsOf 36 = 2 := by kernel_rfl
    rw [hC] at hi
    injection hx with hx _
    have hlm : len ≤ m := by rw [hmm]; split <;> omega
    have key : ∀ i, i < len → ∃ (u : SNV) (x : Snp), (W.cell? (a.add (i * 2)) = some (.slice u.T u.n u.c) ∧ W.cell? (a.add (i * 2 + 1)) = some (.slice u.B u.m u.d)) ∧ SRd W u x := fun i hil => by
      obtain ⟨cs', hc', ht'⟩ := hi i (by omega)
      obtain ⟨u, x, rfl, h2⟩ := open_snip ht' fun y hy => hw y (by
        rw [hx]
        simp only [DataW.weights, Try.underlying22]
        refine List.mem_cons.2 (.inr (List.mem_append.2 (.inl ?_)))
        exact weights_all_memS (List.mem_map.2 ⟨i, List.mem_range.2 hil, rfl⟩) hy)
      obtain ⟨_, _, hat⟩ := World.cells?_some hc'
      refine ⟨u, x, ⟨?_, ?_⟩, h2⟩
      · have := hat 0 (by omega)
        rw [add_add, Nat.add_zero] at this
        exact this
      · have := hat 1 (by omega)
        rw [add_add] at this
        exact this
    have key2 : ∀ i, ∃ (ux : SNV × Snp), i < len → (W.cell? (a.add (i * 2)) = some (.slice ux.1.T ux.1.n ux.1.c) ∧ W.cell? (a.add (i * 2 + 1)) = some (.slice ux.1.B ux.1.m ux.1.d)) ∧ SRd W ux.1 ux.2 := fun i => by
      by_cases hil : i < len
      · obtain ⟨u, x, h⟩ := key i hil
        exact ⟨(u, x), fun _ => h⟩
      · exact ⟨(⟨none, 0, 0, none, 0, 0⟩, ⟨[], []⟩), fun h => absurd h hil⟩
    obtain ⟨f, hf⟩ := Classical.axiomOfChoice key2
    obtain ⟨b, o, sp⟩ := a
    refine ⟨some ⟨b, o, sp⟩, len, cap, fun i => (f i).1, (List.range len).map fun i => (f i).2, hcs, ⟨by simp, fun j hj => ?_, fun j hj => ⟨(f j).2, by simp [hj], (hf j hj).2⟩⟩, hl, by simpa [maxLen] using hm⟩
    have h0 := (hf j hj).1
    have hspot : sp = none := by
      simpa [Addr.add] using World.cell?_spot (hf 0 (by omega)).1.1
    subst hspot
    simp only [addr_lit] at h0
    exact ⟨b, o, rfl, h0.1, h0.2⟩
end
end Go.Proofs.Ytkoieceifplphaa
