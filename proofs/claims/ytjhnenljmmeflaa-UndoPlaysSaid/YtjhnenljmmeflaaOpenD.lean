/- What came in, opened: a slice of standishlaw28.Deed. -/
import Derived.Test.YtjhnenljmmeflaaOpenI
namespace Go.Proofs.Ytjhnenljmmeflaa
open Go.ChangeShapes Go.WideShapes Go.ChangeAt Go.RowKit Go.Deep
set_option linter.unusedVariables false

/-- A deed: which, where, its changes. -/
structure DV where
  how : Int
  at_ : Int
  L : Option Addr
  n : Nat
  c : Nat
  us : Nat → CV
  l : List Chg
def DV0 : DV := ⟨0, 0, none, 0, 0, fun _ => ⟨0, none, 0, 0, none, 0, 0⟩, []⟩
structure DOk (W : World) (u : DV) : Prop where
  rd : Chgs W u.L u.n u.us u.l
  le : u.n ≤ u.c
  cap : u.c ≤ 9223372036854775807
  hw : -9223372036854775808 ≤ u.how ∧ u.how ≤ 9223372036854775807
  aw : -9223372036854775808 ≤ u.at_ ∧ u.at_ ≤ 9223372036854775807
theorem DOk.below {w w' : World} {u : DV} (h : DOk w u) (hb : Below w.heap.size w w') : DOk w' u := ⟨h.rd.below hb, h.le, h.cap, h.hw, h.aw⟩
/-- A slice of deeds. -/
structure Deeds (w : World) (A : Option Addr) (n : Nat) (ds : Nat → DV) : Prop where
  at_ : ∀ j, j < n → ∃ b o, A = some ⟨b, o, none⟩ ∧ w.cell? ⟨b, o + j * 3, none⟩ = some (.int .i64 (ds j).how) ∧ w.cell? ⟨b, o + j * 3 + 1, none⟩ = some (.int .i64 (ds j).at_) ∧ w.cell? ⟨b, o + j * 3 + 2, none⟩ = some (.slice (ds j).L (ds j).n (ds j).c)
  ok : ∀ j, j < n → DOk w (ds j)
theorem Deeds.below {w w' : World} {A : Option Addr} {n : Nat} {ds : Nat → DV} (h : Deeds w A n ds) (hb : Below w.heap.size w w') : Deeds w' A n ds :=
  ⟨fun j hj => by
    obtain ⟨b, o, e, h1, h2, h3⟩ := h.at_ j hj
    have hl : b < w.heap.size := World.block_lt_of_cell? w _ h1
    exact ⟨b, o, e, (hb.cell (p := ⟨b, o + j * 3, none⟩) hl).trans h1, (hb.cell (p := ⟨b, o + j * 3 + 1, none⟩) hl).trans h2, (hb.cell (p := ⟨b, o + j * 3 + 2, none⟩) hl).trans h3⟩, fun j hj => (h.ok j hj).below hb⟩
structure DeedsArg (W : World) (v : Value) (A : Option Addr) (n c : Nat) (ds : Nat → DV) : Prop where
  eq : v = .slice A n c
  rd : Deeds W A n ds
  le : n ≤ c
  cap : c ≤ 9223372036854775807

section
variable {H : Type} {enc : TypeId × Value → H} {W : World} {base : Nat} {spare : Nat → Bool} {held : Bool}


theorem open_changes1 {fuel : Nat} {v : Value} {y : DataW H × List MemPlace}
    (h : DataW.trod enc Try.prog W base spare held fuel 29 [v] = some y) (hw : ∀ x ∈ y.1.weights Try.prog 29, x ≤ reachBytes) :
    ∃ A n c us l, ChgsArg W v A n c us l := by
  obtain ⟨d, p⟩ := y
  rcases open_slice Try.underlying29 h with ⟨hcs, _⟩ | ⟨a, len, cap, m, n, D, Pl, hcs, hb, hl, hm, hmm, hx, hi⟩
  · have hcs : v = .slice none 0 0 := by simpa using hcs
    exact ⟨none, 0, 0, fun _ => ⟨0, none, 0, 0, none, 0, 0⟩, [], hcs, Chgs.nil W none _, Nat.le_refl _, by omega, fun j h => absurd h (by omega)⟩
  · have hcs : v = .slice (some a) len cap := by simpa using hcs
    have hC : Try.prog.cellsOf 31 = 3 := by kernel_rfl
    rw [hC] at hi
    injection hx with hx _
    have hlm : len ≤ m := by rw [hmm]; split <;> omega
    have key : ∀ i, i < len → ∃ (u : CV) (x : Chg), (W.cell? (a.add (i * 3)) = some (.int .i64 u.at_) ∧ W.cell? (a.add (i * 3 + 1)) = some (.slice u.C u.n u.c) ∧ W.cell? (a.add (i * 3 + 2)) = some (.slice u.P u.m u.d)) ∧
        CRd W u x ∧ u.m ≤ u.d ∧ u.d ≤ 9223372036854775807 := fun i hil => by
      obtain ⟨cs', hc', ht'⟩ := hi i (by omega)
      obtain ⟨u, x, rfl, h2, h3⟩ := open_elt ht' fun y hy => hw y (by
        rw [hx]
        simp only [DataW.weights, Try.underlying29]
        refine List.mem_cons.2 (.inr (List.mem_append.2 (.inl ?_)))
        exact weights_all_mem (List.mem_map.2 ⟨i, List.mem_range.2 hil, rfl⟩) hy)
      obtain ⟨_, _, hat⟩ := World.cells?_some hc'
      refine ⟨u, x, ⟨?_, ?_, ?_⟩, h2, h3⟩
      · have := hat 0 (by omega)
        rw [add_add, Nat.add_zero] at this
        exact this
      · have := hat 1 (by omega)
        rw [add_add] at this
        exact this
      · have := hat 2 (by omega)
        rw [add_add] at this
        exact this
    have key2 : ∀ i, ∃ (ux : CV × Chg), i < len → (W.cell? (a.add (i * 3)) = some (.int .i64 ux.1.at_) ∧ W.cell? (a.add (i * 3 + 1)) = some (.slice ux.1.C ux.1.n ux.1.c) ∧ W.cell? (a.add (i * 3 + 2)) = some (.slice ux.1.P ux.1.m ux.1.d)) ∧
        CRd W ux.1 ux.2 ∧ ux.1.m ≤ ux.1.d ∧ ux.1.d ≤ 9223372036854775807 := fun i => by
      by_cases hil : i < len
      · obtain ⟨u, x, h⟩ := key i hil
        exact ⟨(u, x), fun _ => h⟩
      · exact ⟨(⟨0, none, 0, 0, none, 0, 0⟩, ⟨0, [], []⟩), fun h => absurd h hil⟩
    obtain ⟨f, hf⟩ := Classical.axiomOfChoice key2
    obtain ⟨b, o, sp⟩ := a
    refine ⟨some ⟨b, o, sp⟩, len, cap, fun i => (f i).1, (List.range len).map fun i => (f i).2, hcs, ⟨by simp, fun j hj => ?_, fun j hj => ⟨(f j).2, by simp [hj], (hf j hj).2.1⟩⟩, hl, by simpa [maxLen] using hm, fun j hj => (hf j hj).2.2⟩
    have h0 := (hf j hj).1
    have hspot : sp = none := by
      simpa [Addr.add] using World.cell?_spot (hf 0 (by omega)).1.1
    subst hspot
    simp only [addr_lit] at h0
    exact ⟨b, o, rfl, h0.1, h0.2.1, h0.2.2⟩


/-- An element: a deed in three cells. -/
theorem open_deed {fuel : Nat} {cs : List Value} {d : DataW H} {p : List MemPlace} (h : DataW.trod enc Try.prog W base spare held fuel 54 cs = some (d, p))
    (hw : ∀ x ∈ d.weights Try.prog 54, x ≤ reachBytes) :
    ∃ (u : DV), cs = [.int .i64 u.how, .int .i64 u.at_, .slice u.L u.n u.c] ∧ DOk W u := by
  obtain ⟨ys, k, _, hy, hlen, hyl, hf⟩ := DataW.trod_struct Try.underlying54 h
  simp only [Prod.mk.injEq] at hy
  obtain ⟨hd, hp⟩ := hy
  have hlen3 : cs.length = 3 := hlen.trans (by kernel_rfl)
  obtain ⟨v0, v1, v2, rfl⟩ : ∃ a b c, cs = [a, b, c] := by
    match cs, hlen3 with
    | [a, b, c], _ => exact ⟨a, b, c, rfl⟩
  obtain ⟨y0, y1, y2, rfl⟩ : ∃ a b c, ys = [a, b, c] := by
    match ys, hyl with
    | [a, b, c], _ => exact ⟨a, b, c, rfl⟩
  have f0 := hf 0 _ rfl
  have f1 := hf 1 _ rfl
  have f2 := hf 2 _ rfl
  have g0 : DataW.trod enc Try.prog W base spare held k 3 [v0] = some y0 := f0
  have g1 : DataW.trod enc Try.prog W base spare held k 3 [v1] = some y1 := f1
  have g2 : DataW.trod enc Try.prog W base spare held k 29 [v2] = some y2 := f2
  subst hd
  obtain ⟨hh, ha, _, hwa⟩ := DataW.trod_int Try.underlying3 g0
  simp only [List.cons.injEq, and_true] at ha
  subst ha
  obtain ⟨aa, hb, _, hwb⟩ := DataW.trod_int Try.underlying3 g1
  simp only [List.cons.injEq, and_true] at hb
  subst hb
  obtain ⟨L, n, c, us, l, hL⟩ := open_changes1 g2 fun x hx => hw x (by
    simp only [DataW.weights, Try.underlying54]
    simp only [List.map_cons, DataW.weightsEach, List.mem_append]
    exact .inr (.inr (.inl hx)))
  refine ⟨⟨hh, aa, L, n, c, us, l⟩, ?_, hL.rd, hL.le, hL.cap, wf_i64 hwa, wf_i64 hwb⟩
  rw [hL.eq]

theorem open_deeds_arg {fuel : Nat} {b0 : Nat} {v : Value} {d : DataW H} {p : List MemPlace} (ht : Try.prog.underlying 48 = some (.slice 54)) (hv : Value.okWide Try.prog W .any b0 48 v)
    (h : DataW.trod enc Try.prog W base spare held fuel 48 v.cells.toList = some (d, p)) (hw : ∀ x ∈ d.weights Try.prog 48, x ≤ reachBytes) :
    ∃ A n c ds, DeedsArg W v A n c ds := by
  obtain ⟨a0, len0, cap0, rfl⟩ := okWide_slice ht hv
  rcases open_slice Try.underlying48 h with ⟨hcs, _⟩ | ⟨a, len, cap, m, n, D, Pl, hcs, hb, hl, hm, hmm, hx, hi⟩
  · have hcs : Value.slice a0 len0 cap0 = .slice none 0 0 := by simpa [Value.cells] using hcs
    exact ⟨none, 0, 0, fun _ => DV0, hcs, ⟨fun j h => absurd h (by omega), fun j h => absurd h (by omega)⟩, Nat.le_refl _, by omega⟩
  · have hcs : Value.slice a0 len0 cap0 = .slice (some a) len cap := by simpa [Value.cells] using hcs
    have hC : Try.prog.cellsOf 54 = 3 := by kernel_rfl
    rw [hC] at hi
    injection hx with hx _
    have hlm : len ≤ m := by rw [hmm]; split <;> omega
    have key : ∀ i, i < len → ∃ (u : DV), (W.cell? (a.add (i * 3)) = some (.int .i64 u.how) ∧ W.cell? (a.add (i * 3 + 1)) = some (.int .i64 u.at_) ∧ W.cell? (a.add (i * 3 + 2)) = some (.slice u.L u.n u.c)) ∧ DOk W u := fun i hil => by
      obtain ⟨cs', hc', ht'⟩ := hi i (by omega)
      obtain ⟨u, rfl, h2⟩ := open_deed ht' fun y hy => hw y (by
        rw [hx]
        simp only [DataW.weights, Try.underlying48]
        refine List.mem_cons.2 (.inr (List.mem_append.2 (.inl ?_)))
        exact weights_all_mem (List.mem_map.2 ⟨i, List.mem_range.2 hil, rfl⟩) hy)
      obtain ⟨_, _, hat⟩ := World.cells?_some hc'
      refine ⟨u, ⟨?_, ?_, ?_⟩, h2⟩
      · have := hat 0 (by simp)
        rw [add_add, Nat.add_zero] at this
        exact this
      · have := hat 1 (by simp)
        rw [add_add] at this
        exact this
      · have := hat 2 (by simp)
        rw [add_add] at this
        exact this
    have key2 : ∀ i, ∃ (u : DV), i < len → (W.cell? (a.add (i * 3)) = some (.int .i64 u.how) ∧ W.cell? (a.add (i * 3 + 1)) = some (.int .i64 u.at_) ∧ W.cell? (a.add (i * 3 + 2)) = some (.slice u.L u.n u.c)) ∧ DOk W u := fun i => by
      by_cases hil : i < len
      · obtain ⟨u, h⟩ := key i hil
        exact ⟨u, fun _ => h⟩
      · exact ⟨DV0, fun h => absurd h hil⟩
    obtain ⟨f, hf⟩ := Classical.axiomOfChoice key2
    obtain ⟨b, o, sp⟩ := a
    refine ⟨some ⟨b, o, sp⟩, len, cap, f, hcs, ⟨fun j hj => ?_, fun j hj => (hf j hj).2⟩, hl, by simpa [maxLen] using hm⟩
    have h0 := (hf j hj).1
    have hspot : sp = none := by
      simpa [Addr.add] using World.cell?_spot (hf 0 (by omega)).1.1
    subst hspot
    simp only [addr_lit] at h0
    exact ⟨b, o, rfl, h0.1, h0.2.1, h0.2.2⟩
end
end Go.Proofs.Ytjhnenljmmeflaa
