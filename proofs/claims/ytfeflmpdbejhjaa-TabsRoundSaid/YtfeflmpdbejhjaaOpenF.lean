/- What came in, opened: slices of fields. -/
import Derived.Test.YtfeflmpdbejhjaaOpenA
import Derived.Test.YtfeflmpdbejhjaaFld
import Derived.Deep.Slices
import Derived.Deep.Fields
import Derived.ChangeSame
namespace Go.Proofs.Ytfeflmpdbejhjaa
open Go.ChangeShapes Go.WideShapes Go.ChangeAt Go.RowKit Go.Deep
set_option linter.unusedVariables false

section
variable {H : Type} {enc : TypeId × Value → H} {W : World} {base : Nat} {spare : Nat → Bool} {held : Bool}

/-- What a slice of fields that came in is. -/
structure FldsArg (W : World) (v : Value) (A : Option Addr) (n c : Nat) (us : Nat → FV) : Prop where
  eq : v = .slice A n c
  rd : Flds W A n us
  le : n ≤ c
  cap : c ≤ 9223372036854775807

theorem wf64 {n : Int} (h : (Lit.int .i64 n).wf = true) : -9223372036854775808 ≤ n ∧ n ≤ 9223372036854775807 := by
  simpa [Lit.wf, IntKind.min, IntKind.max, IntKind.signed, IntKind.bits] using h
theorem slice_form {t e : TypeId} {fuel : Nat} {cs : List Value} {x : DataW H × List MemPlace} (ht : Try.prog.underlying t = some (.slice e)) (h : DataW.trod enc Try.prog W base spare held fuel t cs = some x) :
    ∃ A n c, cs = [.slice A n c] := by
  rcases open_slice ht h with ⟨h1, _⟩ | ⟨a, len, cap, _, _, _, _, h1, _⟩
  · exact ⟨none, 0, 0, h1⟩
  · exact ⟨some a, len, cap, h1⟩

/-- An element: a field in eleven cells. -/
theorem open_field {fuel : Nat} {cs : List Value} {d : DataW H} {p : List MemPlace} (h : DataW.trod enc Try.prog W base spare held fuel 33 cs = some (d, p)) :
    ∃ v : FV, cs = v.cells ∧ (-9223372036854775808 ≤ v.kind ∧ v.kind ≤ 9223372036854775807) ∧ (-9223372036854775808 ≤ v.num ∧ v.num ≤ 9223372036854775807) := by
  obtain ⟨ys, k, _, hy, hlen, hyl, hf⟩ := DataW.trod_struct Try.underlying33 h
  have hlen2 : cs.length = 11 := hlen.trans (by kernel_rfl)
  obtain ⟨v0, v1, v2, v3, v4, v5, v6, v7, v8, v9, v10, rfl⟩ : ∃ v0 v1 v2 v3 v4 v5 v6 v7 v8 v9 v10, cs = [v0, v1, v2, v3, v4, v5, v6, v7, v8, v9, v10] := by
    match cs, hlen2 with
    | [v0, v1, v2, v3, v4, v5, v6, v7, v8, v9, v10], _ => exact ⟨v0, v1, v2, v3, v4, v5, v6, v7, v8, v9, v10, rfl⟩
  obtain ⟨y0, y1, y2, y3, y4, y5, y6, y7, y8, y9, y10, rfl⟩ : ∃ y0 y1 y2 y3 y4 y5 y6 y7 y8 y9 y10, ys = [y0, y1, y2, y3, y4, y5, y6, y7, y8, y9, y10] := by
    match ys, hyl with
    | [y0, y1, y2, y3, y4, y5, y6, y7, y8, y9, y10], _ => exact ⟨y0, y1, y2, y3, y4, y5, y6, y7, y8, y9, y10, rfl⟩
  have g0 : DataW.trod enc Try.prog W base spare held k 3 [v0] = some y0 := hf 0 _ rfl
  have g1 : DataW.trod enc Try.prog W base spare held k 3 [v1] = some y1 := hf 1 _ rfl
  have g2 : DataW.trod enc Try.prog W base spare held k 3 [v2] = some y2 := hf 2 _ rfl
  have g3 : DataW.trod enc Try.prog W base spare held k 3 [v3] = some y3 := hf 3 _ rfl
  have g4 : DataW.trod enc Try.prog W base spare held k 3 [v4] = some y4 := hf 4 _ rfl
  have g5 : DataW.trod enc Try.prog W base spare held k 3 [v5] = some y5 := hf 5 _ rfl
  have g6 : DataW.trod enc Try.prog W base spare held k 29 [v6] = some y6 := hf 6 _ rfl
  have g7 : DataW.trod enc Try.prog W base spare held k 30 [v7] = some y7 := hf 7 _ rfl
  have g8 : DataW.trod enc Try.prog W base spare held k 31 [v8] = some y8 := hf 8 _ rfl
  have g9 : DataW.trod enc Try.prog W base spare held k 4 [v9] = some y9 := hf 9 _ rfl
  have g10 : DataW.trod enc Try.prog W base spare held k 4 [v10] = some y10 := hf 10 _ rfl
  obtain ⟨x0, e0, _, w0⟩ := DataW.trod_int Try.underlying3 g0
  injection e0 with e0
  obtain ⟨x1, e1, _, w1⟩ := DataW.trod_int Try.underlying3 g1
  injection e1 with e1
  obtain ⟨x2, e2, _, w2⟩ := DataW.trod_int Try.underlying3 g2
  injection e2 with e2
  obtain ⟨x3, e3, _, w3⟩ := DataW.trod_int Try.underlying3 g3
  injection e3 with e3
  obtain ⟨x4, e4, _, w4⟩ := DataW.trod_int Try.underlying3 g4
  injection e4 with e4
  obtain ⟨x5, e5, _, w5⟩ := DataW.trod_int Try.underlying3 g5
  injection e5 with e5
  obtain ⟨A6, n6, c6, e6⟩ := slice_form Try.underlying29 g6
  injection e6 with e6
  obtain ⟨A7, n7, c7, e7⟩ := slice_form Try.underlying30 g7
  injection e7 with e7
  obtain ⟨A8, n8, c8, e8⟩ := slice_form Try.underlying31 g8
  injection e8 with e8
  obtain ⟨b9, e9, _⟩ := DataW.trod_bool Try.underlying4 g9
  injection e9 with e9
  obtain ⟨b10, e10, _⟩ := DataW.trod_bool Try.underlying4 g10
  injection e10 with e10
  exact ⟨⟨x0, x1, x2, x3, x4, x5, A6, n6, c6, A7, n7, c7, A8, n8, c8, b9, b10⟩, by rw [e0, e1, e2, e3, e4, e5, e6, e7, e8, e9, e10], wf64 w0, wf64 w1⟩

theorem open_fields_arg {fuel : Nat} {b0 : Nat} {v : Value} {d : DataW H} {p : List MemPlace} (ht : Try.prog.underlying 22 = some (.slice 33)) (hv : Value.okWide Try.prog W .any b0 22 v)
    (h : DataW.trod enc Try.prog W base spare held fuel 22 v.cells.toList = some (d, p)) :
    ∃ A n c us, FldsArg W v A n c us := by
  obtain ⟨a0, len0, cap0, rfl⟩ := okWide_slice ht hv
  rcases open_slice Try.underlying22 h with ⟨hcs, _⟩ | ⟨a, len, cap, m, n, D, Pl, hcs, hb, hl, hm, hmm, hx, hi⟩
  · have hcs : Value.slice a0 len0 cap0 = .slice none 0 0 := by simpa [Value.cells] using hcs
    exact ⟨none, 0, 0, fun _ => ⟨0, 0, 0, 0, 0, 0, none, 0, 0, none, 0, 0, none, 0, 0, false, false⟩, hcs, ⟨fun j hj => absurd hj (by omega), fun j hj => absurd hj (by omega)⟩, Nat.le_refl _, by omega⟩
  · have hcs : Value.slice a0 len0 cap0 = .slice (some a) len cap := by simpa [Value.cells] using hcs
    have hC : Try.prog.cellsOf 33 = 11 := by kernel_rfl
    rw [hC] at hi
    have hlm : len ≤ m := by rw [hmm]; split <;> omega
    have key : ∀ i, ∃ v : FV, i < len → (∀ j, j < 11 → W.cell? (a.add (i * 11 + j)) = v.cells[j]?) ∧ (-9223372036854775808 ≤ v.kind ∧ v.kind ≤ 9223372036854775807) ∧ (-9223372036854775808 ≤ v.num ∧ v.num ≤ 9223372036854775807) := fun i => by
      by_cases hil : i < len
      · obtain ⟨cs', hc', ht'⟩ := hi i (by omega)
        obtain ⟨v, rfl, h2⟩ := open_field ht'
        obtain ⟨_, _, hat⟩ := World.cells?_some hc'
        refine ⟨v, fun _ => ⟨fun j hj => ?_, h2⟩⟩
        have := hat j hj
        rw [add_add] at this
        exact this
      · exact ⟨⟨0, 0, 0, 0, 0, 0, none, 0, 0, none, 0, 0, none, 0, 0, false, false⟩, fun h => absurd h hil⟩
    obtain ⟨f, hf⟩ := Classical.axiomOfChoice key
    obtain ⟨b, o, sp⟩ := a
    refine ⟨some ⟨b, o, sp⟩, len, cap, f, hcs, ⟨fun j hj => ?_, fun j hj => (hf j hj).2⟩, hl, by simpa [maxLen] using hm⟩
    have h0 := (hf j hj).1
    have hspot : sp = none := by
      have hz := (hf 0 (by omega)).1 0 (by omega)
      rw [Nat.zero_mul, Nat.add_zero] at hz
      simpa [Addr.add] using World.cell?_spot (hz.trans (rfl : _ = some (Value.int .i64 (f 0).kind)))
    subst hspot
    refine ⟨b, o, rfl, fun i hi => ?_⟩
    have := h0 i hi
    rw [addr_lit] at this
    rw [Nat.add_assoc]
    exact this
end
end Go.Proofs.Ytfeflmpdbejhjaa
