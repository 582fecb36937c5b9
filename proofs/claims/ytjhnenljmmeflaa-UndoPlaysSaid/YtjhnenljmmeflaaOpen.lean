/- What came in, opened: changes. -/
import Derived.Test.YtjhnenljmmeflaaOpenA
import Derived.Test.YtjhnenljmmeflaaChgs
import Derived.Lib.SmallJoins
namespace Go.Proofs.Ytjhnenljmmeflaa
open Go.ChangeShapes Go.WideShapes Go.ChangeAt Go.RowKit
set_option linter.unusedVariables false

section
variable {H : Type} {enc : TypeId × Value → H} {W : World} {base : Nat} {spare : Nat → Bool} {held : Bool}

/-- A change that came in. -/
theorem open_change {b0 : Nat} {v : Value} {d : DataW H} {p : List MemPlace} (hv : Value.okWide Try.prog W .any b0 31 v) (h : DataW.Trod enc Try.prog W base spare held 31 v d p)
    (hw : ∀ x ∈ d.weights Try.prog 31, x ≤ reachBytes) :
    ∃ (at_ : Int) (v1 v2 : Value) (C P : Option Addr) (n c m e' : Nat) (cut put : List Int), v = .agg #[.int .i64 at_, v1, v2] ∧ (-9223372036854775808 ≤ at_ ∧ at_ ≤ 9223372036854775807) ∧ RuneArg W v1 C n c cut ∧ RuneArg W v2 P m e' put := by
  obtain ⟨v0, v1, v2, y0, y1, y2, k, rfl, rfl, rfl, h0, h1, h2⟩ := Go.Joins.open_agg3 Try.underlying31 (by kernel_rfl) (by kernel_rfl) hv h
  have g0 : DataW.trod enc Try.prog W base spare held k 3 [v0] = some y0 := h0
  have g1 : DataW.trod enc Try.prog W base spare held k 22 [v1] = some y1 := h1
  have g2 : DataW.trod enc Try.prog W base spare held k 22 [v2] = some y2 := h2
  obtain ⟨at_, ha, _, hwa⟩ := DataW.trod_int Try.underlying3 g0
  simp only [List.cons.injEq, and_true] at ha
  subst ha
  obtain ⟨C, n, c, cut, hC⟩ := open_runes g1 fun x hx => hw x (by
    simp only [DataW.weights, Try.underlying31]
    simp only [List.map_cons, DataW.weightsEach, List.mem_append]
    exact .inr (.inl hx))
  obtain ⟨P, m, e', put, hP⟩ := open_runes g2 fun x hx => hw x (by
    simp only [DataW.weights, Try.underlying31]
    simp only [List.map_cons, DataW.weightsEach, List.mem_append]
    exact .inr (.inr (.inl hx)))
  exact ⟨at_, v1, v2, C, P, n, c, m, e', cut, put, rfl, wf_i64 hwa, hC, hP⟩
end
end Go.Proofs.Ytjhnenljmmeflaa
