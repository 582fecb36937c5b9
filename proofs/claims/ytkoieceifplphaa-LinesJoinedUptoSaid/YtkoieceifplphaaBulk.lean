/- What the second form's bound says of an argument: a slice of runes that came in is no longer than its reading's bulk. -/
import Derived.Test.YtkoieceifplphaaOpenA
namespace Go.Proofs.Ytkoieceifplphaa
open Go.ChangeShapes Go.WideShapes Go.ChangeAt Go.RowKit
set_option linter.unusedVariables false

section
variable {H : Type} {enc : TypeId × Value → H} {W : World} {base : Nat} {spare : Nat → Bool} {held : Bool}
theorem bulk_lits (k : IntKind) : ∀ l : List Int, Rows.uptoBulkAll (H := H) (ChangeShapes.lits k l) = l.length
  | [] => rfl
  | x :: l => by
    show Rows.uptoBulk _ + Rows.uptoBulkAll (ChangeShapes.lits k l) = _
    rw [bulk_lits k l, List.length_cons]
    show 1 + l.length = _
    omega
theorem runes_bulk {b0 : Nat} {A : Option Addr} {n c : Nat} {d : DataW H} {p : List MemPlace} (hv : Value.okWide Try.prog W .any b0 23 (.slice A n c))
    (h : DataW.Trod enc Try.prog W base spare held 23 (.slice A n c) d p) : n ≤ Rows.uptoBulk d := by
  obtain ⟨fuel, g⟩ := h
  rcases open_ints Try.underlying23 Try.underlying21 (by kernel_rfl) g with ⟨hcs, _⟩ | ⟨x, l, cc, zs, hcs, _, hl, hm, hz, hy, hcell, hwz⟩
  · have hcs : Value.slice A n c = .slice none 0 0 := by simpa [Value.cells] using hcs
    injection hcs with _ h1 _
    omega
  · have hcs : Value.slice A n c = .slice (some x) l cc := by simpa [Value.cells] using hcs
    injection hcs with _ h1 _
    injection hy with hy _
    have hlz : l ≤ zs.length := by rw [hz]; split <;> omega
    rw [hy]
    show n ≤ Rows.uptoBulkAll (ChangeShapes.lits .i32 (zs.take l)) + Rows.uptoBulkAll (ChangeShapes.lits .i32 (zs.drop l)) + 1
    rw [bulk_lits, bulk_lits, List.length_take, List.length_drop]
    omega
end
end Go.Proofs.Ytkoieceifplphaa
