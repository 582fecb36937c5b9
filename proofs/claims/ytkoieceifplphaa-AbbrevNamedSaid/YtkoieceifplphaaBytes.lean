/- Words for slices of bytes that came in. -/
import Derived.Test.YtkoieceifplphaaMem
namespace Go.Proofs.Ytkoieceifplphaa
open Go.RowKit
set_option linter.unusedVariables false

/-- The slice at A, n long, reads as the bytes l. -/
structure BytesR (w : World) (A : Option Addr) (n : Nat) (l : List Int) : Prop where
  len : l.length = n
  at_ : ∀ j, j < n → ∃ b o, A = some ⟨b, o, none⟩ ∧ w.cell? ⟨b, o + j, none⟩ = some (.int .u8 (nth l j))
  wf : ∀ x ∈ l, 0 ≤ x ∧ x ≤ 255
theorem BytesR.below {w w' : World} {A : Option Addr} {n : Nat} {l : List Int} (h : BytesR w A n l) (hb : Below w.heap.size w w') : BytesR w' A n l :=
  ⟨h.len, fun j hj => by
    obtain ⟨b, o, h1, hc⟩ := h.at_ j hj
    exact ⟨b, o, h1, (hb.cell (World.block_lt_of_cell? w _ hc)).trans hc⟩, h.wf⟩
end Go.Proofs.Ytkoieceifplphaa
