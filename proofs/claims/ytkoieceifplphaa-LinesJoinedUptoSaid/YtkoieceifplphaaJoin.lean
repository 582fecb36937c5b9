/- The contract of the reference's Join. -/
import Derived.Test.YtkoieceifplphaaTextA
namespace Go.Proofs.Ytkoieceifplphaa
open Go.RowKit
set_option linter.unusedVariables false

set_option maxHeartbeats 400000 in
theorem join_any (A B : Option Addr) (n c m d : Nat) (a b : List Int) (w : World) (ha : Runes w A n a) (hb : Runes w B m b) (hn : n + m ≤ 35184372088832) :
    Calls Try.prog 32 #[.slice A n c, .slice B m d] w (NewR w (a ++ b)) := by
  go_enter Try.func32, Try.ntmps32
  go_wp2_with (first
    | (at_builtin
       refine wpList_app0 rfl (.const (.slice none 0 0)) (.tmp 5) rfl w.heap.size rfl rfl ha (by omega) (Nat.le_refl _) ?_
       intro A1 c1 w1 hown1 hb1 _ _)
    | (at_builtin
       refine wpList_app rfl (.tmp 6) (.tmp 7) rfl w.heap.size rfl hown1 rfl (hb.below hb1) (by omega) hb1.size ?_
       intro A2 c2 w2 hown2 hg2 hb2 _ _))
  go_ret
  exact ⟨A2, _, c2, rfl, hown2, hb1.trans hb2⟩

end Go.Proofs.Ytkoieceifplphaa
