/- The contract of standishlaw28.step, whatever the deed. -/
import Derived.Test.YtjhnenljmmeflaaStepC
namespace Go.Proofs.Ytjhnenljmmeflaa
open Go.RowKit
set_option linter.unusedVariables false

theorem step_any (w0 w : World) (P Q : Nat → Prop) (t r : Nat) (gs : List Grp) (now : Nat) (u : DV) (h : Two w0 w P Q t r gs now gs now) (hs : gs.length ≤ 100) (hd : DOk w0 u) : Calls Try.prog 29 #[.pointer (some ⟨t, 0, none⟩), .pointer (some ⟨r, 0, none⟩), .agg #[.int .i64 u.how, .int .i64 u.at_, .slice u.L u.n u.c]] w (StepR w0 r (gs.length + 1)) := by
  by_cases z3 : bits .and .i64 u.how 7 = 3
  · exact step_undo w0 w P Q t r gs now u h hs z3
  by_cases z4 : bits .and .i64 u.how 7 = 4
  · exact step_redo w0 w P Q t r gs now u h hs z4
  by_cases z5 : bits .and .i64 u.how 7 = 5
  · exact step_pick w0 w P Q t r gs now u h hs z5
  by_cases z6 : bits .and .i64 u.how 7 = 6
  · exact step_copy w0 w P Q t r gs now u h hs z6
  exact step_add w0 w P Q t r gs now u h hs hd (beq_eq_false_iff_ne.2 z3) (beq_eq_false_iff_ne.2 z4) (beq_eq_false_iff_ne.2 z5) (beq_eq_false_iff_ne.2 z6)
end Go.Proofs.Ytjhnenljmmeflaa
