/-
  No cell of these rows narrows 'for every input' (looked for: loops, veiled, ifaces, maps, wideKeys, modest, calm, conditions, laid).
  DERIVED. THE GIVEN ROWS OF THIS SEAT. 9 by the template 'for every input the law returns true; each argument reads behind the call as it read before'; 0 by the template 'total and deterministic' (their statements: YtkoieceifplphaaTotals.lean).
  GIVEN WITH THE SEED: the statements are not yours to turn. If you find one false, say at which input.
  Laid BY PROGRAM, IN A SANDBOX (cutbox-rows.mjs): the forced cells as the released guide's own fill.sh prints them over the translation 87480f11a5319399… (all of the seat's roots in one cut). By AI agents, Wed Nov 11 2026. No macro, syntax, notation, axiom, sorry.
-/
import Derived.Test.YtkoieceifplphaaChecked
import GoSem.Claim
import GoSem.ClaimJoined
import GoSem.ClaimMapViews
import Derived.JoinedTies
import Derived.KernelRfl
namespace Go.Proofs.Ytkoieceifplphaa
/- THE CELL 'sum', in the pinned program and in every row, IS THE sha256 OF THE DUMP (.gsa) THAT YtkoieceifplphaaProg.lean LOADS. Nothing in Lean hashes anything: it is a label: what it is worth is what the hold of that sum in a sandbox is worth. -/
noncomputable def Try.pinned : Pinned := { name := "ytkoieceifplphaa", sum := "87480f11a531939963e96a222110a6f6138a50c00f59d63fd84cf90c17ad916e", checked := Try.checked }
namespace Rows
def none {H : Type} : Left H := { results := [], args := [] }

/-- 'standishlaw23.AbbrevTells': WHATEVER THE INPUT: true; the input reads as it did. -/
def abbrevTellsSpec : ChangeSpec := { name := "abbrevTells", fn := fun _ => fun
  | [d1, d2, d3, d4] => { results := [.lit (.bool true)], args := [d1, d2, d3, d4] }
  | _ => none }
def abbrevTellsRow : OpenClaim := { program := "ytkoieceifplphaa", sum := "87480f11a531939963e96a222110a6f6138a50c00f59d63fd84cf90c17ad916e", func := "standish/standishlaw23.AbbrevTells", spec := "abbrevTells", unfollowed := true, recurses := true, apart := false }
def AbbrevTellsSaid : Prop := abbrevTellsRow.holds Try.pinned (OpenSpec.ofChange abbrevTellsSpec)

/-- ITS FALSE NEIGHBOUR: 'it returns false'. Refute it at one input. -/
def abbrevTellsWrong : ChangeSpec := { name := "abbrevTells", fn := fun _ => fun
  | [d1, d2, d3, d4] => { results := [.lit (.bool false)], args := [d1, d2, d3, d4] }
  | _ => none }
def AbbrevTellsWrongFalsely : Prop := abbrevTellsRow.holds Try.pinned (OpenSpec.ofChange abbrevTellsWrong)

/-- 'standishlaw23.AbbrevBounds': WHATEVER THE INPUT: true; the input reads as it did. -/
def abbrevBoundsSpec : ChangeSpec := { name := "abbrevBounds", fn := fun _ => fun
  | [d1, d2] => { results := [.lit (.bool true)], args := [d1, d2] }
  | _ => none }
def abbrevBoundsRow : OpenClaim := { program := "ytkoieceifplphaa", sum := "87480f11a531939963e96a222110a6f6138a50c00f59d63fd84cf90c17ad916e", func := "standish/standishlaw23.AbbrevBounds", spec := "abbrevBounds", unfollowed := true, recurses := true, apart := false }
def AbbrevBoundsSaid : Prop := abbrevBoundsRow.holds Try.pinned (OpenSpec.ofChange abbrevBoundsSpec)

/-- ITS FALSE NEIGHBOUR: 'it returns false'. Refute it at one input. -/
def abbrevBoundsWrong : ChangeSpec := { name := "abbrevBounds", fn := fun _ => fun
  | [d1, d2] => { results := [.lit (.bool false)], args := [d1, d2] }
  | _ => none }
def AbbrevBoundsWrongFalsely : Prop := abbrevBoundsRow.holds Try.pinned (OpenSpec.ofChange abbrevBoundsWrong)

/-- 'standishlaw23.AbbrevLongest': WHATEVER THE INPUT: true; the input reads as it did. -/
def abbrevLongestSpec : ChangeSpec := { name := "abbrevLongest", fn := fun _ => fun
  | [d1, d2] => { results := [.lit (.bool true)], args := [d1, d2] }
  | _ => none }
def abbrevLongestRow : OpenClaim := { program := "ytkoieceifplphaa", sum := "87480f11a531939963e96a222110a6f6138a50c00f59d63fd84cf90c17ad916e", func := "standish/standishlaw23.AbbrevLongest", spec := "abbrevLongest", unfollowed := true, recurses := true, apart := false }
def AbbrevLongestSaid : Prop := abbrevLongestRow.holds Try.pinned (OpenSpec.ofChange abbrevLongestSpec)

/-- ITS FALSE NEIGHBOUR: 'it returns false'. Refute it at one input. -/
def abbrevLongestWrong : ChangeSpec := { name := "abbrevLongest", fn := fun _ => fun
  | [d1, d2] => { results := [.lit (.bool false)], args := [d1, d2] }
  | _ => none }
def AbbrevLongestWrongFalsely : Prop := abbrevLongestRow.holds Try.pinned (OpenSpec.ofChange abbrevLongestWrong)

/-- 'standishlaw23.AbbrevNamed': WHATEVER THE INPUT: true; the input reads as it did. -/
def abbrevNamedSpec : ChangeSpec := { name := "abbrevNamed", fn := fun _ => fun
  | [d1, d2, d3] => { results := [.lit (.bool true)], args := [d1, d2, d3] }
  | _ => none }
def abbrevNamedRow : OpenClaim := { program := "ytkoieceifplphaa", sum := "87480f11a531939963e96a222110a6f6138a50c00f59d63fd84cf90c17ad916e", func := "standish/standishlaw23.AbbrevNamed", spec := "abbrevNamed", unfollowed := true, recurses := true, apart := false }
def AbbrevNamedSaid : Prop := abbrevNamedRow.holds Try.pinned (OpenSpec.ofChange abbrevNamedSpec)

/-- ITS FALSE NEIGHBOUR: 'it returns false'. Refute it at one input. -/
def abbrevNamedWrong : ChangeSpec := { name := "abbrevNamed", fn := fun _ => fun
  | [d1, d2, d3] => { results := [.lit (.bool false)], args := [d1, d2, d3] }
  | _ => none }
def AbbrevNamedWrongFalsely : Prop := abbrevNamedRow.holds Try.pinned (OpenSpec.ofChange abbrevNamedWrong)

/-- 'standishlaw4.LinesTells': WHATEVER THE INPUT: true; the input reads as it did. -/
def linesTellsSpec : ChangeSpec := { name := "linesTells", fn := fun _ => fun
  | [d1, d2, d3, d4] => { results := [.lit (.bool true)], args := [d1, d2, d3, d4] }
  | _ => none }
def linesTellsRow : OpenClaim := { program := "ytkoieceifplphaa", sum := "87480f11a531939963e96a222110a6f6138a50c00f59d63fd84cf90c17ad916e", func := "standish/standishlaw4.LinesTells", spec := "linesTells", apart := false }
def LinesTellsSaid : Prop := linesTellsRow.holds Try.pinned (OpenSpec.ofChange linesTellsSpec)

/-- ITS FALSE NEIGHBOUR: 'it returns false'. Refute it at one input. -/
def linesTellsWrong : ChangeSpec := { name := "linesTells", fn := fun _ => fun
  | [d1, d2, d3, d4] => { results := [.lit (.bool false)], args := [d1, d2, d3, d4] }
  | _ => none }
def LinesTellsWrongFalsely : Prop := linesTellsRow.holds Try.pinned (OpenSpec.ofChange linesTellsWrong)

/-- 'standishlaw4.LinesMade': WHATEVER THE INPUT: true; the input reads as it did. -/
def linesMadeSpec : ChangeSpec := { name := "linesMade", fn := fun _ => fun
  | [d] => { results := [.lit (.bool true)], args := [d] }
  | _ => none }
def linesMadeRow : OpenClaim := { program := "ytkoieceifplphaa", sum := "87480f11a531939963e96a222110a6f6138a50c00f59d63fd84cf90c17ad916e", func := "standish/standishlaw4.LinesMade", spec := "linesMade", apart := false }
def LinesMadeSaid : Prop := linesMadeRow.holds Try.pinned (OpenSpec.ofChange linesMadeSpec)

/-- ITS FALSE NEIGHBOUR: 'it returns false'. Refute it at one input. -/
def linesMadeWrong : ChangeSpec := { name := "linesMade", fn := fun _ => fun
  | [d] => { results := [.lit (.bool false)], args := [d] }
  | _ => none }
def LinesMadeWrongFalsely : Prop := linesMadeRow.holds Try.pinned (OpenSpec.ofChange linesMadeWrong)

/-- 'standishlaw4.LinesBack': WHATEVER THE INPUT: true; the input reads as it did. -/
def linesBackSpec : ChangeSpec := { name := "linesBack", fn := fun _ => fun
  | [d1, d2] => { results := [.lit (.bool true)], args := [d1, d2] }
  | _ => none }
def linesBackRow : OpenClaim := { program := "ytkoieceifplphaa", sum := "87480f11a531939963e96a222110a6f6138a50c00f59d63fd84cf90c17ad916e", func := "standish/standishlaw4.LinesBack", spec := "linesBack", apart := false }
def LinesBackSaid : Prop := linesBackRow.holds Try.pinned (OpenSpec.ofChange linesBackSpec)

/-- ITS FALSE NEIGHBOUR: 'it returns false'. Refute it at one input. -/
def linesBackWrong : ChangeSpec := { name := "linesBack", fn := fun _ => fun
  | [d1, d2] => { results := [.lit (.bool false)], args := [d1, d2] }
  | _ => none }
def LinesBackWrongFalsely : Prop := linesBackRow.holds Try.pinned (OpenSpec.ofChange linesBackWrong)

/-- 'standishlaw4.LinesParts': WHATEVER THE INPUT: true; the input reads as it did. -/
def linesPartsSpec : ChangeSpec := { name := "linesParts", fn := fun _ => fun
  | [d] => { results := [.lit (.bool true)], args := [d] }
  | _ => none }
def linesPartsRow : OpenClaim := { program := "ytkoieceifplphaa", sum := "87480f11a531939963e96a222110a6f6138a50c00f59d63fd84cf90c17ad916e", func := "standish/standishlaw4.LinesParts", spec := "linesParts", apart := false }
def LinesPartsSaid : Prop := linesPartsRow.holds Try.pinned (OpenSpec.ofChange linesPartsSpec)

/-- ITS FALSE NEIGHBOUR: 'it returns false'. Refute it at one input. -/
def linesPartsWrong : ChangeSpec := { name := "linesParts", fn := fun _ => fun
  | [d] => { results := [.lit (.bool false)], args := [d] }
  | _ => none }
def LinesPartsWrongFalsely : Prop := linesPartsRow.holds Try.pinned (OpenSpec.ofChange linesPartsWrong)

/-- 'standishlaw4.LinesJoined': WHATEVER THE INPUT: true; the input reads as it did. -/
def linesJoinedSpec : ChangeSpec := { name := "linesJoined", fn := fun _ => fun
  | [d1, d2, d3] => { results := [.lit (.bool true)], args := [d1, d2, d3] }
  | _ => none }
def linesJoinedRow : OpenClaim := { program := "ytkoieceifplphaa", sum := "87480f11a531939963e96a222110a6f6138a50c00f59d63fd84cf90c17ad916e", func := "standish/standishlaw4.LinesJoined", spec := "linesJoined", apart := false }
def LinesJoinedSaid : Prop := linesJoinedRow.holds Try.pinned (OpenSpec.ofChange linesJoinedSpec)

/-- ITS FALSE NEIGHBOUR: 'it returns false'. Refute it at one input. -/
def linesJoinedWrong : ChangeSpec := { name := "linesJoined", fn := fun _ => fun
  | [d1, d2, d3] => { results := [.lit (.bool false)], args := [d1, d2, d3] }
  | _ => none }
def LinesJoinedWrongFalsely : Prop := linesJoinedRow.holds Try.pinned (OpenSpec.ofChange linesJoinedWrong)

/- THE SECOND FORM. 'bulk': how many values and letters a reading holds, each counted each time it is reached (what is shared counts as often as it is met; a slice's spare places count too). A statement '..UptoSaid' is the law's where the arguments, and the package variables that the reading takes, are together of bulk at most 1048576: NARROWER than '..Said'. Prove '..Said' where nothing that the law and all that it calls make is longer than what came in: it says more and counts as full. Else prove '..UptoSaid'. A law counts once. -/
mutual
def uptoBulk {H : Type} : DataW H → Nat
  | .lit (.string bytes) => bytes.length + 1
  | .lit _ => 1
  | .nil => 1
  | .ptr d => uptoBulk d + 1
  | .slice elems spare => uptoBulkAll elems + uptoBulkAll spare + 1
  | .agg parts => uptoBulkAll parts + 1
  | .iface _ d => uptoBulk d + 1
  | .map entries => uptoBulkEntries entries + 1
  | .held _ => 1
def uptoBulkAll {H : Type} : List (DataW H) → Nat
  | [] => 0
  | d :: r => uptoBulk d + uptoBulkAll r
def uptoBulkEntries {H : Type} : List (Lit × DataW H) → Nat
  | [] => 0
  | x :: r => uptoBulkEntry x + uptoBulkEntries r
def uptoBulkEntry {H : Type} : Lit × DataW H → Nat
  | (.string bytes, d) => bytes.length + uptoBulk d + 1
  | (_, d) => uptoBulk d + 1
 end
def uptoSmall : (H : Type) → List (DataW H) → Bool := fun _ ds => decide (uptoBulkAll ds ≤ 1048576)
def OpenSpec.upto (s : _root_.Go.ChangeSpec) : _root_.Go.OpenSpec := { _root_.Go.OpenSpec.ofChange s with cond := some uptoSmall }

/-- 'standishlaw23.AbbrevTells', WHERE WHAT IT READS IS OF BULK AT MOST 1048576: true; the input reads as it did. -/
def abbrevTellsUptoRow : OpenClaim := { program := "ytkoieceifplphaa", sum := "87480f11a531939963e96a222110a6f6138a50c00f59d63fd84cf90c17ad916e", func := "standish/standishlaw23.AbbrevTells", spec := "abbrevTells", unfollowed := true, recurses := true, apart := false, narrowed := true }
def AbbrevTellsUptoSaid : Prop := abbrevTellsUptoRow.holds Try.pinned (OpenSpec.upto abbrevTellsSpec)

/-- 'standishlaw23.AbbrevBounds', WHERE WHAT IT READS IS OF BULK AT MOST 1048576: true; the input reads as it did. -/
def abbrevBoundsUptoRow : OpenClaim := { program := "ytkoieceifplphaa", sum := "87480f11a531939963e96a222110a6f6138a50c00f59d63fd84cf90c17ad916e", func := "standish/standishlaw23.AbbrevBounds", spec := "abbrevBounds", unfollowed := true, recurses := true, apart := false, narrowed := true }
def AbbrevBoundsUptoSaid : Prop := abbrevBoundsUptoRow.holds Try.pinned (OpenSpec.upto abbrevBoundsSpec)

/-- 'standishlaw23.AbbrevLongest', WHERE WHAT IT READS IS OF BULK AT MOST 1048576: true; the input reads as it did. -/
def abbrevLongestUptoRow : OpenClaim := { program := "ytkoieceifplphaa", sum := "87480f11a531939963e96a222110a6f6138a50c00f59d63fd84cf90c17ad916e", func := "standish/standishlaw23.AbbrevLongest", spec := "abbrevLongest", unfollowed := true, recurses := true, apart := false, narrowed := true }
def AbbrevLongestUptoSaid : Prop := abbrevLongestUptoRow.holds Try.pinned (OpenSpec.upto abbrevLongestSpec)

/-- 'standishlaw23.AbbrevNamed', WHERE WHAT IT READS IS OF BULK AT MOST 1048576: true; the input reads as it did. -/
def abbrevNamedUptoRow : OpenClaim := { program := "ytkoieceifplphaa", sum := "87480f11a531939963e96a222110a6f6138a50c00f59d63fd84cf90c17ad916e", func := "standish/standishlaw23.AbbrevNamed", spec := "abbrevNamed", unfollowed := true, recurses := true, apart := false, narrowed := true }
def AbbrevNamedUptoSaid : Prop := abbrevNamedUptoRow.holds Try.pinned (OpenSpec.upto abbrevNamedSpec)

/-- 'standishlaw4.LinesTells', WHERE WHAT IT READS IS OF BULK AT MOST 1048576: true; the input reads as it did. -/
def linesTellsUptoRow : OpenClaim := { program := "ytkoieceifplphaa", sum := "87480f11a531939963e96a222110a6f6138a50c00f59d63fd84cf90c17ad916e", func := "standish/standishlaw4.LinesTells", spec := "linesTells", apart := false, narrowed := true }
def LinesTellsUptoSaid : Prop := linesTellsUptoRow.holds Try.pinned (OpenSpec.upto linesTellsSpec)

/-- 'standishlaw4.LinesMade', WHERE WHAT IT READS IS OF BULK AT MOST 1048576: true; the input reads as it did. -/
def linesMadeUptoRow : OpenClaim := { program := "ytkoieceifplphaa", sum := "87480f11a531939963e96a222110a6f6138a50c00f59d63fd84cf90c17ad916e", func := "standish/standishlaw4.LinesMade", spec := "linesMade", apart := false, narrowed := true }
def LinesMadeUptoSaid : Prop := linesMadeUptoRow.holds Try.pinned (OpenSpec.upto linesMadeSpec)

/-- 'standishlaw4.LinesBack', WHERE WHAT IT READS IS OF BULK AT MOST 1048576: true; the input reads as it did. -/
def linesBackUptoRow : OpenClaim := { program := "ytkoieceifplphaa", sum := "87480f11a531939963e96a222110a6f6138a50c00f59d63fd84cf90c17ad916e", func := "standish/standishlaw4.LinesBack", spec := "linesBack", apart := false, narrowed := true }
def LinesBackUptoSaid : Prop := linesBackUptoRow.holds Try.pinned (OpenSpec.upto linesBackSpec)

/-- 'standishlaw4.LinesParts', WHERE WHAT IT READS IS OF BULK AT MOST 1048576: true; the input reads as it did. -/
def linesPartsUptoRow : OpenClaim := { program := "ytkoieceifplphaa", sum := "87480f11a531939963e96a222110a6f6138a50c00f59d63fd84cf90c17ad916e", func := "standish/standishlaw4.LinesParts", spec := "linesParts", apart := false, narrowed := true }
def LinesPartsUptoSaid : Prop := linesPartsUptoRow.holds Try.pinned (OpenSpec.upto linesPartsSpec)

/-- 'standishlaw4.LinesJoined', WHERE WHAT IT READS IS OF BULK AT MOST 1048576: true; the input reads as it did. -/
def linesJoinedUptoRow : OpenClaim := { program := "ytkoieceifplphaa", sum := "87480f11a531939963e96a222110a6f6138a50c00f59d63fd84cf90c17ad916e", func := "standish/standishlaw4.LinesJoined", spec := "linesJoined", apart := false, narrowed := true }
def LinesJoinedUptoSaid : Prop := linesJoinedUptoRow.holds Try.pinned (OpenSpec.upto linesJoinedSpec)

end Rows
end Go.Proofs.Ytkoieceifplphaa
