/-
  No cell of these rows narrows 'for every input' (looked for: loops, veiled, ifaces, maps, wideKeys, modest, calm, conditions, laid).
  DERIVED. THE GIVEN ROWS OF THIS SEAT. 10 by the template 'for every input the law returns true; each argument reads behind the call as it read before'; 0 by the template 'total and deterministic' (their statements: YtjhnenljmmeflaaTotals.lean).
  GIVEN WITH THE SEED: the statements are not yours to turn. If you find one false, say at which input.
  Laid BY PROGRAM, IN A SANDBOX (cutbox-rows.mjs): the forced cells as the released guide's own fill.sh prints them over the translation 44cc25bf508a0f0c… (all of the seat's roots in one cut). By AI agents, Wed Nov 11 2026. No macro, syntax, notation, axiom, sorry.
-/
import Derived.Test.YtjhnenljmmeflaaChecked
import GoSem.Claim
import GoSem.ClaimJoined
import GoSem.ClaimMapViews
import Derived.JoinedTies
import Derived.KernelRfl
namespace Go.Proofs.Ytjhnenljmmeflaa
/- THE CELL 'sum', in the pinned program and in every row, IS THE sha256 OF THE DUMP (.gsa) THAT YtjhnenljmmeflaaProg.lean LOADS. Nothing in Lean hashes anything: it is a label: what it is worth is what the hold of that sum in a sandbox is worth. -/
noncomputable def Try.pinned : Pinned := { name := "ytjhnenljmmeflaa", sum := "44cc25bf508a0f0cc7fc9cc820412aa6be0d4ea4037577ebb70b41b91f725596", checked := Try.checked }
namespace Rows
def none {H : Type} : Left H := { results := [], args := [] }

/-- 'standishlaw28.UndoBack': WHATEVER THE INPUT: true; the input reads as it did. -/
def undoBackSpec : ChangeSpec := { name := "undoBack", fn := fun _ => fun
  | [d1, d2, d3, d4, d5] => { results := [.lit (.bool true)], args := [d1, d2, d3, d4, d5] }
  | _ => none }
def undoBackRow : OpenClaim := { program := "ytjhnenljmmeflaa", sum := "44cc25bf508a0f0cc7fc9cc820412aa6be0d4ea4037577ebb70b41b91f725596", func := "standish/standishlaw28.UndoBack", spec := "undoBack", unfollowed := true, recurses := true, apart := false }
def UndoBackSaid : Prop := undoBackRow.holds Try.pinned (OpenSpec.ofChange undoBackSpec)

/-- ITS FALSE NEIGHBOUR: 'it returns false'. Refute it at one input. -/
def undoBackWrong : ChangeSpec := { name := "undoBack", fn := fun _ => fun
  | [d1, d2, d3, d4, d5] => { results := [.lit (.bool false)], args := [d1, d2, d3, d4, d5] }
  | _ => none }
def UndoBackWrongFalsely : Prop := undoBackRow.holds Try.pinned (OpenSpec.ofChange undoBackWrong)

/-- 'standishlaw28.UndoFull': WHATEVER THE INPUT: true; the input reads as it did. -/
def undoFullSpec : ChangeSpec := { name := "undoFull", fn := fun _ => fun
  | [d] => { results := [.lit (.bool true)], args := [d] }
  | _ => none }
def undoFullRow : OpenClaim := { program := "ytjhnenljmmeflaa", sum := "44cc25bf508a0f0cc7fc9cc820412aa6be0d4ea4037577ebb70b41b91f725596", func := "standish/standishlaw28.UndoFull", spec := "undoFull", unfollowed := true, recurses := true, apart := false }
def UndoFullSaid : Prop := undoFullRow.holds Try.pinned (OpenSpec.ofChange undoFullSpec)

/-- ITS FALSE NEIGHBOUR: 'it returns false'. Refute it at one input. -/
def undoFullWrong : ChangeSpec := { name := "undoFull", fn := fun _ => fun
  | [d] => { results := [.lit (.bool false)], args := [d] }
  | _ => none }
def UndoFullWrongFalsely : Prop := undoFullRow.holds Try.pinned (OpenSpec.ofChange undoFullWrong)

/-- 'standishlaw28.UndoBranches': WHATEVER THE INPUT: true; the input reads as it did. -/
def undoBranchesSpec : ChangeSpec := { name := "undoBranches", fn := fun _ => fun
  | [d1, d2] => { results := [.lit (.bool true)], args := [d1, d2] }
  | _ => none }
def undoBranchesRow : OpenClaim := { program := "ytjhnenljmmeflaa", sum := "44cc25bf508a0f0cc7fc9cc820412aa6be0d4ea4037577ebb70b41b91f725596", func := "standish/standishlaw28.UndoBranches", spec := "undoBranches", unfollowed := true, recurses := true, apart := false }
def UndoBranchesSaid : Prop := undoBranchesRow.holds Try.pinned (OpenSpec.ofChange undoBranchesSpec)

/-- ITS FALSE NEIGHBOUR: 'it returns false'. Refute it at one input. -/
def undoBranchesWrong : ChangeSpec := { name := "undoBranches", fn := fun _ => fun
  | [d1, d2] => { results := [.lit (.bool false)], args := [d1, d2] }
  | _ => none }
def UndoBranchesWrongFalsely : Prop := undoBranchesRow.holds Try.pinned (OpenSpec.ofChange undoBranchesWrong)

/-- 'standishlaw28.UndoPlays': WHATEVER THE INPUT: true; the input reads as it did. -/
def undoPlaysSpec : ChangeSpec := { name := "undoPlays", fn := fun _ => fun
  | [d] => { results := [.lit (.bool true)], args := [d] }
  | _ => none }
def undoPlaysRow : OpenClaim := { program := "ytjhnenljmmeflaa", sum := "44cc25bf508a0f0cc7fc9cc820412aa6be0d4ea4037577ebb70b41b91f725596", func := "standish/standishlaw28.UndoPlays", spec := "undoPlays", unfollowed := true, recurses := true, apart := false }
def UndoPlaysSaid : Prop := undoPlaysRow.holds Try.pinned (OpenSpec.ofChange undoPlaysSpec)

/-- ITS FALSE NEIGHBOUR: 'it returns false'. Refute it at one input. -/
def undoPlaysWrong : ChangeSpec := { name := "undoPlays", fn := fun _ => fun
  | [d] => { results := [.lit (.bool false)], args := [d] }
  | _ => none }
def UndoPlaysWrongFalsely : Prop := undoPlaysRow.holds Try.pinned (OpenSpec.ofChange undoPlaysWrong)

/-- 'standishlaw5.ChangeTells': WHATEVER THE INPUT: true; the input reads as it did. -/
def changeTellsSpec : ChangeSpec := { name := "changeTells", fn := fun _ => fun
  | [d1, d2, d3, d4] => { results := [.lit (.bool true)], args := [d1, d2, d3, d4] }
  | _ => none }
def changeTellsRow : OpenClaim := { program := "ytjhnenljmmeflaa", sum := "44cc25bf508a0f0cc7fc9cc820412aa6be0d4ea4037577ebb70b41b91f725596", func := "standish/standishlaw5.ChangeTells", spec := "changeTells", unfollowed := true, recurses := true, apart := false }
def ChangeTellsSaid : Prop := changeTellsRow.holds Try.pinned (OpenSpec.ofChange changeTellsSpec)

/-- ITS FALSE NEIGHBOUR: 'it returns false'. Refute it at one input. -/
def changeTellsWrong : ChangeSpec := { name := "changeTells", fn := fun _ => fun
  | [d1, d2, d3, d4] => { results := [.lit (.bool false)], args := [d1, d2, d3, d4] }
  | _ => none }
def ChangeTellsWrongFalsely : Prop := changeTellsRow.holds Try.pinned (OpenSpec.ofChange changeTellsWrong)

/-- 'standishlaw5.ChangeFull': WHATEVER THE INPUT: true; the input reads as it did. -/
def changeFullSpec : ChangeSpec := { name := "changeFull", fn := fun _ => fun
  | [d1, d2, d3, d4] => { results := [.lit (.bool true)], args := [d1, d2, d3, d4] }
  | _ => none }
def changeFullRow : OpenClaim := { program := "ytjhnenljmmeflaa", sum := "44cc25bf508a0f0cc7fc9cc820412aa6be0d4ea4037577ebb70b41b91f725596", func := "standish/standishlaw5.ChangeFull", spec := "changeFull", unfollowed := true, recurses := true, apart := false }
def ChangeFullSaid : Prop := changeFullRow.holds Try.pinned (OpenSpec.ofChange changeFullSpec)

/-- ITS FALSE NEIGHBOUR: 'it returns false'. Refute it at one input. -/
def changeFullWrong : ChangeSpec := { name := "changeFull", fn := fun _ => fun
  | [d1, d2, d3, d4] => { results := [.lit (.bool false)], args := [d1, d2, d3, d4] }
  | _ => none }
def ChangeFullWrongFalsely : Prop := changeFullRow.holds Try.pinned (OpenSpec.ofChange changeFullWrong)

/-- 'standishlaw5.ChangeLeast': WHATEVER THE INPUT: true; the input reads as it did. -/
def changeLeastSpec : ChangeSpec := { name := "changeLeast", fn := fun _ => fun
  | [d1, d2] => { results := [.lit (.bool true)], args := [d1, d2] }
  | _ => none }
def changeLeastRow : OpenClaim := { program := "ytjhnenljmmeflaa", sum := "44cc25bf508a0f0cc7fc9cc820412aa6be0d4ea4037577ebb70b41b91f725596", func := "standish/standishlaw5.ChangeLeast", spec := "changeLeast", unfollowed := true, recurses := true, apart := false }
def ChangeLeastSaid : Prop := changeLeastRow.holds Try.pinned (OpenSpec.ofChange changeLeastSpec)

/-- ITS FALSE NEIGHBOUR: 'it returns false'. Refute it at one input. -/
def changeLeastWrong : ChangeSpec := { name := "changeLeast", fn := fun _ => fun
  | [d1, d2] => { results := [.lit (.bool false)], args := [d1, d2] }
  | _ => none }
def ChangeLeastWrongFalsely : Prop := changeLeastRow.holds Try.pinned (OpenSpec.ofChange changeLeastWrong)

/-- 'standishlaw5.ChangeRows': WHATEVER THE INPUT: true; the input reads as it did. -/
def changeRowsSpec : ChangeSpec := { name := "changeRows", fn := fun _ => fun
  | [d1, d2, d3] => { results := [.lit (.bool true)], args := [d1, d2, d3] }
  | _ => none }
def changeRowsRow : OpenClaim := { program := "ytjhnenljmmeflaa", sum := "44cc25bf508a0f0cc7fc9cc820412aa6be0d4ea4037577ebb70b41b91f725596", func := "standish/standishlaw5.ChangeRows", spec := "changeRows", unfollowed := true, recurses := true, apart := false }
def ChangeRowsSaid : Prop := changeRowsRow.holds Try.pinned (OpenSpec.ofChange changeRowsSpec)

/-- ITS FALSE NEIGHBOUR: 'it returns false'. Refute it at one input. -/
def changeRowsWrong : ChangeSpec := { name := "changeRows", fn := fun _ => fun
  | [d1, d2, d3] => { results := [.lit (.bool false)], args := [d1, d2, d3] }
  | _ => none }
def ChangeRowsWrongFalsely : Prop := changeRowsRow.holds Try.pinned (OpenSpec.ofChange changeRowsWrong)

/-- 'standishlaw5.ChangeBack': WHATEVER THE INPUT: true; the input reads as it did. -/
def changeBackSpec : ChangeSpec := { name := "changeBack", fn := fun _ => fun
  | [d1, d2, d3, d4] => { results := [.lit (.bool true)], args := [d1, d2, d3, d4] }
  | _ => none }
def changeBackRow : OpenClaim := { program := "ytjhnenljmmeflaa", sum := "44cc25bf508a0f0cc7fc9cc820412aa6be0d4ea4037577ebb70b41b91f725596", func := "standish/standishlaw5.ChangeBack", spec := "changeBack", unfollowed := true, recurses := true, apart := false }
def ChangeBackSaid : Prop := changeBackRow.holds Try.pinned (OpenSpec.ofChange changeBackSpec)

/-- ITS FALSE NEIGHBOUR: 'it returns false'. Refute it at one input. -/
def changeBackWrong : ChangeSpec := { name := "changeBack", fn := fun _ => fun
  | [d1, d2, d3, d4] => { results := [.lit (.bool false)], args := [d1, d2, d3, d4] }
  | _ => none }
def ChangeBackWrongFalsely : Prop := changeBackRow.holds Try.pinned (OpenSpec.ofChange changeBackWrong)

/-- 'standishlaw5.ChangeParts': WHATEVER THE INPUT: true; the input reads as it did. -/
def changePartsSpec : ChangeSpec := { name := "changeParts", fn := fun _ => fun
  | [d1, d2, d3, d4, d5] => { results := [.lit (.bool true)], args := [d1, d2, d3, d4, d5] }
  | _ => none }
def changePartsRow : OpenClaim := { program := "ytjhnenljmmeflaa", sum := "44cc25bf508a0f0cc7fc9cc820412aa6be0d4ea4037577ebb70b41b91f725596", func := "standish/standishlaw5.ChangeParts", spec := "changeParts", unfollowed := true, recurses := true, apart := false }
def ChangePartsSaid : Prop := changePartsRow.holds Try.pinned (OpenSpec.ofChange changePartsSpec)

/-- ITS FALSE NEIGHBOUR: 'it returns false'. Refute it at one input. -/
def changePartsWrong : ChangeSpec := { name := "changeParts", fn := fun _ => fun
  | [d1, d2, d3, d4, d5] => { results := [.lit (.bool false)], args := [d1, d2, d3, d4, d5] }
  | _ => none }
def ChangePartsWrongFalsely : Prop := changePartsRow.holds Try.pinned (OpenSpec.ofChange changePartsWrong)

/- THE SECOND FORM. 'bulk': how many values and letters a reading holds, each counted each time it is reached (what is shared counts as often as it is met; a slice's spare places count too). A statement '..UptoSaid' is the law's where the arguments, and the package variables that the reading takes, are together of bulk at most 1048576: NARROWER than '..Said'. Prove '..Said' where nothing that the law and all that it calls make is longer than what came in: it says more and counts as full. Else prove '..UptoSaid'. A law counts once. -/
mutual
def uptoBulk {H : Type} : DataW H → Nat
  | .lit (.string bytes) => bytes.length + 1
  | .lit _ => 1
  | .nil => 1
  | .ptr d => uptoBulk d + 1
  | .slice elems spare => uptoBulkAll elems + uptoBulkAll spare + 1
  | .agg parts => uptoBulkAll parts + 1
  | .iface _ d => uptoBulk d + 1
  | .map entries => uptoBulkEntries entries + 1
  | .held _ => 1
def uptoBulkAll {H : Type} : List (DataW H) → Nat
  | [] => 0
  | d :: r => uptoBulk d + uptoBulkAll r
def uptoBulkEntries {H : Type} : List (Lit × DataW H) → Nat
  | [] => 0
  | x :: r => uptoBulkEntry x + uptoBulkEntries r
def uptoBulkEntry {H : Type} : Lit × DataW H → Nat
  | (.string bytes, d) => bytes.length + uptoBulk d + 1
  | (_, d) => uptoBulk d + 1
 end
def uptoSmall : (H : Type) → List (DataW H) → Bool := fun _ ds => decide (uptoBulkAll ds ≤ 1048576)
def OpenSpec.upto (s : _root_.Go.ChangeSpec) : _root_.Go.OpenSpec := { _root_.Go.OpenSpec.ofChange s with cond := some uptoSmall }

/-- 'standishlaw28.UndoBack', WHERE WHAT IT READS IS OF BULK AT MOST 1048576: true; the input reads as it did. -/
def undoBackUptoRow : OpenClaim := { program := "ytjhnenljmmeflaa", sum := "44cc25bf508a0f0cc7fc9cc820412aa6be0d4ea4037577ebb70b41b91f725596", func := "standish/standishlaw28.UndoBack", spec := "undoBack", unfollowed := true, recurses := true, apart := false, narrowed := true }
def UndoBackUptoSaid : Prop := undoBackUptoRow.holds Try.pinned (OpenSpec.upto undoBackSpec)

/-- 'standishlaw28.UndoFull', WHERE WHAT IT READS IS OF BULK AT MOST 1048576: true; the input reads as it did. -/
def undoFullUptoRow : OpenClaim := { program := "ytjhnenljmmeflaa", sum := "44cc25bf508a0f0cc7fc9cc820412aa6be0d4ea4037577ebb70b41b91f725596", func := "standish/standishlaw28.UndoFull", spec := "undoFull", unfollowed := true, recurses := true, apart := false, narrowed := true }
def UndoFullUptoSaid : Prop := undoFullUptoRow.holds Try.pinned (OpenSpec.upto undoFullSpec)

/-- 'standishlaw28.UndoBranches', WHERE WHAT IT READS IS OF BULK AT MOST 1048576: true; the input reads as it did. -/
def undoBranchesUptoRow : OpenClaim := { program := "ytjhnenljmmeflaa", sum := "44cc25bf508a0f0cc7fc9cc820412aa6be0d4ea4037577ebb70b41b91f725596", func := "standish/standishlaw28.UndoBranches", spec := "undoBranches", unfollowed := true, recurses := true, apart := false, narrowed := true }
def UndoBranchesUptoSaid : Prop := undoBranchesUptoRow.holds Try.pinned (OpenSpec.upto undoBranchesSpec)

/-- 'standishlaw28.UndoPlays', WHERE WHAT IT READS IS OF BULK AT MOST 1048576: true; the input reads as it did. -/
def undoPlaysUptoRow : OpenClaim := { program := "ytjhnenljmmeflaa", sum := "44cc25bf508a0f0cc7fc9cc820412aa6be0d4ea4037577ebb70b41b91f725596", func := "standish/standishlaw28.UndoPlays", spec := "undoPlays", unfollowed := true, recurses := true, apart := false, narrowed := true }
def UndoPlaysUptoSaid : Prop := undoPlaysUptoRow.holds Try.pinned (OpenSpec.upto undoPlaysSpec)

/-- 'standishlaw5.ChangeTells', WHERE WHAT IT READS IS OF BULK AT MOST 1048576: true; the input reads as it did. -/
def changeTellsUptoRow : OpenClaim := { program := "ytjhnenljmmeflaa", sum := "44cc25bf508a0f0cc7fc9cc820412aa6be0d4ea4037577ebb70b41b91f725596", func := "standish/standishlaw5.ChangeTells", spec := "changeTells", unfollowed := true, recurses := true, apart := false, narrowed := true }
def ChangeTellsUptoSaid : Prop := changeTellsUptoRow.holds Try.pinned (OpenSpec.upto changeTellsSpec)

/-- 'standishlaw5.ChangeFull', WHERE WHAT IT READS IS OF BULK AT MOST 1048576: true; the input reads as it did. -/
def changeFullUptoRow : OpenClaim := { program := "ytjhnenljmmeflaa", sum := "44cc25bf508a0f0cc7fc9cc820412aa6be0d4ea4037577ebb70b41b91f725596", func := "standish/standishlaw5.ChangeFull", spec := "changeFull", unfollowed := true, recurses := true, apart := false, narrowed := true }
def ChangeFullUptoSaid : Prop := changeFullUptoRow.holds Try.pinned (OpenSpec.upto changeFullSpec)

/-- 'standishlaw5.ChangeLeast', WHERE WHAT IT READS IS OF BULK AT MOST 1048576: true; the input reads as it did. -/
def changeLeastUptoRow : OpenClaim := { program := "ytjhnenljmmeflaa", sum := "44cc25bf508a0f0cc7fc9cc820412aa6be0d4ea4037577ebb70b41b91f725596", func := "standish/standishlaw5.ChangeLeast", spec := "changeLeast", unfollowed := true, recurses := true, apart := false, narrowed := true }
def ChangeLeastUptoSaid : Prop := changeLeastUptoRow.holds Try.pinned (OpenSpec.upto changeLeastSpec)

/-- 'standishlaw5.ChangeRows', WHERE WHAT IT READS IS OF BULK AT MOST 1048576: true; the input reads as it did. -/
def changeRowsUptoRow : OpenClaim := { program := "ytjhnenljmmeflaa", sum := "44cc25bf508a0f0cc7fc9cc820412aa6be0d4ea4037577ebb70b41b91f725596", func := "standish/standishlaw5.ChangeRows", spec := "changeRows", unfollowed := true, recurses := true, apart := false, narrowed := true }
def ChangeRowsUptoSaid : Prop := changeRowsUptoRow.holds Try.pinned (OpenSpec.upto changeRowsSpec)

/-- 'standishlaw5.ChangeBack', WHERE WHAT IT READS IS OF BULK AT MOST 1048576: true; the input reads as it did. -/
def changeBackUptoRow : OpenClaim := { program := "ytjhnenljmmeflaa", sum := "44cc25bf508a0f0cc7fc9cc820412aa6be0d4ea4037577ebb70b41b91f725596", func := "standish/standishlaw5.ChangeBack", spec := "changeBack", unfollowed := true, recurses := true, apart := false, narrowed := true }
def ChangeBackUptoSaid : Prop := changeBackUptoRow.holds Try.pinned (OpenSpec.upto changeBackSpec)

/-- 'standishlaw5.ChangeParts', WHERE WHAT IT READS IS OF BULK AT MOST 1048576: true; the input reads as it did. -/
def changePartsUptoRow : OpenClaim := { program := "ytjhnenljmmeflaa", sum := "44cc25bf508a0f0cc7fc9cc820412aa6be0d4ea4037577ebb70b41b91f725596", func := "standish/standishlaw5.ChangeParts", spec := "changeParts", unfollowed := true, recurses := true, apart := false, narrowed := true }
def ChangePartsUptoSaid : Prop := changePartsUptoRow.holds Try.pinned (OpenSpec.upto changePartsSpec)

end Rows
end Go.Proofs.Ytjhnenljmmeflaa
