/-
  No cell of these rows narrows 'for every input' (looked for: loops, veiled, ifaces, maps, wideKeys, modest, calm, conditions, laid).
  DERIVED. THE GIVEN ROWS OF THIS SEAT. 3 by the template 'for every input the law returns true; each argument reads behind the call as it read before'; 0 by the template 'total and deterministic' (their statements: YthmchmpicncgdaaTotals.lean).
  GIVEN WITH THE SEED: the statements are not yours to turn. If you find one false, say at which input.
  Laid BY PROGRAM, IN A SANDBOX (cutbox-rows.mjs): the forced cells as the released guide's own fill.sh prints them over the translation 49e00b3cbeeac042… (all of the seat's roots in one cut). By AI agents, Wed Nov 11 2026. No macro, syntax, notation, axiom, sorry.
-/
import Derived.Test.YthmchmpicncgdaaChecked
import GoSem.Claim
import GoSem.ClaimJoined
import GoSem.ClaimMapViews
import Derived.JoinedTies
import Derived.KernelRfl
namespace Go.Proofs.Ythmchmpicncgdaa
/- THE CELL 'sum', in the pinned program and in every row, IS THE sha256 OF THE DUMP (.gsa) THAT YthmchmpicncgdaaProg.lean LOADS. Nothing in Lean hashes anything: it is a label: what it is worth is what the hold of that sum in a sandbox is worth. -/
noncomputable def Try.pinned : Pinned := { name := "ythmchmpicncgdaa", sum := "49e00b3cbeeac042e33e81c3a4e3f1449bd9a084b697c0db002af5e4b20da75d", checked := Try.checked }
namespace Rows
def none {H : Type} : Left H := { results := [], args := [] }

/-- 'standishlaw26.RegsPlays': WHATEVER THE INPUT: true; the input reads as it did. -/
def regsPlaysSpec : ChangeSpec := { name := "regsPlays", fn := fun _ => fun
  | [d] => { results := [.lit (.bool true)], args := [d] }
  | _ => none }
def regsPlaysRow : OpenClaim := { program := "ythmchmpicncgdaa", sum := "49e00b3cbeeac042e33e81c3a4e3f1449bd9a084b697c0db002af5e4b20da75d", func := "standish/standishlaw26.RegsPlays", spec := "regsPlays", unfollowed := true, recurses := true, apart := false }
def RegsPlaysSaid : Prop := regsPlaysRow.holds Try.pinned (OpenSpec.ofChange regsPlaysSpec)

/-- ITS FALSE NEIGHBOUR: 'it returns false'. Refute it at one input. -/
def regsPlaysWrong : ChangeSpec := { name := "regsPlays", fn := fun _ => fun
  | [d] => { results := [.lit (.bool false)], args := [d] }
  | _ => none }
def RegsPlaysWrongFalsely : Prop := regsPlaysRow.holds Try.pinned (OpenSpec.ofChange regsPlaysWrong)

/-- 'standishlaw26.RegsMore': WHATEVER THE INPUT: true; the input reads as it did. -/
def regsMoreSpec : ChangeSpec := { name := "regsMore", fn := fun _ => fun
  | [d1, d2, d3, d4, d5] => { results := [.lit (.bool true)], args := [d1, d2, d3, d4, d5] }
  | _ => none }
def regsMoreRow : OpenClaim := { program := "ythmchmpicncgdaa", sum := "49e00b3cbeeac042e33e81c3a4e3f1449bd9a084b697c0db002af5e4b20da75d", func := "standish/standishlaw26.RegsMore", spec := "regsMore", unfollowed := true, recurses := true, apart := false }
def RegsMoreSaid : Prop := regsMoreRow.holds Try.pinned (OpenSpec.ofChange regsMoreSpec)

/-- ITS FALSE NEIGHBOUR: 'it returns false'. Refute it at one input. -/
def regsMoreWrong : ChangeSpec := { name := "regsMore", fn := fun _ => fun
  | [d1, d2, d3, d4, d5] => { results := [.lit (.bool false)], args := [d1, d2, d3, d4, d5] }
  | _ => none }
def RegsMoreWrongFalsely : Prop := regsMoreRow.holds Try.pinned (OpenSpec.ofChange regsMoreWrong)

/-- 'standishlaw26.RegsBounds': WHATEVER THE INPUT: true; the input reads as it did. -/
def regsBoundsSpec : ChangeSpec := { name := "regsBounds", fn := fun _ => fun
  | [d1, d2] => { results := [.lit (.bool true)], args := [d1, d2] }
  | _ => none }
def regsBoundsRow : OpenClaim := { program := "ythmchmpicncgdaa", sum := "49e00b3cbeeac042e33e81c3a4e3f1449bd9a084b697c0db002af5e4b20da75d", func := "standish/standishlaw26.RegsBounds", spec := "regsBounds", unfollowed := true, recurses := true, apart := false }
def RegsBoundsSaid : Prop := regsBoundsRow.holds Try.pinned (OpenSpec.ofChange regsBoundsSpec)

/-- ITS FALSE NEIGHBOUR: 'it returns false'. Refute it at one input. -/
def regsBoundsWrong : ChangeSpec := { name := "regsBounds", fn := fun _ => fun
  | [d1, d2] => { results := [.lit (.bool false)], args := [d1, d2] }
  | _ => none }
def RegsBoundsWrongFalsely : Prop := regsBoundsRow.holds Try.pinned (OpenSpec.ofChange regsBoundsWrong)

/- THE SECOND FORM. 'bulk': how many values and letters a reading holds, each counted each time it is reached (what is shared counts as often as it is met; a slice's spare places count too). A statement '..UptoSaid' is the law's where the arguments, and the package variables that the reading takes, are together of bulk at most 1048576: NARROWER than '..Said'. Prove '..Said' where nothing that the law and all that it calls make is longer than what came in: it says more and counts as full. Else prove '..UptoSaid'. A law counts once. -/
mutual
def uptoBulk {H : Type} : DataW H → Nat
  | .lit (.string bytes) => bytes.length + 1
  | .lit _ => 1
  | .nil => 1
  | .ptr d => uptoBulk d + 1
  | .slice elems spare => uptoBulkAll elems + uptoBulkAll spare + 1
  | .agg parts => uptoBulkAll parts + 1
  | .iface _ d => uptoBulk d + 1
  | .map entries => uptoBulkEntries entries + 1
  | .held _ => 1
def uptoBulkAll {H : Type} : List (DataW H) → Nat
  | [] => 0
  | d :: r => uptoBulk d + uptoBulkAll r
def uptoBulkEntries {H : Type} : List (Lit × DataW H) → Nat
  | [] => 0
  | x :: r => uptoBulkEntry x + uptoBulkEntries r
def uptoBulkEntry {H : Type} : Lit × DataW H → Nat
  | (.string bytes, d) => bytes.length + uptoBulk d + 1
  | (_, d) => uptoBulk d + 1
 end
def uptoSmall : (H : Type) → List (DataW H) → Bool := fun _ ds => decide (uptoBulkAll ds ≤ 1048576)
def OpenSpec.upto (s : _root_.Go.ChangeSpec) : _root_.Go.OpenSpec := { _root_.Go.OpenSpec.ofChange s with cond := some uptoSmall }

/-- 'standishlaw26.RegsPlays', WHERE WHAT IT READS IS OF BULK AT MOST 1048576: true; the input reads as it did. -/
def regsPlaysUptoRow : OpenClaim := { program := "ythmchmpicncgdaa", sum := "49e00b3cbeeac042e33e81c3a4e3f1449bd9a084b697c0db002af5e4b20da75d", func := "standish/standishlaw26.RegsPlays", spec := "regsPlays", unfollowed := true, recurses := true, apart := false, narrowed := true }
def RegsPlaysUptoSaid : Prop := regsPlaysUptoRow.holds Try.pinned (OpenSpec.upto regsPlaysSpec)

/-- 'standishlaw26.RegsMore', WHERE WHAT IT READS IS OF BULK AT MOST 1048576: true; the input reads as it did. -/
def regsMoreUptoRow : OpenClaim := { program := "ythmchmpicncgdaa", sum := "49e00b3cbeeac042e33e81c3a4e3f1449bd9a084b697c0db002af5e4b20da75d", func := "standish/standishlaw26.RegsMore", spec := "regsMore", unfollowed := true, recurses := true, apart := false, narrowed := true }
def RegsMoreUptoSaid : Prop := regsMoreUptoRow.holds Try.pinned (OpenSpec.upto regsMoreSpec)

/-- 'standishlaw26.RegsBounds', WHERE WHAT IT READS IS OF BULK AT MOST 1048576: true; the input reads as it did. -/
def regsBoundsUptoRow : OpenClaim := { program := "ythmchmpicncgdaa", sum := "49e00b3cbeeac042e33e81c3a4e3f1449bd9a084b697c0db002af5e4b20da75d", func := "standish/standishlaw26.RegsBounds", spec := "regsBounds", unfollowed := true, recurses := true, apart := false, narrowed := true }
def RegsBoundsUptoSaid : Prop := regsBoundsUptoRow.holds Try.pinned (OpenSpec.upto regsBoundsSpec)

end Rows
end Go.Proofs.Ythmchmpicncgdaa
