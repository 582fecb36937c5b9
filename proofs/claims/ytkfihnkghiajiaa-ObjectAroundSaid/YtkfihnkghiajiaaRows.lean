/-
  No cell of these rows narrows 'for every input' (looked for: loops, veiled, ifaces, maps, wideKeys, modest, calm, conditions, laid).
  DERIVED. THE GIVEN ROWS OF THIS SEAT. 10 by the template 'for every input the law returns true; each argument reads behind the call as it read before'; 0 by the template 'total and deterministic' (their statements: YtkfihnkghiajiaaTotals.lean).
  GIVEN WITH THE SEED: the statements are not yours to turn. If you find one false, say at which input.
  Laid BY PROGRAM, IN A SANDBOX (cutbox-rows.mjs): the forced cells as the released guide's own fill.sh prints them over the translation 479b7039d1c75106… (all of the seat's roots in one cut). By AI agents, Wed Nov 11 2026. No macro, syntax, notation, axiom, sorry.
-/
import Derived.Test.YtkfihnkghiajiaaChecked
import GoSem.Claim
import GoSem.ClaimJoined
import GoSem.ClaimMapViews
import Derived.JoinedTies
import Derived.KernelRfl
namespace Go.Proofs.Ytkfihnkghiajiaa
/- THE CELL 'sum', in the pinned program and in every row, IS THE sha256 OF THE DUMP (.gsa) THAT YtkfihnkghiajiaaProg.lean LOADS. Nothing in Lean hashes anything: it is a label: what it is worth is what the hold of that sum in a sandbox is worth. -/
noncomputable def Try.pinned : Pinned := { name := "ytkfihnkghiajiaa", sum := "479b7039d1c75106bfd70bc36a02040d43efd71042a20632f416a77e104a376e", checked := Try.checked }
namespace Rows
def none {H : Type} : Left H := { results := [], args := [] }

/-- 'standishlaw1.SignsNumbers': WHATEVER THE INPUT: true; the input reads as it did. -/
def signsNumbersSpec : ChangeSpec := { name := "signsNumbers", fn := fun _ => fun
  | [] => { results := [.lit (.bool true)], args := [] }
  | _ => none }
def signsNumbersRow : OpenClaim := { program := "ytkfihnkghiajiaa", sum := "479b7039d1c75106bfd70bc36a02040d43efd71042a20632f416a77e104a376e", func := "standish/standishlaw1.SignsNumbers", spec := "signsNumbers", unfollowed := true, recurses := true, apart := false }
def SignsNumbersSaid : Prop := signsNumbersRow.holds Try.pinned (OpenSpec.ofChange signsNumbersSpec)

/-- ITS FALSE NEIGHBOUR: 'it returns false'. Refute it at one input. -/
def signsNumbersWrong : ChangeSpec := { name := "signsNumbers", fn := fun _ => fun
  | [] => { results := [.lit (.bool false)], args := [] }
  | _ => none }
def SignsNumbersWrongFalsely : Prop := signsNumbersRow.holds Try.pinned (OpenSpec.ofChange signsNumbersWrong)

/-- 'standishlaw1.SignsCases': WHATEVER THE INPUT: true; the input reads as it did. -/
def signsCasesSpec : ChangeSpec := { name := "signsCases", fn := fun _ => fun
  | [d] => { results := [.lit (.bool true)], args := [d] }
  | _ => none }
def signsCasesRow : OpenClaim := { program := "ytkfihnkghiajiaa", sum := "479b7039d1c75106bfd70bc36a02040d43efd71042a20632f416a77e104a376e", func := "standish/standishlaw1.SignsCases", spec := "signsCases", unfollowed := true, recurses := true, apart := false }
def SignsCasesSaid : Prop := signsCasesRow.holds Try.pinned (OpenSpec.ofChange signsCasesSpec)

/-- ITS FALSE NEIGHBOUR: 'it returns false'. Refute it at one input. -/
def signsCasesWrong : ChangeSpec := { name := "signsCases", fn := fun _ => fun
  | [d] => { results := [.lit (.bool false)], args := [d] }
  | _ => none }
def SignsCasesWrongFalsely : Prop := signsCasesRow.holds Try.pinned (OpenSpec.ofChange signsCasesWrong)

/-- 'standishlaw1.SignsTells': WHATEVER THE INPUT: true; the input reads as it did. -/
def signsTellsSpec : ChangeSpec := { name := "signsTells", fn := fun _ => fun
  | [d1, d2, d3] => { results := [.lit (.bool true)], args := [d1, d2, d3] }
  | _ => none }
def signsTellsRow : OpenClaim := { program := "ytkfihnkghiajiaa", sum := "479b7039d1c75106bfd70bc36a02040d43efd71042a20632f416a77e104a376e", func := "standish/standishlaw1.SignsTells", spec := "signsTells", unfollowed := true, recurses := true, apart := false }
def SignsTellsSaid : Prop := signsTellsRow.holds Try.pinned (OpenSpec.ofChange signsTellsSpec)

/-- ITS FALSE NEIGHBOUR: 'it returns false'. Refute it at one input. -/
def signsTellsWrong : ChangeSpec := { name := "signsTells", fn := fun _ => fun
  | [d1, d2, d3] => { results := [.lit (.bool false)], args := [d1, d2, d3] }
  | _ => none }
def SignsTellsWrongFalsely : Prop := signsTellsRow.holds Try.pinned (OpenSpec.ofChange signsTellsWrong)

/-- 'standishlaw1.SignsOrder': WHATEVER THE INPUT: true; the input reads as it did. -/
def signsOrderSpec : ChangeSpec := { name := "signsOrder", fn := fun _ => fun
  | [d1, d2, d3, d4] => { results := [.lit (.bool true)], args := [d1, d2, d3, d4] }
  | _ => none }
def signsOrderRow : OpenClaim := { program := "ytkfihnkghiajiaa", sum := "479b7039d1c75106bfd70bc36a02040d43efd71042a20632f416a77e104a376e", func := "standish/standishlaw1.SignsOrder", spec := "signsOrder", unfollowed := true, recurses := true, apart := false }
def SignsOrderSaid : Prop := signsOrderRow.holds Try.pinned (OpenSpec.ofChange signsOrderSpec)

/-- ITS FALSE NEIGHBOUR: 'it returns false'. Refute it at one input. -/
def signsOrderWrong : ChangeSpec := { name := "signsOrder", fn := fun _ => fun
  | [d1, d2, d3, d4] => { results := [.lit (.bool false)], args := [d1, d2, d3, d4] }
  | _ => none }
def SignsOrderWrongFalsely : Prop := signsOrderRow.holds Try.pinned (OpenSpec.ofChange signsOrderWrong)

/-- 'standishlaw1.SignsRuns': WHATEVER THE INPUT: true; the input reads as it did. -/
def signsRunsSpec : ChangeSpec := { name := "signsRuns", fn := fun _ => fun
  | [d1, d2] => { results := [.lit (.bool true)], args := [d1, d2] }
  | _ => none }
def signsRunsRow : OpenClaim := { program := "ytkfihnkghiajiaa", sum := "479b7039d1c75106bfd70bc36a02040d43efd71042a20632f416a77e104a376e", func := "standish/standishlaw1.SignsRuns", spec := "signsRuns", unfollowed := true, recurses := true, apart := false }
def SignsRunsSaid : Prop := signsRunsRow.holds Try.pinned (OpenSpec.ofChange signsRunsSpec)

/-- ITS FALSE NEIGHBOUR: 'it returns false'. Refute it at one input. -/
def signsRunsWrong : ChangeSpec := { name := "signsRuns", fn := fun _ => fun
  | [d1, d2] => { results := [.lit (.bool false)], args := [d1, d2] }
  | _ => none }
def SignsRunsWrongFalsely : Prop := signsRunsRow.holds Try.pinned (OpenSpec.ofChange signsRunsWrong)

/-- 'standishlaw1.SignsParts': WHATEVER THE INPUT: true; the input reads as it did. -/
def signsPartsSpec : ChangeSpec := { name := "signsParts", fn := fun _ => fun
  | [d1, d2] => { results := [.lit (.bool true)], args := [d1, d2] }
  | _ => none }
def signsPartsRow : OpenClaim := { program := "ytkfihnkghiajiaa", sum := "479b7039d1c75106bfd70bc36a02040d43efd71042a20632f416a77e104a376e", func := "standish/standishlaw1.SignsParts", spec := "signsParts", unfollowed := true, recurses := true, apart := false }
def SignsPartsSaid : Prop := signsPartsRow.holds Try.pinned (OpenSpec.ofChange signsPartsSpec)

/-- ITS FALSE NEIGHBOUR: 'it returns false'. Refute it at one input. -/
def signsPartsWrong : ChangeSpec := { name := "signsParts", fn := fun _ => fun
  | [d1, d2] => { results := [.lit (.bool false)], args := [d1, d2] }
  | _ => none }
def SignsPartsWrongFalsely : Prop := signsPartsRow.holds Try.pinned (OpenSpec.ofChange signsPartsWrong)

/-- 'standishlaw25.ObjectTells': WHATEVER THE INPUT: true; the input reads as it did. -/
def objectTellsSpec : ChangeSpec := { name := "objectTells", fn := fun _ => fun
  | [d1, d2, d3, d4] => { results := [.lit (.bool true)], args := [d1, d2, d3, d4] }
  | _ => none }
def objectTellsRow : OpenClaim := { program := "ytkfihnkghiajiaa", sum := "479b7039d1c75106bfd70bc36a02040d43efd71042a20632f416a77e104a376e", func := "standish/standishlaw25.ObjectTells", spec := "objectTells", apart := false }
def ObjectTellsSaid : Prop := objectTellsRow.holds Try.pinned (OpenSpec.ofChange objectTellsSpec)

/-- ITS FALSE NEIGHBOUR: 'it returns false'. Refute it at one input. -/
def objectTellsWrong : ChangeSpec := { name := "objectTells", fn := fun _ => fun
  | [d1, d2, d3, d4] => { results := [.lit (.bool false)], args := [d1, d2, d3, d4] }
  | _ => none }
def ObjectTellsWrongFalsely : Prop := objectTellsRow.holds Try.pinned (OpenSpec.ofChange objectTellsWrong)

/-- 'standishlaw25.ObjectSigns': WHATEVER THE INPUT: true; the input reads as it did. -/
def objectSignsSpec : ChangeSpec := { name := "objectSigns", fn := fun _ => fun
  | [d] => { results := [.lit (.bool true)], args := [d] }
  | _ => none }
def objectSignsRow : OpenClaim := { program := "ytkfihnkghiajiaa", sum := "479b7039d1c75106bfd70bc36a02040d43efd71042a20632f416a77e104a376e", func := "standish/standishlaw25.ObjectSigns", spec := "objectSigns", apart := false }
def ObjectSignsSaid : Prop := objectSignsRow.holds Try.pinned (OpenSpec.ofChange objectSignsSpec)

/-- ITS FALSE NEIGHBOUR: 'it returns false'. Refute it at one input. -/
def objectSignsWrong : ChangeSpec := { name := "objectSigns", fn := fun _ => fun
  | [d] => { results := [.lit (.bool false)], args := [d] }
  | _ => none }
def ObjectSignsWrongFalsely : Prop := objectSignsRow.holds Try.pinned (OpenSpec.ofChange objectSignsWrong)

/-- 'standishlaw25.ObjectAround': WHATEVER THE INPUT: true; the input reads as it did. -/
def objectAroundSpec : ChangeSpec := { name := "objectAround", fn := fun _ => fun
  | [d1, d2, d3] => { results := [.lit (.bool true)], args := [d1, d2, d3] }
  | _ => none }
def objectAroundRow : OpenClaim := { program := "ytkfihnkghiajiaa", sum := "479b7039d1c75106bfd70bc36a02040d43efd71042a20632f416a77e104a376e", func := "standish/standishlaw25.ObjectAround", spec := "objectAround", apart := false }
def ObjectAroundSaid : Prop := objectAroundRow.holds Try.pinned (OpenSpec.ofChange objectAroundSpec)

/-- ITS FALSE NEIGHBOUR: 'it returns false'. Refute it at one input. -/
def objectAroundWrong : ChangeSpec := { name := "objectAround", fn := fun _ => fun
  | [d1, d2, d3] => { results := [.lit (.bool false)], args := [d1, d2, d3] }
  | _ => none }
def ObjectAroundWrongFalsely : Prop := objectAroundRow.holds Try.pinned (OpenSpec.ofChange objectAroundWrong)

/-- 'standishlaw25.ObjectWords': WHATEVER THE INPUT: true; the input reads as it did. -/
def objectWordsSpec : ChangeSpec := { name := "objectWords", fn := fun _ => fun
  | [d1, d2] => { results := [.lit (.bool true)], args := [d1, d2] }
  | _ => none }
def objectWordsRow : OpenClaim := { program := "ytkfihnkghiajiaa", sum := "479b7039d1c75106bfd70bc36a02040d43efd71042a20632f416a77e104a376e", func := "standish/standishlaw25.ObjectWords", spec := "objectWords", apart := false }
def ObjectWordsSaid : Prop := objectWordsRow.holds Try.pinned (OpenSpec.ofChange objectWordsSpec)

/-- ITS FALSE NEIGHBOUR: 'it returns false'. Refute it at one input. -/
def objectWordsWrong : ChangeSpec := { name := "objectWords", fn := fun _ => fun
  | [d1, d2] => { results := [.lit (.bool false)], args := [d1, d2] }
  | _ => none }
def ObjectWordsWrongFalsely : Prop := objectWordsRow.holds Try.pinned (OpenSpec.ofChange objectWordsWrong)

/- THE SECOND FORM. 'bulk': how many values and letters a reading holds, each counted each time it is reached (what is shared counts as often as it is met; a slice's spare places count too). A statement '..UptoSaid' is the law's where the arguments, and the package variables that the reading takes, are together of bulk at most 1048576: NARROWER than '..Said'. Prove '..Said' where nothing that the law and all that it calls make is longer than what came in: it says more and counts as full. Else prove '..UptoSaid'. A law counts once. -/
mutual
def uptoBulk {H : Type} : DataW H → Nat
  | .lit (.string bytes) => bytes.length + 1
  | .lit _ => 1
  | .nil => 1
  | .ptr d => uptoBulk d + 1
  | .slice elems spare => uptoBulkAll elems + uptoBulkAll spare + 1
  | .agg parts => uptoBulkAll parts + 1
  | .iface _ d => uptoBulk d + 1
  | .map entries => uptoBulkEntries entries + 1
  | .held _ => 1
def uptoBulkAll {H : Type} : List (DataW H) → Nat
  | [] => 0
  | d :: r => uptoBulk d + uptoBulkAll r
def uptoBulkEntries {H : Type} : List (Lit × DataW H) → Nat
  | [] => 0
  | x :: r => uptoBulkEntry x + uptoBulkEntries r
def uptoBulkEntry {H : Type} : Lit × DataW H → Nat
  | (.string bytes, d) => bytes.length + uptoBulk d + 1
  | (_, d) => uptoBulk d + 1
 end
def uptoSmall : (H : Type) → List (DataW H) → Bool := fun _ ds => decide (uptoBulkAll ds ≤ 1048576)
def OpenSpec.upto (s : _root_.Go.ChangeSpec) : _root_.Go.OpenSpec := { _root_.Go.OpenSpec.ofChange s with cond := some uptoSmall }

/-- 'standishlaw1.SignsNumbers', WHERE WHAT IT READS IS OF BULK AT MOST 1048576: true; the input reads as it did. -/
def signsNumbersUptoRow : OpenClaim := { program := "ytkfihnkghiajiaa", sum := "479b7039d1c75106bfd70bc36a02040d43efd71042a20632f416a77e104a376e", func := "standish/standishlaw1.SignsNumbers", spec := "signsNumbers", unfollowed := true, recurses := true, apart := false, narrowed := true }
def SignsNumbersUptoSaid : Prop := signsNumbersUptoRow.holds Try.pinned (OpenSpec.upto signsNumbersSpec)

/-- 'standishlaw1.SignsCases', WHERE WHAT IT READS IS OF BULK AT MOST 1048576: true; the input reads as it did. -/
def signsCasesUptoRow : OpenClaim := { program := "ytkfihnkghiajiaa", sum := "479b7039d1c75106bfd70bc36a02040d43efd71042a20632f416a77e104a376e", func := "standish/standishlaw1.SignsCases", spec := "signsCases", unfollowed := true, recurses := true, apart := false, narrowed := true }
def SignsCasesUptoSaid : Prop := signsCasesUptoRow.holds Try.pinned (OpenSpec.upto signsCasesSpec)

/-- 'standishlaw1.SignsTells', WHERE WHAT IT READS IS OF BULK AT MOST 1048576: true; the input reads as it did. -/
def signsTellsUptoRow : OpenClaim := { program := "ytkfihnkghiajiaa", sum := "479b7039d1c75106bfd70bc36a02040d43efd71042a20632f416a77e104a376e", func := "standish/standishlaw1.SignsTells", spec := "signsTells", unfollowed := true, recurses := true, apart := false, narrowed := true }
def SignsTellsUptoSaid : Prop := signsTellsUptoRow.holds Try.pinned (OpenSpec.upto signsTellsSpec)

/-- 'standishlaw1.SignsOrder', WHERE WHAT IT READS IS OF BULK AT MOST 1048576: true; the input reads as it did. -/
def signsOrderUptoRow : OpenClaim := { program := "ytkfihnkghiajiaa", sum := "479b7039d1c75106bfd70bc36a02040d43efd71042a20632f416a77e104a376e", func := "standish/standishlaw1.SignsOrder", spec := "signsOrder", unfollowed := true, recurses := true, apart := false, narrowed := true }
def SignsOrderUptoSaid : Prop := signsOrderUptoRow.holds Try.pinned (OpenSpec.upto signsOrderSpec)

/-- 'standishlaw1.SignsRuns', WHERE WHAT IT READS IS OF BULK AT MOST 1048576: true; the input reads as it did. -/
def signsRunsUptoRow : OpenClaim := { program := "ytkfihnkghiajiaa", sum := "479b7039d1c75106bfd70bc36a02040d43efd71042a20632f416a77e104a376e", func := "standish/standishlaw1.SignsRuns", spec := "signsRuns", unfollowed := true, recurses := true, apart := false, narrowed := true }
def SignsRunsUptoSaid : Prop := signsRunsUptoRow.holds Try.pinned (OpenSpec.upto signsRunsSpec)

/-- 'standishlaw1.SignsParts', WHERE WHAT IT READS IS OF BULK AT MOST 1048576: true; the input reads as it did. -/
def signsPartsUptoRow : OpenClaim := { program := "ytkfihnkghiajiaa", sum := "479b7039d1c75106bfd70bc36a02040d43efd71042a20632f416a77e104a376e", func := "standish/standishlaw1.SignsParts", spec := "signsParts", unfollowed := true, recurses := true, apart := false, narrowed := true }
def SignsPartsUptoSaid : Prop := signsPartsUptoRow.holds Try.pinned (OpenSpec.upto signsPartsSpec)

/-- 'standishlaw25.ObjectTells', WHERE WHAT IT READS IS OF BULK AT MOST 1048576: true; the input reads as it did. -/
def objectTellsUptoRow : OpenClaim := { program := "ytkfihnkghiajiaa", sum := "479b7039d1c75106bfd70bc36a02040d43efd71042a20632f416a77e104a376e", func := "standish/standishlaw25.ObjectTells", spec := "objectTells", apart := false, narrowed := true }
def ObjectTellsUptoSaid : Prop := objectTellsUptoRow.holds Try.pinned (OpenSpec.upto objectTellsSpec)

/-- 'standishlaw25.ObjectSigns', WHERE WHAT IT READS IS OF BULK AT MOST 1048576: true; the input reads as it did. -/
def objectSignsUptoRow : OpenClaim := { program := "ytkfihnkghiajiaa", sum := "479b7039d1c75106bfd70bc36a02040d43efd71042a20632f416a77e104a376e", func := "standish/standishlaw25.ObjectSigns", spec := "objectSigns", apart := false, narrowed := true }
def ObjectSignsUptoSaid : Prop := objectSignsUptoRow.holds Try.pinned (OpenSpec.upto objectSignsSpec)

/-- 'standishlaw25.ObjectAround', WHERE WHAT IT READS IS OF BULK AT MOST 1048576: true; the input reads as it did. -/
def objectAroundUptoRow : OpenClaim := { program := "ytkfihnkghiajiaa", sum := "479b7039d1c75106bfd70bc36a02040d43efd71042a20632f416a77e104a376e", func := "standish/standishlaw25.ObjectAround", spec := "objectAround", apart := false, narrowed := true }
def ObjectAroundUptoSaid : Prop := objectAroundUptoRow.holds Try.pinned (OpenSpec.upto objectAroundSpec)

/-- 'standishlaw25.ObjectWords', WHERE WHAT IT READS IS OF BULK AT MOST 1048576: true; the input reads as it did. -/
def objectWordsUptoRow : OpenClaim := { program := "ytkfihnkghiajiaa", sum := "479b7039d1c75106bfd70bc36a02040d43efd71042a20632f416a77e104a376e", func := "standish/standishlaw25.ObjectWords", spec := "objectWords", apart := false, narrowed := true }
def ObjectWordsUptoSaid : Prop := objectWordsUptoRow.holds Try.pinned (OpenSpec.upto objectWordsSpec)

end Rows
end Go.Proofs.Ytkfihnkghiajiaa
