/-
  No cell of these rows narrows 'for every input' (looked for: loops, veiled, ifaces, maps, wideKeys, modest, calm, conditions, laid).
  DERIVED. THE GIVEN ROWS OF THIS SEAT. 8 by the template 'for every input the law returns true; each argument reads behind the call as it read before'; 0 by the template 'total and deterministic' (their statements: YtchcpeenpijekaaTotals.lean).
  GIVEN WITH THE SEED: the statements are not yours to turn. If you find one false, say at which input.
  Laid BY PROGRAM, IN A SANDBOX (cutbox-rows.mjs): the forced cells as the released guide's own fill.sh prints them over the translation 8eff191239682982… (all of the seat's roots in one cut). By AI agents, Wed Nov 11 2026. No macro, syntax, notation, axiom, sorry.
-/
import Derived.Test.YtchcpeenpijekaaChecked
import GoSem.Claim
import GoSem.ClaimJoined
import GoSem.ClaimMapViews
import Derived.JoinedTies
import Derived.KernelRfl
namespace Go.Proofs.Ytchcpeenpijekaa
/- THE CELL 'sum', in the pinned program and in every row, IS THE sha256 OF THE DUMP (.gsa) THAT YtchcpeenpijekaaProg.lean LOADS. Nothing in Lean hashes anything: it is a label: what it is worth is what the hold of that sum in a sandbox is worth. -/
noncomputable def Try.pinned : Pinned := { name := "ytchcpeenpijekaa", sum := "8eff191239682982886979c4b111279e199334c15cb517bc57a16955ef7a3837", checked := Try.checked }
namespace Rows
def none {H : Type} : Left H := { results := [], args := [] }

/-- 'standishlaw21.TriePlays': WHATEVER THE INPUT: true; the input reads as it did. -/
def triePlaysSpec : ChangeSpec := { name := "triePlays", fn := fun _ => fun
  | [d1, d2] => { results := [.lit (.bool true)], args := [d1, d2] }
  | _ => none }
def triePlaysRow : OpenClaim := { program := "ytchcpeenpijekaa", sum := "8eff191239682982886979c4b111279e199334c15cb517bc57a16955ef7a3837", func := "standish/standishlaw21.TriePlays", spec := "triePlays", unfollowed := true, recurses := true, apart := false }
def TriePlaysSaid : Prop := triePlaysRow.holds Try.pinned (OpenSpec.ofChange triePlaysSpec)

/-- ITS FALSE NEIGHBOUR: 'it returns false'. Refute it at one input. -/
def triePlaysWrong : ChangeSpec := { name := "triePlays", fn := fun _ => fun
  | [d1, d2] => { results := [.lit (.bool false)], args := [d1, d2] }
  | _ => none }
def TriePlaysWrongFalsely : Prop := triePlaysRow.holds Try.pinned (OpenSpec.ofChange triePlaysWrong)

/-- 'standishlaw21.TrieBack': WHATEVER THE INPUT: true; the input reads as it did. -/
def trieBackSpec : ChangeSpec := { name := "trieBack", fn := fun _ => fun
  | [d1, d2, d3] => { results := [.lit (.bool true)], args := [d1, d2, d3] }
  | _ => none }
def trieBackRow : OpenClaim := { program := "ytchcpeenpijekaa", sum := "8eff191239682982886979c4b111279e199334c15cb517bc57a16955ef7a3837", func := "standish/standishlaw21.TrieBack", spec := "trieBack", unfollowed := true, recurses := true, apart := false }
def TrieBackSaid : Prop := trieBackRow.holds Try.pinned (OpenSpec.ofChange trieBackSpec)

/-- ITS FALSE NEIGHBOUR: 'it returns false'. Refute it at one input. -/
def trieBackWrong : ChangeSpec := { name := "trieBack", fn := fun _ => fun
  | [d1, d2, d3] => { results := [.lit (.bool false)], args := [d1, d2, d3] }
  | _ => none }
def TrieBackWrongFalsely : Prop := trieBackRow.holds Try.pinned (OpenSpec.ofChange trieBackWrong)

/-- 'standishlaw21.TrieWith': WHATEVER THE INPUT: true; the input reads as it did. -/
def trieWithSpec : ChangeSpec := { name := "trieWith", fn := fun _ => fun
  | [d1, d2] => { results := [.lit (.bool true)], args := [d1, d2] }
  | _ => none }
def trieWithRow : OpenClaim := { program := "ytchcpeenpijekaa", sum := "8eff191239682982886979c4b111279e199334c15cb517bc57a16955ef7a3837", func := "standish/standishlaw21.TrieWith", spec := "trieWith", unfollowed := true, recurses := true, apart := false }
def TrieWithSaid : Prop := trieWithRow.holds Try.pinned (OpenSpec.ofChange trieWithSpec)

/-- ITS FALSE NEIGHBOUR: 'it returns false'. Refute it at one input. -/
def trieWithWrong : ChangeSpec := { name := "trieWith", fn := fun _ => fun
  | [d1, d2] => { results := [.lit (.bool false)], args := [d1, d2] }
  | _ => none }
def TrieWithWrongFalsely : Prop := trieWithRow.holds Try.pinned (OpenSpec.ofChange trieWithWrong)

/-- 'standishlaw21.TrieFull': WHATEVER THE INPUT: true; the input reads as it did. -/
def trieFullSpec : ChangeSpec := { name := "trieFull", fn := fun _ => fun
  | [d] => { results := [.lit (.bool true)], args := [d] }
  | _ => none }
def trieFullRow : OpenClaim := { program := "ytchcpeenpijekaa", sum := "8eff191239682982886979c4b111279e199334c15cb517bc57a16955ef7a3837", func := "standish/standishlaw21.TrieFull", spec := "trieFull", unfollowed := true, recurses := true, apart := false }
def TrieFullSaid : Prop := trieFullRow.holds Try.pinned (OpenSpec.ofChange trieFullSpec)

/-- ITS FALSE NEIGHBOUR: 'it returns false'. Refute it at one input. -/
def trieFullWrong : ChangeSpec := { name := "trieFull", fn := fun _ => fun
  | [d] => { results := [.lit (.bool false)], args := [d] }
  | _ => none }
def TrieFullWrongFalsely : Prop := trieFullRow.holds Try.pinned (OpenSpec.ofChange trieFullWrong)

/-- 'standishlaw22.WordsTells': WHATEVER THE INPUT: true; the input reads as it did. -/
def wordsTellsSpec : ChangeSpec := { name := "wordsTells", fn := fun _ => fun
  | [d1, d2, d3] => { results := [.lit (.bool true)], args := [d1, d2, d3] }
  | _ => none }
def wordsTellsRow : OpenClaim := { program := "ytchcpeenpijekaa", sum := "8eff191239682982886979c4b111279e199334c15cb517bc57a16955ef7a3837", func := "standish/standishlaw22.WordsTells", spec := "wordsTells", unfollowed := true, recurses := true, apart := false }
def WordsTellsSaid : Prop := wordsTellsRow.holds Try.pinned (OpenSpec.ofChange wordsTellsSpec)

/-- ITS FALSE NEIGHBOUR: 'it returns false'. Refute it at one input. -/
def wordsTellsWrong : ChangeSpec := { name := "wordsTells", fn := fun _ => fun
  | [d1, d2, d3] => { results := [.lit (.bool false)], args := [d1, d2, d3] }
  | _ => none }
def WordsTellsWrongFalsely : Prop := wordsTellsRow.holds Try.pinned (OpenSpec.ofChange wordsTellsWrong)

/-- 'standishlaw22.WordsMenu': WHATEVER THE INPUT: true; the input reads as it did. -/
def wordsMenuSpec : ChangeSpec := { name := "wordsMenu", fn := fun _ => fun
  | [d1, d2, d3] => { results := [.lit (.bool true)], args := [d1, d2, d3] }
  | _ => none }
def wordsMenuRow : OpenClaim := { program := "ytchcpeenpijekaa", sum := "8eff191239682982886979c4b111279e199334c15cb517bc57a16955ef7a3837", func := "standish/standishlaw22.WordsMenu", spec := "wordsMenu", unfollowed := true, recurses := true, apart := false }
def WordsMenuSaid : Prop := wordsMenuRow.holds Try.pinned (OpenSpec.ofChange wordsMenuSpec)

/-- ITS FALSE NEIGHBOUR: 'it returns false'. Refute it at one input. -/
def wordsMenuWrong : ChangeSpec := { name := "wordsMenu", fn := fun _ => fun
  | [d1, d2, d3] => { results := [.lit (.bool false)], args := [d1, d2, d3] }
  | _ => none }
def WordsMenuWrongFalsely : Prop := wordsMenuRow.holds Try.pinned (OpenSpec.ofChange wordsMenuWrong)

/-- 'standishlaw22.WordsCut': WHATEVER THE INPUT: true; the input reads as it did. -/
def wordsCutSpec : ChangeSpec := { name := "wordsCut", fn := fun _ => fun
  | [] => { results := [.lit (.bool true)], args := [] }
  | _ => none }
def wordsCutRow : OpenClaim := { program := "ytchcpeenpijekaa", sum := "8eff191239682982886979c4b111279e199334c15cb517bc57a16955ef7a3837", func := "standish/standishlaw22.WordsCut", spec := "wordsCut", unfollowed := true, recurses := true, apart := false }
def WordsCutSaid : Prop := wordsCutRow.holds Try.pinned (OpenSpec.ofChange wordsCutSpec)

/-- ITS FALSE NEIGHBOUR: 'it returns false'. Refute it at one input. -/
def wordsCutWrong : ChangeSpec := { name := "wordsCut", fn := fun _ => fun
  | [] => { results := [.lit (.bool false)], args := [] }
  | _ => none }
def WordsCutWrongFalsely : Prop := wordsCutRow.holds Try.pinned (OpenSpec.ofChange wordsCutWrong)

/-- 'standishlaw22.WordsSpans': WHATEVER THE INPUT: true; the input reads as it did. -/
def wordsSpansSpec : ChangeSpec := { name := "wordsSpans", fn := fun _ => fun
  | [d1, d2] => { results := [.lit (.bool true)], args := [d1, d2] }
  | _ => none }
def wordsSpansRow : OpenClaim := { program := "ytchcpeenpijekaa", sum := "8eff191239682982886979c4b111279e199334c15cb517bc57a16955ef7a3837", func := "standish/standishlaw22.WordsSpans", spec := "wordsSpans", unfollowed := true, recurses := true, apart := false }
def WordsSpansSaid : Prop := wordsSpansRow.holds Try.pinned (OpenSpec.ofChange wordsSpansSpec)

/-- ITS FALSE NEIGHBOUR: 'it returns false'. Refute it at one input. -/
def wordsSpansWrong : ChangeSpec := { name := "wordsSpans", fn := fun _ => fun
  | [d1, d2] => { results := [.lit (.bool false)], args := [d1, d2] }
  | _ => none }
def WordsSpansWrongFalsely : Prop := wordsSpansRow.holds Try.pinned (OpenSpec.ofChange wordsSpansWrong)

/- THE SECOND FORM. 'bulk': how many values and letters a reading holds, each counted each time it is reached (what is shared counts as often as it is met; a slice's spare places count too). A statement '..UptoSaid' is the law's where the arguments, and the package variables that the reading takes, are together of bulk at most 1048576: NARROWER than '..Said'. Prove '..Said' where nothing that the law and all that it calls make is longer than what came in: it says more and counts as full. Else prove '..UptoSaid'. A law counts once. -/
mutual
def uptoBulk {H : Type} : DataW H → Nat
  | .lit (.string bytes) => bytes.length + 1
  | .lit _ => 1
  | .nil => 1
  | .ptr d => uptoBulk d + 1
  | .slice elems spare => uptoBulkAll elems + uptoBulkAll spare + 1
  | .agg parts => uptoBulkAll parts + 1
  | .iface _ d => uptoBulk d + 1
  | .map entries => uptoBulkEntries entries + 1
  | .held _ => 1
def uptoBulkAll {H : Type} : List (DataW H) → Nat
  | [] => 0
  | d :: r => uptoBulk d + uptoBulkAll r
def uptoBulkEntries {H : Type} : List (Lit × DataW H) → Nat
  | [] => 0
  | x :: r => uptoBulkEntry x + uptoBulkEntries r
def uptoBulkEntry {H : Type} : Lit × DataW H → Nat
  | (.string bytes, d) => bytes.length + uptoBulk d + 1
  | (_, d) => uptoBulk d + 1
 end
def uptoSmall : (H : Type) → List (DataW H) → Bool := fun _ ds => decide (uptoBulkAll ds ≤ 1048576)
def OpenSpec.upto (s : _root_.Go.ChangeSpec) : _root_.Go.OpenSpec := { _root_.Go.OpenSpec.ofChange s with cond := some uptoSmall }

/-- 'standishlaw21.TriePlays', WHERE WHAT IT READS IS OF BULK AT MOST 1048576: true; the input reads as it did. -/
def triePlaysUptoRow : OpenClaim := { program := "ytchcpeenpijekaa", sum := "8eff191239682982886979c4b111279e199334c15cb517bc57a16955ef7a3837", func := "standish/standishlaw21.TriePlays", spec := "triePlays", unfollowed := true, recurses := true, apart := false, narrowed := true }
def TriePlaysUptoSaid : Prop := triePlaysUptoRow.holds Try.pinned (OpenSpec.upto triePlaysSpec)

/-- 'standishlaw21.TrieBack', WHERE WHAT IT READS IS OF BULK AT MOST 1048576: true; the input reads as it did. -/
def trieBackUptoRow : OpenClaim := { program := "ytchcpeenpijekaa", sum := "8eff191239682982886979c4b111279e199334c15cb517bc57a16955ef7a3837", func := "standish/standishlaw21.TrieBack", spec := "trieBack", unfollowed := true, recurses := true, apart := false, narrowed := true }
def TrieBackUptoSaid : Prop := trieBackUptoRow.holds Try.pinned (OpenSpec.upto trieBackSpec)

/-- 'standishlaw21.TrieWith', WHERE WHAT IT READS IS OF BULK AT MOST 1048576: true; the input reads as it did. -/
def trieWithUptoRow : OpenClaim := { program := "ytchcpeenpijekaa", sum := "8eff191239682982886979c4b111279e199334c15cb517bc57a16955ef7a3837", func := "standish/standishlaw21.TrieWith", spec := "trieWith", unfollowed := true, recurses := true, apart := false, narrowed := true }
def TrieWithUptoSaid : Prop := trieWithUptoRow.holds Try.pinned (OpenSpec.upto trieWithSpec)

/-- 'standishlaw21.TrieFull', WHERE WHAT IT READS IS OF BULK AT MOST 1048576: true; the input reads as it did. -/
def trieFullUptoRow : OpenClaim := { program := "ytchcpeenpijekaa", sum := "8eff191239682982886979c4b111279e199334c15cb517bc57a16955ef7a3837", func := "standish/standishlaw21.TrieFull", spec := "trieFull", unfollowed := true, recurses := true, apart := false, narrowed := true }
def TrieFullUptoSaid : Prop := trieFullUptoRow.holds Try.pinned (OpenSpec.upto trieFullSpec)

/-- 'standishlaw22.WordsTells', WHERE WHAT IT READS IS OF BULK AT MOST 1048576: true; the input reads as it did. -/
def wordsTellsUptoRow : OpenClaim := { program := "ytchcpeenpijekaa", sum := "8eff191239682982886979c4b111279e199334c15cb517bc57a16955ef7a3837", func := "standish/standishlaw22.WordsTells", spec := "wordsTells", unfollowed := true, recurses := true, apart := false, narrowed := true }
def WordsTellsUptoSaid : Prop := wordsTellsUptoRow.holds Try.pinned (OpenSpec.upto wordsTellsSpec)

/-- 'standishlaw22.WordsMenu', WHERE WHAT IT READS IS OF BULK AT MOST 1048576: true; the input reads as it did. -/
def wordsMenuUptoRow : OpenClaim := { program := "ytchcpeenpijekaa", sum := "8eff191239682982886979c4b111279e199334c15cb517bc57a16955ef7a3837", func := "standish/standishlaw22.WordsMenu", spec := "wordsMenu", unfollowed := true, recurses := true, apart := false, narrowed := true }
def WordsMenuUptoSaid : Prop := wordsMenuUptoRow.holds Try.pinned (OpenSpec.upto wordsMenuSpec)

/-- 'standishlaw22.WordsCut', WHERE WHAT IT READS IS OF BULK AT MOST 1048576: true; the input reads as it did. -/
def wordsCutUptoRow : OpenClaim := { program := "ytchcpeenpijekaa", sum := "8eff191239682982886979c4b111279e199334c15cb517bc57a16955ef7a3837", func := "standish/standishlaw22.WordsCut", spec := "wordsCut", unfollowed := true, recurses := true, apart := false, narrowed := true }
def WordsCutUptoSaid : Prop := wordsCutUptoRow.holds Try.pinned (OpenSpec.upto wordsCutSpec)

/-- 'standishlaw22.WordsSpans', WHERE WHAT IT READS IS OF BULK AT MOST 1048576: true; the input reads as it did. -/
def wordsSpansUptoRow : OpenClaim := { program := "ytchcpeenpijekaa", sum := "8eff191239682982886979c4b111279e199334c15cb517bc57a16955ef7a3837", func := "standish/standishlaw22.WordsSpans", spec := "wordsSpans", unfollowed := true, recurses := true, apart := false, narrowed := true }
def WordsSpansUptoSaid : Prop := wordsSpansUptoRow.holds Try.pinned (OpenSpec.upto wordsSpansSpec)

end Rows
end Go.Proofs.Ytchcpeenpijekaa
