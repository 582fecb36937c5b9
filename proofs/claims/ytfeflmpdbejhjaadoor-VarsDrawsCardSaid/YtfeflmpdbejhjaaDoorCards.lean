/-
  DERIVED. GIVEN WITH THE SEED: THE CARDS: each row of YtfeflmpdbejhjaaDoorRows.lean that lists a variable, with what it lists TIED to the program's text (the seventh form; the later family's looks); each row that meets fmt, with fmt's text TOLD by the authors' own Lean function (tested against real Go, not proved from fmt's source: count such statements apart). THE CARD IS WHAT COUNTS. Prove the row's statement (the work); the ties are given (YtfeflmpdbejhjaaDoorTie.lean); close each card by the builder's one call (the guide's Derived/Test/ToyasCard.lean, 'card_holds'). Laid BY PROGRAM, IN A SANDBOX (cutbox-door.mjs). By AI agents, Wed Nov 11 2026. No macro, syntax, notation, axiom, sorry.
-/
import Derived.Test.YtfeflmpdbejhjaaDoorRows
import GoSem.ClaimSeven
namespace Go.Proofs.YtfeflmpdbejhjaaDoor
namespace Rows

/-- THE TIED CARD OF 'standishlaw16.VarsTells'. -/
def varsTellsCard : Claim7 := { stood := { row := varsTellsRow, standIns := [], harness := (true, "3dd7be02d87abe429af5e6e7c86a6a906a56516afc80978e3963dfcf71e77c2f"), looks := false }, kinds := [], alts := [], laidByText := true, laidKinds := [.data, .data, .data], laidTests := true, laidLooks := .later }
def VarsTellsCardSaid : Prop := Claim7.holds Tryd.pinned (.plain (OpenSpec.ofChange varsTellsSpec)) varsTellsCard

/-- THE TIED CARD OF 'standishlaw16.VarsTurned'. -/
def varsTurnedCard : Claim7 := { stood := { row := varsTurnedRow, standIns := [], harness := (true, "3dd7be02d87abe429af5e6e7c86a6a906a56516afc80978e3963dfcf71e77c2f"), looks := false }, kinds := [], alts := [], laidByText := true, laidKinds := [.data, .data, .data], laidTests := true, laidLooks := .later }
def VarsTurnedCardSaid : Prop := Claim7.holds Tryd.pinned (.plain (OpenSpec.ofChange varsTurnedSpec)) varsTurnedCard

/-- THE TIED CARD OF 'standishlaw16.VarsNumbers'. -/
def varsNumbersCard : Claim7 := { stood := { row := varsNumbersRow, standIns := [], harness := (true, "3dd7be02d87abe429af5e6e7c86a6a906a56516afc80978e3963dfcf71e77c2f"), looks := false }, kinds := [], alts := [], laidByText := true, laidKinds := [.data, .data, .data], laidTests := true, laidLooks := .later }
def VarsNumbersCardSaid : Prop := Claim7.holds Tryd.pinned (.plain (OpenSpec.ofChange varsNumbersSpec)) varsNumbersCard

/-- THE TIED CARD OF 'standishlaw16.VarsDraws'. -/
def varsDrawsCard : Claim7 := { stood := { row := varsDrawsRow, standIns := [], harness := (true, "3dd7be02d87abe429af5e6e7c86a6a906a56516afc80978e3963dfcf71e77c2f"), looks := false }, kinds := [], alts := [], laidByText := true, laidKinds := [.data, .data, .data], laidTests := true, laidLooks := .later }
def VarsDrawsCardSaid : Prop := Claim7.holds Tryd.pinned (.plain (OpenSpec.ofChange varsDrawsSpec)) varsDrawsCard

/-- THE SECOND FORM's CARD OF 'standishlaw16.VarsTells'. -/
def varsTellsUptoCard : Claim7 := { stood := { row := varsTellsUptoRow, standIns := [], harness := (true, "3dd7be02d87abe429af5e6e7c86a6a906a56516afc80978e3963dfcf71e77c2f"), looks := false }, kinds := [], alts := [], laidByText := true, laidKinds := [.data, .data, .data], laidTests := true, laidLooks := .later }
def VarsTellsUptoCardSaid : Prop := Claim7.holds Tryd.pinned (.plain (OpenSpec.upto varsTellsSpec)) varsTellsUptoCard

/-- THE SECOND FORM's CARD OF 'standishlaw16.VarsTurned'. -/
def varsTurnedUptoCard : Claim7 := { stood := { row := varsTurnedUptoRow, standIns := [], harness := (true, "3dd7be02d87abe429af5e6e7c86a6a906a56516afc80978e3963dfcf71e77c2f"), looks := false }, kinds := [], alts := [], laidByText := true, laidKinds := [.data, .data, .data], laidTests := true, laidLooks := .later }
def VarsTurnedUptoCardSaid : Prop := Claim7.holds Tryd.pinned (.plain (OpenSpec.upto varsTurnedSpec)) varsTurnedUptoCard

/-- THE SECOND FORM's CARD OF 'standishlaw16.VarsNumbers'. -/
def varsNumbersUptoCard : Claim7 := { stood := { row := varsNumbersUptoRow, standIns := [], harness := (true, "3dd7be02d87abe429af5e6e7c86a6a906a56516afc80978e3963dfcf71e77c2f"), looks := false }, kinds := [], alts := [], laidByText := true, laidKinds := [.data, .data, .data], laidTests := true, laidLooks := .later }
def VarsNumbersUptoCardSaid : Prop := Claim7.holds Tryd.pinned (.plain (OpenSpec.upto varsNumbersSpec)) varsNumbersUptoCard

/-- THE SECOND FORM's CARD OF 'standishlaw16.VarsDraws'. -/
def varsDrawsUptoCard : Claim7 := { stood := { row := varsDrawsUptoRow, standIns := [], harness := (true, "3dd7be02d87abe429af5e6e7c86a6a906a56516afc80978e3963dfcf71e77c2f"), looks := false }, kinds := [], alts := [], laidByText := true, laidKinds := [.data, .data, .data], laidTests := true, laidLooks := .later }
def VarsDrawsUptoCardSaid : Prop := Claim7.holds Tryd.pinned (.plain (OpenSpec.upto varsDrawsSpec)) varsDrawsUptoCard
end Rows
end Go.Proofs.YtfeflmpdbejhjaaDoor
