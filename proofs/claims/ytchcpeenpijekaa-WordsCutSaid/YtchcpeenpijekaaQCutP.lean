/- Plain laws of WordsCut's text. -/
import Derived.Test.YtchcpeenpijekaaQ21
namespace Go.Proofs.Ytchcpeenpijekaa
open Go.RowKit
set_option linter.unusedVariables false

def chunk (i : Nat) : List Int := [113, 97 + (i : Int) % 26, 97 + (i : Int) / 26, 32]
def repC (i : Nat) : Nat → List Int
  | 0 => []
  | k + 1 => repC i k ++ chunk i
def cutP : Nat → List Int
  | 0 => []
  | i + 1 => cutP i ++ repC i (i % 3 + 1)
def cutL : List Int := cutP 70 ++ [113]
theorem cutL_len : cutL.length = 557 := by decide +kernel
theorem cutL_pre : preS cutL 557 = [113] := by decide +kernel
theorem cutL_menu : (menuS cutL 557).length = 50 ∧ (menuS cutL 557)[0]?.map Prod.snd = some 3 := by decide +kernel
end Go.Proofs.Ytchcpeenpijekaa
