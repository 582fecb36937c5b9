/- slices.nextPowerOfTwo, xorshift.Next: the shelf's contracts at this program, in plain words. -/
import Derived.Shelf.SlGeneric
import Derived.Shelf.SlSortCmp.Xorshift
import Derived.Test.YtchcpeenpijekaaProg
namespace Go.Proofs.Ytchcpeenpijekaa
open Go.Shelf Go.Proofs

def lays47_ren : Go.Shelf.Ren := ⟨fun | 47 => 101 | 15 => 86 | 28 => 97 | 29 => 98 | n => n, fun | 3 => 3 | 39 => 90 | 53 => 118 | 55 => 120 | 4 => 4 | 5 => 5 | 9 => 9 | n => n, fun | n => n⟩
theorem lays47 : Go.Proofs.SlLaysF0.n47 Try.prog lays47_ren := {
  mixed := by kernel_rfl
  f15 := Try.func86.trans (congrArg some (by kernel_rfl))
  f28 := Try.func97.trans (congrArg some (by kernel_rfl))
  f29 := Try.func98.trans (congrArg some (by kernel_rfl))
  f47 := Try.func101.trans (congrArg some (by kernel_rfl))
  t3 := Try.underlying3
  a3 := Try.isAgg3
  z3 := Try.sizeOf3
  v3 := Try.zeroValue3
  t4 := Try.underlying4
  a4 := Try.isAgg4
  z4 := Try.sizeOf4
  v4 := Try.zeroValue4
  t5 := Try.underlying5
  a5 := Try.isAgg5
  z5 := Try.sizeOf5
  v5 := Try.zeroValue5
  t9 := Try.underlying9
  a9 := Try.isAgg9
  z9 := Try.sizeOf9
  v9 := Try.zeroValue9
  t39 := Try.underlying90
  a39 := Try.isAgg90
  z39 := Try.sizeOf90
  v39 := Try.zeroValue90
  t53 := Try.underlying118
  a53 := Try.isAgg118
  z53 := Try.sizeOf118
  v53 := Try.zeroValue118
  t55 := Try.underlying120
  a55 := Try.isAgg120
  z55 := Try.sizeOf120
  v55 := Try.zeroValue120 }
theorem nextPow_any (n : Nat) (hn : n < 4611686018427387904) (w : World) : Calls Try.prog 101 #[.int .i64 n] w fun e w' => e = .returned (.int .u64 ((1 <<< Go.Sort.bitsLen n : Nat) : Int)) ∧ w' = w := AnyF.nextPowerOfTwo lays47 n hn w
def lays48_ren : Go.Shelf.Ren := ⟨fun | 48 => 102 | n => n, fun | 76 => 127 | 55 => 120 | 0 => 0 | 66 => 121 | 39 => 90 | n => n, fun | n => n⟩
theorem lays48 : Go.Proofs.SlLaysF0.n48 Try.prog lays48_ren := {
  mixed := by kernel_rfl
  f48 := Try.func102.trans (congrArg some (by kernel_rfl))
  t0 := Try.underlying0
  a0 := Try.isAgg0
  z0 := Try.sizeOf0
  v0 := Try.zeroValue0
  t39 := Try.underlying90
  a39 := Try.isAgg90
  z39 := Try.sizeOf90
  v39 := Try.zeroValue90
  t55 := Try.underlying120
  a55 := Try.isAgg120
  z55 := Try.sizeOf120
  v55 := Try.zeroValue120
  t66 := Try.underlying121
  a66 := Try.isAgg121
  z66 := Try.sizeOf121
  v66 := Try.zeroValue121
  t76 := Try.underlying127
  a76 := Try.isAgg127
  z76 := Try.sizeOf127
  v76 := Try.zeroValue127 }
theorem xorNext_any (rb ro X : Nat) (hX : X < 18446744073709551616) (w : World) (hc : w.cell? ⟨rb, ro, none⟩ = some (.int .u64 X)) (hf : w.frozen? ⟨rb, ro, none⟩ = false) :
    Calls Try.prog 102 #[.pointer (some ⟨rb, ro, none⟩)] w fun e w' => e = .returned (.int .u64 (Go.Sort.xorNextN X : Nat)) ∧ w' = (w.setCell ⟨rb, ro, none⟩ (.int .u64 (Go.Sort.xorNextN X : Nat))).drewN 3 := AnyF.xorshift_Next lays48 rb ro X hX w hc hf
end Go.Proofs.Ytchcpeenpijekaa

