/- What came in, opened: slices of runes. -/
import Derived.Test.YtfeflmpdbejhjaaDoorRows
import Derived.Test.YtfeflmpdbejhjaaDoorMem
import Derived.WalkKit
import Derived.ProofKit
import Derived.OpenShut
import Derived.ShutString
import Derived.ChangeOld
import Derived.Below
import Derived.Carry
import Derived.SizedLaws
namespace Go.Proofs.YtfeflmpdbejhjaaDoor
open Go.ChangeShapes Go.WideShapes Go.ChangeAt Go.RowKit
set_option linter.unusedVariables false

theorem ownKnob_none : ownKnob Tryd.prog.godebug = none := by kernel_rfl
theorem laid_out : laidOutB Tryd.prog = true := by kernel_rfl

section
variable {H : Type} {enc : TypeId × Value → H} {W : World} {base : Nat} {spare : Nat → Bool} {held : Bool}

/-- What a slice of runes that came in is. -/
structure RuneArg (W : World) (v : Value) (A : Option Addr) (n c : Nat) (l : List Int) : Prop where
  eq : v = .slice A n c
  rd : Runes W A n l
  le : n ≤ c
  cap : c ≤ 9223372036854775807
  len : n ≤ 35184372087808

theorem wf_i32 {n : Int} (h : (Lit.int .i32 n).wf = true) : -2147483648 ≤ n ∧ n ≤ 2147483647 := by
  simpa [Lit.wf, IntKind.min, IntKind.max, IntKind.signed, IntKind.bits] using h
theorem wf_i64 {n : Int} (h : (Lit.int .i64 n).wf = true) : -9223372036854775808 ≤ n ∧ n ≤ 9223372036854775807 := by
  simpa [Lit.wf, IntKind.min, IntKind.max, IntKind.signed, IntKind.bits] using h

theorem bytes32 : Tryd.prog.bytesOf 21 = 4 := by kernel_rfl

theorem open_runes {fuel : Nat} {v : Value} {y : DataW H × List MemPlace} (h : DataW.trod enc Tryd.prog W base spare held fuel 22 [v] = some y) (hw : ∀ x ∈ y.1.weights Tryd.prog 22, x ≤ reachBytes) :
    ∃ A n c l, RuneArg W v A n c l := by
  rcases open_ints Tryd.underlying22 Tryd.underlying21 (by kernel_rfl) h with ⟨hcs, _⟩ | ⟨x, l, c, zs, hcs, _, hl, hm, hz, hy, hcell, hwz⟩
  · simp only [List.cons.injEq, and_true] at hcs
    exact ⟨none, 0, 0, [], hcs, Runes.nil W none, Nat.le_refl _, by omega, by omega⟩
  · simp only [List.cons.injEq, and_true] at hcs
    have hlz : l ≤ zs.length := by rw [hz]; split <;> omega
    have hlen : l ≤ 35184372087808 := by
      have h1 := hw ((l + (zs.length - l)) * Tryd.prog.bytesOf 21) (by
        rw [hy]
        simp only [DataW.weights, Tryd.underlying22]
        refine List.mem_cons.2 (.inl ?_)
        simp [ChangeShapes.lits, Nat.min_eq_left hlz])
      rw [bytes32] at h1
      simp only [reachBytes] at h1
      omega
    refine ⟨some x, l, c, zs.take l, hcs, ⟨by rw [List.length_take]; omega, fun j hj => ?_, fun z hz' => wf_i32 (hwz z (List.mem_of_mem_take hz'))⟩, hl, by simpa [maxLen] using hm, hlen⟩
    obtain ⟨b, o, sp⟩ := x
    have hc := hcell j (by omega)
    have hspot : sp = none := by
      simpa [Addr.add] using World.cell?_spot (hcell 0 (by omega))
    subst hspot
    rw [addr_lit] at hc
    exact ⟨b, o, rfl, by rw [hc, nth_take hj]; rfl⟩

set_option maxRecDepth 100000 in
/-- A slice of runes that came in, its value with it. -/
theorem open_runes_arg {fuel : Nat} {r : Reach} {b0 : Nat} {v : Value} {d : DataW H} {p : List MemPlace} (ht : Tryd.prog.underlying 22 = some (.slice 21)) (hv : Value.okWide Tryd.prog W r b0 22 v)
    (h : DataW.trod enc Tryd.prog W base spare held fuel 22 v.cells.toList = some (d, p)) (hw : ∀ x ∈ d.weights Tryd.prog 22, x ≤ reachBytes) :
    ∃ A n c l, RuneArg W v A n c l := by
  obtain ⟨a0, len0, cap0, rfl⟩ := okWide_slice ht hv
  exact open_runes h hw

end
end Go.Proofs.YtfeflmpdbejhjaaDoor
