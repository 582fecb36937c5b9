/- What came in, opened: slices of ints, beside runes. -/
import Derived.Test.YtfeflmpdbejhjaaDoorOpenA
import Derived.Test.YtfeflmpdbejhjaaDoorTapeD
import Derived.Deep.Slices
import Derived.Deep.Fields
import Derived.ChangeSame
namespace Go.Proofs.YtfeflmpdbejhjaaDoor
open Go.ChangeShapes Go.WideShapes Go.ChangeAt Go.RowKit Go.Deep
set_option linter.unusedVariables false
set_option maxRecDepth 100000

section
variable {H : Type} {enc : TypeId × Value → H} {W : World} {base : Nat} {spare : Nat → Bool} {held : Bool}

/-- What a slice of ints that came in is. -/
structure IntArg (W : World) (v : Value) (A : Option Addr) (n c : Nat) (l : List Int) : Prop where
  eq : v = .slice A n c
  rd : IntsR W A n l
  le : n ≤ c
  cap : c ≤ 9223372036854775807
  len : n ≤ 17592186044416

theorem bytes64 : Tryd.prog.bytesOf 3 = 8 := by kernel_rfl

theorem open_ints_arg {fuel : Nat} {b0 : Nat} {v : Value} {d : DataW H} {p : List MemPlace} (ht : Tryd.prog.underlying 24 = some (.slice 3)) (hv : Value.okWide Tryd.prog W .any b0 24 v)
    (h : DataW.trod enc Tryd.prog W base spare held fuel 24 v.cells.toList = some (d, p)) (hw : ∀ x ∈ d.weights Tryd.prog 24, x ≤ reachBytes) :
    ∃ A n c l, IntArg W v A n c l := by
  obtain ⟨a0, len0, cap0, rfl⟩ := okWide_slice ht hv
  rcases open_ints Tryd.underlying24 Tryd.underlying3 (by kernel_rfl) h with ⟨hcs, _⟩ | ⟨x, l, c, zs, hcs, _, hl, hm, hz, hy, hcell, hwz⟩
  · have hcs : Value.slice a0 len0 cap0 = .slice none 0 0 := by simpa [Value.cells] using hcs
    exact ⟨none, 0, 0, [], hcs, ⟨rfl, fun j h => absurd h (by omega), fun x hx => by cases hx⟩, Nat.le_refl _, by omega, by omega⟩
  · have hcs : Value.slice a0 len0 cap0 = .slice (some x) l c := by simpa [Value.cells] using hcs
    have hlz : l ≤ zs.length := by rw [hz]; split <;> omega
    have hlen : l ≤ 17592186044416 := by
      injection hy with hy _
      have h1 := hw ((l + (zs.length - l)) * Tryd.prog.bytesOf 3) (by
        rw [hy]
        simp only [DataW.weights, Tryd.underlying24]
        refine List.mem_cons.2 (.inl ?_)
        simp [ChangeShapes.lits, Nat.min_eq_left hlz])
      rw [bytes64] at h1
      simp only [reachBytes] at h1
      omega
    refine ⟨some x, l, c, zs.take l, hcs, ⟨by rw [List.length_take]; omega, fun j hj => ?_, fun z hz' => wf_i64 (hwz z (List.mem_of_mem_take hz'))⟩, hl, by simpa [maxLen] using hm, hlen⟩
    obtain ⟨b, o, sp⟩ := x
    have hc := hcell j (by omega)
    have hspot : sp = none := by
      simpa [Addr.add] using World.cell?_spot (hcell 0 (by omega))
    subst hspot
    rw [addr_lit] at hc
    exact ⟨b, o, rfl, by rw [hc, nth_take hj]; rfl⟩

end
end Go.Proofs.YtfeflmpdbejhjaaDoor
