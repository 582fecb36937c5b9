/- What came in, opened: an environment. -/
import Derived.Test.YtfeflmpdbejhjaaDoorOpenND
import Derived.Test.YtfeflmpdbejhjaaDoorEnvA
import Derived.Lib.SmallJoins
namespace Go.Proofs.YtfeflmpdbejhjaaDoor
open Go.ChangeShapes Go.WideShapes Go.ChangeAt Go.RowKit Go.Deep
set_option linter.unusedVariables false
set_option maxRecDepth 100000

theorem array15 {α : Type} {cs : Array α} (h : cs.size = 15) : ∃ c0 c1 c2 c3 c4 c5 c6 c7 c8 c9 c10 c11 c12 c13 c14, cs = #[c0, c1, c2, c3, c4, c5, c6, c7, c8, c9, c10, c11, c12, c13, c14] := by
  obtain ⟨l⟩ := cs
  match l, h with
  | [c0, c1, c2, c3, c4, c5, c6, c7, c8, c9, c10, c11, c12, c13, c14], _ => exact ⟨c0, c1, c2, c3, c4, c5, c6, c7, c8, c9, c10, c11, c12, c13, c14, rfl⟩
theorem list9 {α : Type} {l : List α} (h : l.length = 9) : ∃ y0 y1 y2 y3 y4 y5 y6 y7 y8, l = [y0, y1, y2, y3, y4, y5, y6, y7, y8] := by
  match l, h with
  | [y0, y1, y2, y3, y4, y5, y6, y7, y8], _ => exact ⟨y0, y1, y2, y3, y4, y5, y6, y7, y8, rfl⟩
theorem list7 {α : Type} {l : List α} (h : l.length = 7) : ∃ y0 y1 y2 y3 y4 y5 y6, l = [y0, y1, y2, y3, y4, y5, y6] := by
  match l, h with
  | [y0, y1, y2, y3, y4, y5, y6], _ => exact ⟨y0, y1, y2, y3, y4, y5, y6, rfl⟩
section
variable {H : Type} {enc : TypeId × Value → H} {W : World} {base : Nat} {spare : Nat → Bool} {held : Bool}
theorem k22 : Tryd.prog.cellsOf 22 = 1 := by kernel_rfl
theorem k3 : Tryd.prog.cellsOf 3 = 1 := by kernel_rfl
theorem k23 : Tryd.prog.cellsOf 23 = 7 := by kernel_rfl
theorem k24 : Tryd.prog.cellsOf 24 = 1 := by kernel_rfl
theorem k26 : Tryd.prog.cellsOf 26 = 15 := by kernel_rfl
/-- A cell that reads as a slice of ints. -/
theorem open_ints_cell {fuel : Nat} {v : Value} {y : DataW H × List MemPlace} (h : DataW.trod enc Tryd.prog W base spare held fuel 24 [v] = some y) (hw : ∀ x ∈ y.1.weights Tryd.prog 24, x ≤ reachBytes) :
    ∃ A n c l, IntArg W v A n c l := by
  obtain ⟨d, p⟩ := y
  rcases open_ints Tryd.underlying24 Tryd.underlying3 (by kernel_rfl) h with ⟨hcs, _⟩ | ⟨x, l, c, zs, hcs, _, hl, hm, hz, hy, hcell, hwz⟩
  · simp only [List.cons.injEq, and_true] at hcs
    exact ⟨none, 0, 0, [], hcs, ⟨rfl, fun j h => absurd h (by omega), fun x hx => by cases hx⟩, Nat.le_refl _, by omega, by omega⟩
  · simp only [List.cons.injEq, and_true] at hcs
    have hlz : l ≤ zs.length := by rw [hz]; split <;> omega
    have hlen : l ≤ 17592186044416 := by
      injection hy with hy _
      have h1 := hw ((l + (zs.length - l)) * Tryd.prog.bytesOf 3) (by
        show _ ∈ d.weights Tryd.prog 24
        rw [hy]
        simp only [DataW.weights, Tryd.underlying24]
        refine List.mem_cons.2 (.inl ?_)
        simp [ChangeShapes.lits, Nat.min_eq_left hlz])
      rw [bytes64] at h1
      simp only [reachBytes] at h1
      omega
    refine ⟨some x, l, c, zs.take l, hcs, ⟨by rw [List.length_take]; omega, fun j hj => ?_, fun z hz' => wf_i64 (hwz z (List.mem_of_mem_take hz'))⟩, hl, by simpa [maxLen] using hm, hlen⟩
    obtain ⟨b, o, sp⟩ := x
    have hc := hcell j (by omega)
    have hspot : sp = none := by
      simpa [Addr.add] using World.cell?_spot (hcell 0 (by omega))
    subst hspot
    rw [addr_lit] at hc
    exact ⟨b, o, rfl, by rw [hc, nth_take hj]; rfl⟩
theorem open_int_cell {fuel : Nat} {v : Value} {y : DataW H × List MemPlace} (h : DataW.trod enc Tryd.prog W base spare held fuel 3 [v] = some y) : ∃ x : Int, v = .int .i64 x ∧ (-9223372036854775808 ≤ x ∧ x ≤ 9223372036854775807) := by
  obtain ⟨x, ha, _, hwa⟩ := DataW.trod_int Tryd.underlying3 h
  simp only [List.cons.injEq, and_true] at ha
  exact ⟨x, ha, wf_i64 hwa⟩
theorem open_env {b0 : Nat} {v : Value} {d : DataW H} {p : List MemPlace} (hv : Value.okWide Tryd.prog W .any b0 26 v) (h : DataW.Trod enc Tryd.prog W base spare held 26 v d p)
    (hw : ∀ x ∈ d.weights Tryd.prog 26, x ≤ reachBytes) : ∃ e ev, v = EnvH.v e ∧ EnvR W e ev := by
  obtain ⟨cs, rfl, hsz⟩ := okWide_struct Tryd.underlying26 hv
  obtain ⟨c0, c1, c2, c3, c4, c5, c6, c7, c8, c9, c10, c11, c12, c13, c14, rfl⟩ := array15 (hsz.trans k26)
  obtain ⟨fuel, hf⟩ := h
  obtain ⟨xs, n, _, hx, _, hlen, hfs⟩ := DataW.trod_struct Tryd.underlying26 hf
  obtain ⟨y0, y1, y2, y3, y4, y5, y6, y7, y8, rfl⟩ := list9 hlen
  injection hx with hx _
  subst hx
  have g0 : DataW.trod enc Tryd.prog W base spare held n 22 [c0] = some y0 := by simpa [Value.cells, k22] using hfs 0 _ rfl
  have g1 : DataW.trod enc Tryd.prog W base spare held n 22 [c1] = some y1 := by simpa [Value.cells, k22] using hfs 1 _ rfl
  have g2 : DataW.trod enc Tryd.prog W base spare held n 22 [c2] = some y2 := by simpa [Value.cells, k22] using hfs 2 _ rfl
  have g3 : DataW.trod enc Tryd.prog W base spare held n 22 [c3] = some y3 := by simpa [Value.cells, k22] using hfs 3 _ rfl
  have g4 : DataW.trod enc Tryd.prog W base spare held n 22 [c4] = some y4 := by simpa [Value.cells, k22] using hfs 4 _ rfl
  have g5 : DataW.trod enc Tryd.prog W base spare held n 22 [c5] = some y5 := by simpa [Value.cells, k22] using hfs 5 _ rfl
  have g6 : DataW.trod enc Tryd.prog W base spare held n 3 [c6] = some y6 := by simpa [Value.cells, k3] using hfs 6 _ rfl
  have g7 : DataW.trod enc Tryd.prog W base spare held n 23 [c7, c8, c9, c10, c11, c12, c13] = some y7 := by simpa [Value.cells, k23] using hfs 7 _ rfl
  have g8 : DataW.trod enc Tryd.prog W base spare held n 24 [c14] = some y8 := by simpa [Value.cells, k24] using hfs 8 _ rfl
  clear hfs
  obtain ⟨A0, n0, q0, l0, h0⟩ := open_runes g0 fun x hx => hw x (by
    simp only [DataW.weights, Tryd.underlying26]
    simp only [List.map_cons, DataW.weightsEach, List.mem_append]
    exact (.inl hx))
  obtain ⟨A1, n1, q1, l1, h1⟩ := open_runes g1 fun x hx => hw x (by
    simp only [DataW.weights, Tryd.underlying26]
    simp only [List.map_cons, DataW.weightsEach, List.mem_append]
    exact (.inr (.inl hx)))
  obtain ⟨A2, n2, q2, l2, h2⟩ := open_runes g2 fun x hx => hw x (by
    simp only [DataW.weights, Tryd.underlying26]
    simp only [List.map_cons, DataW.weightsEach, List.mem_append]
    exact (.inr (.inr (.inl hx))))
  obtain ⟨A3, n3, q3, l3, h3⟩ := open_runes g3 fun x hx => hw x (by
    simp only [DataW.weights, Tryd.underlying26]
    simp only [List.map_cons, DataW.weightsEach, List.mem_append]
    exact (.inr (.inr (.inr (.inl hx)))))
  obtain ⟨A4, n4, q4, l4, h4⟩ := open_runes g4 fun x hx => hw x (by
    simp only [DataW.weights, Tryd.underlying26]
    simp only [List.map_cons, DataW.weightsEach, List.mem_append]
    exact (.inr (.inr (.inr (.inr (.inl hx))))))
  obtain ⟨A5, n5, q5, l5, h5⟩ := open_runes g5 fun x hx => hw x (by
    simp only [DataW.weights, Tryd.underlying26]
    simp only [List.map_cons, DataW.weightsEach, List.mem_append]
    exact (.inr (.inr (.inr (.inr (.inr (.inl hx)))))))
  obtain ⟨A8, n8, q8, l8, h8⟩ := open_ints_cell g8 fun x hx => hw x (by
    simp only [DataW.weights, Tryd.underlying26]
    simp only [List.map_cons, DataW.weightsEach, List.mem_append]
    exact .inr (.inr (.inr (.inr (.inr (.inr (.inr (.inr (.inl hx)))))))))
  obtain ⟨ix, rfl, hix⟩ := open_int_cell g6
  obtain ⟨zs, m, _, _, _, hzl, hz⟩ := DataW.trod_array Tryd.underlying23 g7
  obtain ⟨z0, z1, z2, z3, z4, z5, z6, rfl⟩ := list7 hzl
  obtain ⟨a0, rfl, b0'⟩ := open_int_cell (show DataW.trod enc Tryd.prog W base spare held m 3 [c7] = some z0 from by simpa [k3] using hz 0 (by omega))
  obtain ⟨a1, rfl, b1'⟩ := open_int_cell (show DataW.trod enc Tryd.prog W base spare held m 3 [c8] = some z1 from by simpa [k3] using hz 1 (by omega))
  obtain ⟨a2, rfl, b2'⟩ := open_int_cell (show DataW.trod enc Tryd.prog W base spare held m 3 [c9] = some z2 from by simpa [k3] using hz 2 (by omega))
  obtain ⟨a3, rfl, b3'⟩ := open_int_cell (show DataW.trod enc Tryd.prog W base spare held m 3 [c10] = some z3 from by simpa [k3] using hz 3 (by omega))
  obtain ⟨a4, rfl, b4'⟩ := open_int_cell (show DataW.trod enc Tryd.prog W base spare held m 3 [c11] = some z4 from by simpa [k3] using hz 4 (by omega))
  obtain ⟨a5, rfl, b5'⟩ := open_int_cell (show DataW.trod enc Tryd.prog W base spare held m 3 [c12] = some z5 from by simpa [k3] using hz 5 (by omega))
  obtain ⟨a6, rfl, b6'⟩ := open_int_cell (show DataW.trod enc Tryd.prog W base spare held m 3 [c13] = some z6 from by simpa [k3] using hz 6 (by omega))
  obtain rfl := h0.eq
  obtain rfl := h1.eq
  obtain rfl := h2.eq
  obtain rfl := h3.eq
  obtain rfl := h4.eq
  obtain rfl := h5.eq
  obtain rfl := h8.eq
  refine ⟨⟨fun i => match i with | 0 => ⟨A0, n0, q0⟩ | 1 => ⟨A1, n1, q1⟩ | 2 => ⟨A2, n2, q2⟩ | 3 => ⟨A3, n3, q3⟩ | 4 => ⟨A4, n4, q4⟩ | 5 => ⟨A5, n5, q5⟩, ix, fun i => match i with | 0 => a0 | 1 => a1 | 2 => a2 | 3 => a3 | 4 => a4 | 5 => a5 | 6 => a6, ⟨A8, n8, q8⟩⟩,
    ⟨fun i => match i with | 0 => l0 | 1 => l1 | 2 => l2 | 3 => l3 | 4 => l4 | 5 => l5, ix, fun i => match i with | 0 => a0 | 1 => a1 | 2 => a2 | 3 => a3 | 4 => a4 | 5 => a5 | 6 => a6, l8⟩, rfl,
    ⟨fun i => ?_, fun i => ?_, h8.rd, by have := h8.len; show n8 ≤ _; omega, rfl, rfl, hix, fun i => ?_⟩⟩
  · match i with
    | 0 => exact h0.rd
    | 1 => exact h1.rd
    | 2 => exact h2.rd
    | 3 => exact h3.rd
    | 4 => exact h4.rd
    | 5 => exact h5.rd
  · match i with
    | 0 => exact ⟨by have := h0.len; show n0 ≤ _; omega, h0.le⟩
    | 1 => exact ⟨by have := h1.len; show n1 ≤ _; omega, h1.le⟩
    | 2 => exact ⟨by have := h2.len; show n2 ≤ _; omega, h2.le⟩
    | 3 => exact ⟨by have := h3.len; show n3 ≤ _; omega, h3.le⟩
    | 4 => exact ⟨by have := h4.len; show n4 ≤ _; omega, h4.le⟩
    | 5 => exact ⟨by have := h5.len; show n5 ≤ _; omega, h5.le⟩
  · match i with
    | 0 => exact b0'
    | 1 => exact b1'
    | 2 => exact b2'
    | 3 => exact b3'
    | 4 => exact b4'
    | 5 => exact b5'
    | 6 => exact b6'
end
end Go.Proofs.YtfeflmpdbejhjaaDoor
