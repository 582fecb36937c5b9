/- What came in, opened: slices of ints, slices of changes. -/
import Derived.Test.YtjhnenljmmeflaaOpen
import Derived.Test.YtjhnenljmmeflaaInts
import Derived.Deep.Slices
import Derived.Deep.Fields
import Derived.ChangeSame
namespace Go.Proofs.Ytjhnenljmmeflaa
open Go.ChangeShapes Go.WideShapes Go.ChangeAt Go.RowKit Go.Deep
set_option linter.unusedVariables false

section
variable {H : Type} {enc : TypeId × Value → H} {W : World} {base : Nat} {spare : Nat → Bool} {held : Bool}

/-- What a slice of ints that came in is. -/
structure IntArg (W : World) (v : Value) (A : Option Addr) (n c : Nat) (l : List Int) : Prop where
  eq : v = .slice A n c
  rd : IntsR W A n l
  le : n ≤ c
  cap : c ≤ 9223372036854775807
  len : n ≤ 17592186044416

theorem bytes64 : Try.prog.bytesOf 3 = 8 := by kernel_rfl

theorem open_ints_arg {fuel : Nat} {b0 : Nat} {v : Value} {d : DataW H} {p : List MemPlace} (ht : Try.prog.underlying 23 = some (.slice 3)) (hv : Value.okWide Try.prog W .any b0 23 v)
    (h : DataW.trod enc Try.prog W base spare held fuel 23 v.cells.toList = some (d, p)) (hw : ∀ x ∈ d.weights Try.prog 23, x ≤ reachBytes) :
    ∃ A n c l, IntArg W v A n c l := by
  obtain ⟨a0, len0, cap0, rfl⟩ := okWide_slice ht hv
  rcases open_ints Try.underlying23 Try.underlying3 (by kernel_rfl) h with ⟨hcs, _⟩ | ⟨x, l, c, zs, hcs, _, hl, hm, hz, hy, hcell, hwz⟩
  · have hcs : Value.slice a0 len0 cap0 = .slice none 0 0 := by simpa [Value.cells] using hcs
    exact ⟨none, 0, 0, [], hcs, ⟨rfl, fun j h => absurd h (by omega), fun x hx => by cases hx⟩, Nat.le_refl _, by omega, by omega⟩
  · have hcs : Value.slice a0 len0 cap0 = .slice (some x) l c := by simpa [Value.cells] using hcs
    have hlz : l ≤ zs.length := by rw [hz]; split <;> omega
    have hlen : l ≤ 17592186044416 := by
      injection hy with hy _
      have h1 := hw ((l + (zs.length - l)) * Try.prog.bytesOf 3) (by
        rw [hy]
        simp only [DataW.weights, Try.underlying23]
        refine List.mem_cons.2 (.inl ?_)
        simp [ChangeShapes.lits, Nat.min_eq_left hlz])
      rw [bytes64] at h1
      simp only [reachBytes] at h1
      omega
    refine ⟨some x, l, c, zs.take l, hcs, ⟨by rw [List.length_take]; omega, fun j hj => ?_, fun z hz' => wf_i64 (hwz z (List.mem_of_mem_take hz'))⟩, hl, by simpa [maxLen] using hm, hlen⟩
    obtain ⟨b, o, sp⟩ := x
    have hc := hcell j (by omega)
    have hspot : sp = none := by
      simpa [Addr.add] using World.cell?_spot (hcell 0 (by omega))
    subst hspot
    rw [addr_lit] at hc
    exact ⟨b, o, rfl, by rw [hc, nth_take hj]; rfl⟩

/-- What a slice of changes that came in is. -/
structure ChgsArg (W : World) (v : Value) (A : Option Addr) (n c : Nat) (us : Nat → CV) (l : List Chg) : Prop where
  eq : v = .slice A n c
  rd : Chgs W A n us l
  le : n ≤ c
  cap : c ≤ 9223372036854775807
  caps : ∀ j, j < n → (us j).m ≤ (us j).d ∧ (us j).d ≤ 9223372036854775807

/-- An element: a change in three cells. -/
theorem open_elt {fuel : Nat} {cs : List Value} {d : DataW H} {p : List MemPlace} (h : DataW.trod enc Try.prog W base spare held fuel 31 cs = some (d, p))
    (hw : ∀ x ∈ d.weights Try.prog 31, x ≤ reachBytes) :
    ∃ (u : CV) (x : Chg), cs = u.cells ∧ CRd W u x ∧ u.m ≤ u.d ∧ u.d ≤ 9223372036854775807 := by
  obtain ⟨ys, k, _, hy, hlen, hyl, hf⟩ := DataW.trod_struct Try.underlying31 h
  simp only [Prod.mk.injEq] at hy
  obtain ⟨hd, hp⟩ := hy
  have hlen3 : cs.length = 3 := hlen.trans (by kernel_rfl)
  obtain ⟨v0, v1, v2, rfl⟩ : ∃ a b c, cs = [a, b, c] := by
    match cs, hlen3 with
    | [a, b, c], _ => exact ⟨a, b, c, rfl⟩
  obtain ⟨y0, y1, y2, rfl⟩ : ∃ a b c, ys = [a, b, c] := by
    match ys, hyl with
    | [a, b, c], _ => exact ⟨a, b, c, rfl⟩
  have f0 := hf 0 _ rfl
  have f1 := hf 1 _ rfl
  have f2 := hf 2 _ rfl
  have c0 : Try.prog.cellsOf 3 = 1 := by kernel_rfl
  have c1 : Try.prog.cellsOf 22 = 1 := by kernel_rfl
  have g0 : DataW.trod enc Try.prog W base spare held k 3 [v0] = some y0 := f0
  have g1 : DataW.trod enc Try.prog W base spare held k 22 [v1] = some y1 := f1
  have g2 : DataW.trod enc Try.prog W base spare held k 22 [v2] = some y2 := f2
  subst hd
  obtain ⟨at_, ha, _, hwa⟩ := DataW.trod_int Try.underlying3 g0
  simp only [List.cons.injEq, and_true] at ha
  subst ha
  obtain ⟨C, n, c, cut, hC⟩ := open_runes g1 fun x hx => hw x (by
    simp only [DataW.weights, Try.underlying31]
    simp only [List.map_cons, DataW.weightsEach, List.mem_append]
    exact .inr (.inl hx))
  obtain ⟨P, m, e', put, hP⟩ := open_runes g2 fun x hx => hw x (by
    simp only [DataW.weights, Try.underlying31]
    simp only [List.map_cons, DataW.weightsEach, List.mem_append]
    exact .inr (.inr (.inl hx)))
  refine ⟨⟨at_, C, n, c, P, m, e'⟩, ⟨at_, cut, put⟩, ?_, ⟨rfl, hC.rd, hP.rd, wf_i64 hwa, ?_, ?_⟩, hP.le, hP.cap⟩
  · rw [hC.eq, hP.eq]; rfl
  · have := hC.len; have := hC.rd.len; show cut.length ≤ _; omega
  · have := hP.len; have := hP.rd.len; show put.length ≤ _; omega

theorem weights_all_mem {e : TypeId} {x : Nat} : ∀ {l : List (DataW H)} {d : DataW H}, d ∈ l → x ∈ d.weights Try.prog e → x ∈ DataW.weightsAll Try.prog e l
  | d' :: r, d, hd, hx => by
    rw [DataW.weightsAll, List.mem_append]
    rcases List.mem_cons.1 hd with rfl | h
    · exact .inl hx
    · exact .inr (weights_all_mem h hx)

theorem open_changes_arg {fuel : Nat} {b0 : Nat} {v : Value} {d : DataW H} {p : List MemPlace} (ht : Try.prog.underlying 29 = some (.slice 31)) (hv : Value.okWide Try.prog W .any b0 29 v)
    (h : DataW.trod enc Try.prog W base spare held fuel 29 v.cells.toList = some (d, p)) (hw : ∀ x ∈ d.weights Try.prog 29, x ≤ reachBytes) :
    ∃ A n c us l, ChgsArg W v A n c us l := by
  obtain ⟨a0, len0, cap0, rfl⟩ := okWide_slice ht hv
  rcases open_slice Try.underlying29 h with ⟨hcs, _⟩ | ⟨a, len, cap, m, n, D, Pl, hcs, hb, hl, hm, hmm, hx, hi⟩
  · have hcs : Value.slice a0 len0 cap0 = .slice none 0 0 := by simpa [Value.cells] using hcs
    exact ⟨none, 0, 0, fun _ => ⟨0, none, 0, 0, none, 0, 0⟩, [], hcs, Chgs.nil W none _, Nat.le_refl _, by omega, fun j h => absurd h (by omega)⟩
  · have hcs : Value.slice a0 len0 cap0 = .slice (some a) len cap := by simpa [Value.cells] using hcs
    have hC : Try.prog.cellsOf 31 = 3 := by kernel_rfl
    rw [hC] at hi
    injection hx with hx _
    have hlm : len ≤ m := by rw [hmm]; split <;> omega
    have key : ∀ i, i < len → ∃ (u : CV) (x : Chg), (W.cell? (a.add (i * 3)) = some (.int .i64 u.at_) ∧ W.cell? (a.add (i * 3 + 1)) = some (.slice u.C u.n u.c) ∧ W.cell? (a.add (i * 3 + 2)) = some (.slice u.P u.m u.d)) ∧
        CRd W u x ∧ u.m ≤ u.d ∧ u.d ≤ 9223372036854775807 := fun i hil => by
      obtain ⟨cs', hc', ht'⟩ := hi i (by omega)
      obtain ⟨u, x, rfl, h2, h3⟩ := open_elt ht' fun y hy => hw y (by
        rw [hx]
        simp only [DataW.weights, Try.underlying29]
        refine List.mem_cons.2 (.inr (List.mem_append.2 (.inl ?_)))
        exact weights_all_mem (List.mem_map.2 ⟨i, List.mem_range.2 hil, rfl⟩) hy)
      obtain ⟨_, _, hat⟩ := World.cells?_some hc'
      refine ⟨u, x, ⟨?_, ?_, ?_⟩, h2, h3⟩
      · have := hat 0 (by omega)
        rw [add_add, Nat.add_zero] at this
        exact this
      · have := hat 1 (by omega)
        rw [add_add] at this
        exact this
      · have := hat 2 (by omega)
        rw [add_add] at this
        exact this
    have key2 : ∀ i, ∃ (ux : CV × Chg), i < len → (W.cell? (a.add (i * 3)) = some (.int .i64 ux.1.at_) ∧ W.cell? (a.add (i * 3 + 1)) = some (.slice ux.1.C ux.1.n ux.1.c) ∧ W.cell? (a.add (i * 3 + 2)) = some (.slice ux.1.P ux.1.m ux.1.d)) ∧
        CRd W ux.1 ux.2 ∧ ux.1.m ≤ ux.1.d ∧ ux.1.d ≤ 9223372036854775807 := fun i => by
      by_cases hil : i < len
      · obtain ⟨u, x, h⟩ := key i hil
        exact ⟨(u, x), fun _ => h⟩
      · exact ⟨(⟨0, none, 0, 0, none, 0, 0⟩, ⟨0, [], []⟩), fun h => absurd h hil⟩
    obtain ⟨f, hf⟩ := Classical.axiomOfChoice key2
    obtain ⟨b, o, sp⟩ := a
    refine ⟨some ⟨b, o, sp⟩, len, cap, fun i => (f i).1, (List.range len).map fun i => (f i).2, hcs, ⟨by simp, fun j hj => ?_, fun j hj => ⟨(f j).2, by simp [hj], (hf j hj).2.1⟩⟩, hl, by simpa [maxLen] using hm, fun j hj => (hf j hj).2.2⟩
    have h0 := (hf j hj).1
    have hspot : sp = none := by
      simpa [Addr.add] using World.cell?_spot (hf 0 (by omega)).1.1
    subst hspot
    simp only [addr_lit] at h0
    exact ⟨b, o, rfl, h0.1, h0.2.1, h0.2.2⟩
end
end Go.Proofs.Ytjhnenljmmeflaa
