/- Rows of snippets in memory of the call's own: their cells. -/
import Derived.Test.YtkoieceifplphaaSnip
import Derived.Test.YtkoieceifplphaaRowG
namespace Go.Proofs.Ytkoieceifplphaa
open Go.RowKit
set_option linter.unusedVariables false

theorem snipInfo : (Try.prog.info? 36).map (fun i => (i.zero, i.size, i.bytes)) = some (some (.agg #[.slice none 0 0, .slice none 0 0]), 2, 48) := by kernel_rfl
/-- A table's cells. -/
def rowV (us : Nat → SNV) (n : Nat) : List (List Value) := (List.range n).map fun j => [.slice (us j).T (us j).n (us j).c, .slice (us j).B (us j).m (us j).d]
theorem rowV_at {us : Nat → SNV} {n j : Nat} (h : j < n) : (rowV us n)[j]? = some [.slice (us j).T (us j).n (us j).c, .slice (us j).B (us j).m (us j).d] := by
  simp [rowV, h]
theorem rowV_each (us : Nat → SNV) (n : Nat) : Each 2 (rowV us n) := fun v hv => by
  obtain ⟨j, _, rfl⟩ := List.mem_map.1 hv
  exact ⟨rfl, fun u hu => by
    simp only [List.mem_cons, List.not_mem_nil, or_false] at hu
    rcases hu with rfl | rfl <;> rfl⟩

theorem Snips.alloc {w : World} {A : Option Addr} {n : Nat} {us : Nat → SNV} {l : List Snp} (h : Snips w A n us l) (o : Obj) : Snips (w.alloc o) A n us l := h.below ((Below.refl _ _).alloc (Nat.le_refl _) o)
theorem snipT : RowT 22 36 2 48 := ⟨Try.underlying22, ⟨.agg #[.slice none 0 0, .slice none 0 0], by kernel_rfl, snipInfo⟩, by omega⟩
theorem Runes.grown {w w' : World} {A : Option Addr} {n : Nat} {l : List Int} {row : Option Nat} (h : Runes w A n l) (hg : w.grownBy w' row) (hne : ∀ b, blk A = some b → row ≠ some b) : Runes w' A n l :=
  h.keep fun b o e hn => hg.block b (h.lt hn e) (fun e2 => hne b (by rw [e]; rfl) e2.symm)
theorem rowV_snoc {us : Nat → SNV} {n : Nat} (v : SNV) : rowV us n ++ [[.slice v.T v.n v.c, .slice v.B v.m v.d]] = rowV (fun j => if j = n then v else us j) (n + 1) := by
  unfold rowV
  rw [List.range_succ, List.map_append]
  congr 1
  · apply List.map_congr_left
    intro j hj
    have : j ≠ n := by have := List.mem_range.1 hj; omega
    simp [this]
  · simp
/-- A row of snippets that are read where they lie. -/
theorem RowG.snips {w : World} {B n c : Nat} {A : Option Addr} {us : Nat → SNV} {l : List Snp} (h : RowG w 36 2 B A n c (rowV us n)) (hl : l.length = n) (hr : ∀ j, j < n → ∃ x, l[j]? = some x ∧ SRd w (us j) x) : Snips w A n us l :=
  ⟨hl, fun j hj => by
    obtain ⟨g, e, hc, _⟩ := h.cell (i := 0) (rowV_at hj) (by omega) rfl
    subst e
    obtain ⟨g', e, hc', _⟩ := h.cell (i := 1) (rowV_at hj) (by omega) rfl
    injection e with e
    injection e with e
    subst e
    exact ⟨g, 0, rfl, by rw [Nat.zero_add]; exact hc, by rw [Nat.zero_add]; exact hc'⟩, hr⟩
end Go.Proofs.Ytkoieceifplphaa
