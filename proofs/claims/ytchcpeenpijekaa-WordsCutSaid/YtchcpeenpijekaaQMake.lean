/- make([]rune, n). -/
import Derived.Test.YtchcpeenpijekaaQ03
import Derived.Laws.MakeOwn
namespace Go.Proofs.Ytchcpeenpijekaa
open Go.RowKit
set_option linter.unusedVariables false

theorem made_zeros (n : Nat) : madeCells #[.int .i32 0] n = (cells32 (List.replicate n 0)).toArray := by
  apply Array.ext
  · simp [madeCells, cells32]
  · intro i h1 h2
    simp [madeCells, cells32, Nat.mod_one]

theorem w32_zeros (n : Nat) : W32 (List.replicate n 0) := fun x hx => by
  obtain ⟨_, rfl⟩ := List.mem_replicate.1 hx
  omega

theorem run_make32 (n : Nat) (hn : n ≤ 35184372088832) (W : World) :
    (Instr.makeSlice 29 (.int .i64 (n : Int)) (.int .i64 (n : Int))).run Try.prog W = .ok (.slice (some ⟨W.heap.size, 0, none⟩) n n) (W.alloc (.cells (cells32 (List.replicate n 0)).toArray 21)) := by
  obtain ⟨i0, hi, hz0, hz1, hz2⟩ := info_parts runeInfo
  have h := run_make (P := Try.prog) W 29 21 i0 (.int .i32 0) Try.underlying29 hi hz0 .i64 .i64 n n (by omega) (by omega) (by rw [hz2]; omega) (by omega)
  rw [hz1, Int.toNat_natCast, Nat.mul_one] at h
  rw [h, ← made_zeros]
  rfl

theorem made_runes (n : Nat) (W : World) : Runes (W.alloc (.cells (cells32 (List.replicate n 0)).toArray 21)) (some ⟨W.heap.size, 0, none⟩) n (List.replicate n 0) := by
  have h := Runes.news W _ 21 (List.replicate n 0) rfl (w32_zeros n)
  rwa [List.length_replicate] at h
end Go.Proofs.Ytchcpeenpijekaa
