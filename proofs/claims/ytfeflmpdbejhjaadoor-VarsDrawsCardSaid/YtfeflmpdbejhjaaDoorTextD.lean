/- Contracts of functions that make texts: slices.Clone, Index, Spoil. -/
import Derived.Test.YtfeflmpdbejhjaaDoorOwn
import Derived.Test.YtfeflmpdbejhjaaDoorBaseA
namespace Go.Proofs.YtfeflmpdbejhjaaDoor
open Go.RowKit
set_option linter.unusedVariables false

/-- A call hands back new memory that reads as l; nothing that was there has turned. -/
def NewR (w : World) (l : List Int) (e : Ending) (w' : World) : Prop :=
  ∃ A n c, e = .returned (.slice A n c) ∧ Own w' w.heap.size A n c l ∧ Below w.heap.size w w'

set_option maxHeartbeats 400000 in
theorem clone_any (A : Option Addr) (n c : Nat) (a : List Int) (w : World) (ha : Runes w A n a) (hn : n ≤ 35184372088832) :
    Calls Tryd.prog 26 #[.slice A n c] w (NewR w a) := by
  have he := Lib.run_eql_slice_nil w 22 21 A n c 0 0 Tryd.underlying22
  cases A with
  | none =>
    obtain ⟨rfl, rfl⟩ := ha.none_
    go_enter Tryd.func26, Tryd.ntmps26
    go_wp2_with fail
    go_ret
    exact ⟨none, 0, 0, rfl, Own.nil _ _, Below.refl _ _⟩
  | some ad =>
    go_enter Tryd.func26, Tryd.ntmps26
    go_wp2_with (first
      | (at_builtin
         refine wpList_app rfl (.tmp 5) (.tmp 6) rfl w.heap.size rfl (Own.made0 w) rfl (ha.alloc _) (by omega) (by simp) ?_
         intro A1 c1 w1 hown1 hg1 hb1 _ _))
    go_ret
    exact ⟨A1, _, c1, rfl, by simpa using hown1, ((Below.refl _ _).alloc (Nat.le_refl _) _).trans hb1⟩

/-- Index: a number from 0 to below n, of any number k. -/
def idxN (k : Int) (n : Nat) : Nat := ((bits .and .i64 k 4294967295) % (n : Int)).toNat
theorem and_low (k : Int) : 0 ≤ bits .and .i64 k 4294967295 ∧ bits .and .i64 k 4294967295 ≤ 4294967295 := by
  have h : bits .and .i64 k 4294967295 = IntKind.i64.wrap ((BitVec.ofInt 64 k &&& BitVec.ofInt 64 4294967295).toNat : Int) := rfl
  have hb : (BitVec.ofInt 64 k &&& BitVec.ofInt 64 4294967295).toNat ≤ 4294967295 := by
    rw [BitVec.toNat_and]
    exact Nat.le_trans Nat.and_le_right (by decide)
  rw [h, IntKind.wrap_i64]
  omega
theorem idxN_lt {k : Int} {n : Nat} (h : 0 < n) : idxN k n < n := by
  have h1 := and_low k
  have h2 : (bits .and .i64 k 4294967295) % (n : Int) < n := Int.emod_lt_of_pos _ (by omega)
  have h3 : 0 ≤ (bits .and .i64 k 4294967295) % (n : Int) := Int.emod_nonneg _ (by omega)
  unfold idxN
  omega

set_option maxHeartbeats 400000 in
theorem index_any (k n : Int) (w : World) (h : 0 < n) (hn : n ≤ 9223372036854775807) :
    Calls Tryd.prog 11 #[.int .i64 k, .int .i64 n] w fun e w' => e = .returned (.int .i64 (idxN k n.toNat)) ∧ w = w' := by
  obtain ⟨n, rfl⟩ := Int.eq_ofNat_of_zero_le (show 0 ≤ n by omega)
  have h1 := and_low k
  have h2 := h1.1
  have hnz : ((n : Int) == 0) = false := by simp; omega
  go_enter Tryd.func11, Tryd.ntmps11
  go_wp2
  go_ret
  refine ⟨retI ?_, rfl⟩
  unfold idxN
  rw [Int.toNat_of_nonneg (Int.emod_nonneg _ (by omega))]
  simp

set_option maxHeartbeats 400000 in
/-- Spoil: what was answered, in memory of the law's own, is written over. -/
theorem spoil_any (B : Nat) (A : Option Addr) (n c : Nat) (a : List Int) (w : World) (ha : Own w B A n c a) :
    Calls Tryd.prog 21 #[.slice A n c] w fun e w' => e = .returned (.tuple #[]) ∧ (∃ l, Own w' B A n c l) ∧ w.grownBy w' (blk A) := by
  have hn : n ≤ 9223372036854775807 := by have := ha.cap; omega
  have HO := hide ha
  clear ha
  go_enter Tryd.func21, Tryd.ntmps21
  go_wp2_with fail
  go_loopw [2] (fun i wr => ∃ (k : Nat) (l : List Int), k ≤ n ∧ i = .int .i64 k ∧ Own wr B A n c l ∧ w.grownBy wr (blk A)) (fun i _ => n - (intOf i).toNat)
  case atStart => exact ⟨0, a, Nat.zero_le _, rfl, HO.out, World.grownBy.refl w _⟩
  case round =>
    obtain ⟨k, l, hk, rfl, hown, hgr⟩ := hrel
    have HOW := hide hown
    have HG := hide hgr
    clear hown hgr
    by_cases hlt : k < n
    · rcases HOW.out.form with ⟨_, h0, _⟩ | ⟨g, rfl, _⟩
      · omega
      · have hc := HOW.out.cell hlt
        have hf := HOW.out.frozen k
        go_wp2
        go_roundw
        case rel => exact ⟨k + 1, l.set k (-9), by omega, by go_num, HOW.out.set hlt (by omega), grown_set HG.out _ _⟩
        case measure => simp [intOf]; omega
    · go_wp2
      go_end0
      exact ⟨rfl, ⟨l, HOW.out⟩, HG.out⟩

end Go.Proofs.YtfeflmpdbejhjaaDoor
