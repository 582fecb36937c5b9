/- Contracts of functions that make texts: slices.Clone, Lend, Kept, Cut, Index, Spoil. -/
import Derived.Test.YtchcpeenpijekaaOwn
import Derived.Test.YtchcpeenpijekaaBaseA
namespace Go.Proofs.Ytchcpeenpijekaa
open Go.RowKit
set_option linter.unusedVariables false

/-- A call hands back new memory that reads as l; nothing that was there has turned. -/
def NewR (w : World) (l : List Int) (e : Ending) (w' : World) : Prop :=
  ∃ A n c, e = .returned (.slice A n c) ∧ Own w' w.heap.size A n c l ∧ Below w.heap.size w w'

set_option maxHeartbeats 400000 in
theorem clone_any (A : Option Addr) (n c : Nat) (a : List Int) (w : World) (ha : Runes w A n a) (hn : n ≤ 35184372088832) :
    Calls Try.prog 50 #[.slice A n c] w (NewR w a) := by
  have he := Lib.run_eql_slice_nil w 29 21 A n c 0 0 Try.underlying29
  cases A with
  | none =>
    obtain ⟨rfl, rfl⟩ := ha.none_
    go_enter Try.func50, Try.ntmps50
    go_wp2_with fail
    go_ret
    exact ⟨none, 0, 0, rfl, Own.nil _ _, Below.refl _ _⟩
  | some ad =>
    go_enter Try.func50, Try.ntmps50
    go_wp2_with (first
      | (at_builtin
         refine wpList_app rfl (.tmp 5) (.tmp 6) rfl w.heap.size rfl (Own.made0 w) rfl (ha.alloc _) (by omega) (by simp) ?_
         intro A1 c1 w1 hown1 hg1 hb1 _ _))
    go_ret
    exact ⟨A1, _, c1, rfl, by simpa using hown1, ((Below.refl _ _).alloc (Nat.le_refl _) _).trans hb1⟩

theorem wf2 : W32 [-77, -78] := fun x hx => by
  rcases List.mem_cons.1 hx with h | h
  · omega
  · rw [List.mem_singleton.1 h]; omega

set_option maxHeartbeats 400000 in
theorem lend_any (A : Option Addr) (n c : Nat) (a : List Int) (w : World) (ha : Runes w A n a) (hn : n + 2 ≤ 35184372088832) :
    Calls Try.prog 13 #[.slice A n c] w fun e w' =>
      ∃ g cap, e = .returned (.slice (some ⟨g, 0, none⟩) n cap) ∧ Own w' w.heap.size (some ⟨g, 0, none⟩) (n + 2) cap (a ++ [-77, -78]) ∧ Below w.heap.size w w' := by
  go_enter Try.func13, Try.ntmps13
  go_wp2_with (first
    | (at_builtin
       refine wpList_app0 rfl (.const (.slice none 0 0)) (.tmp 4) rfl w.heap.size rfl rfl ha (by omega) (Nat.le_refl _) ?_
       intro A1 c1 w1 hown1 hb1 _ _)
    | (at_builtin
       go_loud (refine wpList_app rfl (.tmp 5) (.tmp 6) rfl w.heap.size rfl (hown1.alloc _) rfl (Runes.news _ _ _ [-77, -78] rfl wf2) (by omega) (by have := hb1.size; simp; omega) ?_)
       intro A2 c2 w2 hown2 hg2 hb2 _ hsome
       obtain ⟨g, rfl⟩ := hsome (by omega)
       have hcap := hown2.cap))
  go_ret
  refine ⟨g, c2, ?_, hown2, (hb1.alloc hb1.size _).trans (hb2.mono ?_)⟩
  · rfl
  · have := hb1.size; simp; try omega

/-- What was lent is as it was: yes. -/
theorem kept_yes (A B : Option Addr) (n c d : Nat) (a : List Int) (w : World) (ha : Runes w A (n + 2) (a ++ [-77, -78])) (hb : Runes w B n a) (hc : n + 2 ≤ c) (hn : c ≤ 9223372036854775807) :
    Calls Try.prog 20 #[.slice A n c, .slice B n d] w fun e w' => e = .returned (.bool true) ∧ ∃ q, w' = w.drewN q := by
  have hl := hb.len
  obtain ⟨ab, ao, rfl, h1⟩ := ha.at_ n (by omega)
  obtain ⟨ab', ao', e, h2⟩ := ha.at_ (n + 1) (by omega)
  injection e with e
  injection e with e1 e2
  subst e1 e2
  have ha' : Runes w (some ⟨ab, ao, none⟩) n a := by
    have := ha.take (m := n) (by omega)
    rwa [List.take_append_of_le_length (by omega), List.take_of_length_le (by omega)] at this
  have e1 : nth (a ++ [-77, -78]) n = -77 := by rw [nth_right (by omega), hl]; simp [nth]
  have e2 : nth (a ++ [-77, -78]) (n + 1) = -78 := by rw [nth_right (by omega), hl]; simp [nth]
  rw [e1] at h1
  rw [e2] at h2
  have hs : sameS a a = true := by simp [sameS]
  clear e1 e2 hl
  go_enter Try.func20, Try.ntmps20
  go_wp2_with (go_at_call 31; refine (refSame_any (some ⟨ab, ao, none⟩) B n c n d a a w ha' hb (by omega) (by omega)).mono ?_; rw [hs]; rintro e w' ⟨rfl, q, rfl⟩)
  go_ret
  exact ⟨rfl, q, rfl⟩

set_option maxHeartbeats 400000 in
theorem cut_any (A : Option Addr) (n c m : Nat) (w : World) (hc : n ≤ c) (hn : c ≤ 9223372036854775807) (hm : m ≤ 9223372036854775807) :
    Calls Try.prog 32 #[.slice A n c, .int .i64 m] w fun e w' => e = .returned (.slice A (min n m) c) ∧ w = w' := by
  by_cases h : m < n
  · have hmin : min n m = m := by omega
    go_enter Try.func32, Try.ntmps32
    go_wp2
    go_ret
    exact ⟨by rw [hmin]; rfl, rfl⟩
  · have hmin : min n m = n := by omega
    go_enter Try.func32, Try.ntmps32
    go_wp2
    go_ret
    exact ⟨by rw [hmin]; rfl, rfl⟩

/-- Index: a number from 0 to below n, of any number k. -/
def idxN (k : Int) (n : Nat) : Nat := ((bits .and .i64 k 4294967295) % (n : Int)).toNat
theorem and_low (k : Int) : 0 ≤ bits .and .i64 k 4294967295 ∧ bits .and .i64 k 4294967295 ≤ 4294967295 := by
  have h : bits .and .i64 k 4294967295 = IntKind.i64.wrap ((BitVec.ofInt 64 k &&& BitVec.ofInt 64 4294967295).toNat : Int) := rfl
  have hb : (BitVec.ofInt 64 k &&& BitVec.ofInt 64 4294967295).toNat ≤ 4294967295 := by
    rw [BitVec.toNat_and]
    exact Nat.le_trans Nat.and_le_right (by decide)
  rw [h, IntKind.wrap_i64]
  omega
theorem idxN_lt {k : Int} {n : Nat} (h : 0 < n) : idxN k n < n := by
  have h1 := and_low k
  have h2 : (bits .and .i64 k 4294967295) % (n : Int) < n := Int.emod_lt_of_pos _ (by omega)
  have h3 : 0 ≤ (bits .and .i64 k 4294967295) % (n : Int) := Int.emod_nonneg _ (by omega)
  unfold idxN
  omega

set_option maxHeartbeats 400000 in
theorem index_any (k n : Int) (w : World) (h : 0 < n) (hn : n ≤ 9223372036854775807) :
    Calls Try.prog 27 #[.int .i64 k, .int .i64 n] w fun e w' => e = .returned (.int .i64 (idxN k n.toNat)) ∧ w = w' := by
  obtain ⟨n, rfl⟩ := Int.eq_ofNat_of_zero_le (show 0 ≤ n by omega)
  have h1 := and_low k
  have h2 := h1.1
  have hnz : ((n : Int) == 0) = false := by simp; omega
  go_enter Try.func27, Try.ntmps27
  go_wp2
  go_ret
  refine ⟨retI ?_, rfl⟩
  unfold idxN
  rw [Int.toNat_of_nonneg (Int.emod_nonneg _ (by omega))]
  simp

set_option maxHeartbeats 400000 in
/-- Spoil: what was answered, in memory of the law's own, is written over. -/
theorem spoil_any (B : Nat) (A : Option Addr) (n c : Nat) (a : List Int) (w : World) (ha : Own w B A n c a) :
    Calls Try.prog 21 #[.slice A n c] w fun e w' => e = .returned (.tuple #[]) ∧ (∃ l, Own w' B A n c l) ∧ w.grownBy w' (blk A) := by
  have hn : n ≤ 9223372036854775807 := by have := ha.cap; omega
  have HO := hide ha
  clear ha
  go_enter Try.func21, Try.ntmps21
  go_wp2_with fail
  go_loopw [2] (fun i wr => ∃ (k : Nat) (l : List Int), k ≤ n ∧ i = .int .i64 k ∧ Own wr B A n c l ∧ w.grownBy wr (blk A)) (fun i _ => n - (intOf i).toNat)
  case atStart => exact ⟨0, a, Nat.zero_le _, rfl, HO.out, World.grownBy.refl w _⟩
  case round =>
    obtain ⟨k, l, hk, rfl, hown, hgr⟩ := hrel
    have HOW := hide hown
    have HG := hide hgr
    clear hown hgr
    by_cases hlt : k < n
    · rcases HOW.out.form with ⟨_, h0, _⟩ | ⟨g, rfl, _⟩
      · omega
      · have hc := HOW.out.cell hlt
        have hf := HOW.out.frozen k
        go_wp2
        go_roundw
        case rel => exact ⟨k + 1, l.set k (-9), by omega, by go_num, HOW.out.set hlt (by omega), grown_set HG.out _ _⟩
        case measure => simp [intOf]; omega
    · go_wp2
      go_end0
      exact ⟨rfl, ⟨l, HOW.out⟩, HG.out⟩

end Go.Proofs.Ytchcpeenpijekaa
