/- slices.Backward at changes: the iterator's contract. -/
import Derived.Test.YtjhnenljmmeflaaBack
import Derived.RangeFuncNested
import Derived.RangeFuncBox
import Derived.RangeFuncLeaves
import Derived.Shelf.Abstract
import Derived.OwnWalkIn
import Derived.TacticsInMore
import Derived.LoopNIn
import Derived.LoopIn
namespace Go.Proofs.Ytjhnenljmmeflaa
open Go.RowKit Go.Shelf
set_option linter.unusedVariables false
attribute [local go_sem] Oper.semAt_some

/-- What has come when r are left: n - 1, .., r. -/
def downTo (n r : Nat) : List (Fin n) := ((List.finRange n).drop r).reverse
theorem downTo_step {n r : Nat} (h : r < n) : downTo n r = downTo n (r + 1) ++ [⟨r, h⟩] := by
  unfold downTo
  rw [List.drop_eq_getElem_cons (by simpa using h)]
  simp
theorem downTo_start (n : Nat) : downTo n n = [] := by
  unfold downTo
  rw [List.drop_of_length_le (by simp)]
  rfl
theorem downTo_len {n r : Nat} (h : r ≤ n) : (downTo n r).length = n - r := by simp [downTo]

abbrev aggC (v : CV) : Value := .agg #[.int .i64 v.at_, .slice v.C v.n v.c, .slice v.P v.m v.d]
/-- What a round keeps: all below n₀, and the block Bs. -/
def KpB (n₀ Bs : Nat) (A B : World) : Prop := Below n₀ A B ∧ B.heap[Bs]? = A.heap[Bs]?
theorem KpB.refl (n₀ Bs : Nat) (A : World) : KpB n₀ Bs A A := ⟨Below.refl _ _, rfl⟩
theorem KpB.t {n₀ Bs : Nat} {A B C : World} (h : KpB n₀ Bs A B) (k : KpB n₀ Bs B C) : KpB n₀ Bs A C := ⟨h.1.trans k.1, k.2.trans h.2⟩

set_option maxRecDepth 100000 in
set_option maxHeartbeats 2000000 in
theorem backward1_in (F : Fence) (n : Nat) (hf : F.fn 71) (hro : F.round = none) (hn : 1 ≤ n) (l Bs n₀ : Nat) (A : Option Addr) (len cap : Nat) (us : Nat → CV) (hlen : len ≤ 2513167470000)
    (J Jx : List (Fin len) → World → Prop)
    (hY : ∀ pre x W, J pre W → pre.length < len → YieldAt F (n - 1) Try.prog l #[.int .i64 ((x.1 : Nat) : Int), aggC (us x.1)] W fun e W' =>
      (e = .returned (.bool true) ∧ J (pre ++ [x]) W' ∧ KpB n₀ Bs W W') ∨ (e = .returned (.bool false) ∧ Jx (pre ++ [x]) W'))
    (W : World) (hBs : W.cell? ⟨Bs, 0, none⟩ = some (.slice A len cap))
    (hc : ∀ j, j < len → ∃ b o, A = some ⟨b, o, none⟩ ∧ b < n₀ ∧ W.cell? ⟨b, o + j * 3, none⟩ = some (.int .i64 (us j).at_) ∧ W.cell? ⟨b, o + j * 3 + 1, none⟩ = some (.slice (us j).C (us j).n (us j).c) ∧
      W.cell? ⟨b, o + j * 3 + 2, none⟩ = some (.slice (us j).P (us j).m (us j).d)) (h0 : J [] W) :
    CallsIn F n Try.prog 71 #[.func (.yield l) #[] #[], .pointer (some ⟨Bs, 0, none⟩)] W fun e W' => (∃ v, e = .returned v) ∧
      ((∃ ys, ys = downTo len 0 ∧ J ys W') ∨ (∃ pre, True ∧ Jx pre W')) := by
  refine callsIn_of_wp Try.func71 rfl hf ?_ hro
  simp only [Try.ntmps71, List.size_toArray, List.length_cons, List.length_nil, Nat.reduceAdd, Nat.reduceSub, Array.replicate_succ, Array.replicate_zero, List.push_toArray, List.append_toArray, List.nil_append, List.cons_append]
  gi_wp2
  gi_loopw [3] (fun i wr => ∃ r : Nat, r ≤ len ∧ i = .int .i64 ((r : Int) - 1) ∧ J (downTo len r) wr ∧ KpB n₀ Bs W wr)
    (fun i _ => (intOf i + 1).toNat)
  case atStart => exact ⟨len, Nat.le_refl _, rfl, by rw [downTo_start]; exact h0, KpB.refl _ _ _⟩
  case round =>
    obtain ⟨r, hr, rfl, hJs, hnx⟩ := hrel
    by_cases hpos : 0 < r
    · obtain ⟨r, rfl⟩ : ∃ j, r = j + 1 := ⟨r - 1, by omega⟩
      have e1 : ((r + 1 : Nat) : Int) - 1 = (r : Int) := by omega
      have hlt : r < len := by omega
      obtain ⟨fn, tmps, assign, body, hy, hR⟩ := hY _ ⟨r, hlt⟩ wr hJs (by rw [downTo_len (by omega)]; omega)
      dsimp only [aggC] at hy
      obtain ⟨b, o, rfl, hb, c1, c2, c3⟩ := hc r hlt
      have d0 := (World.cell?_of_block (a := ⟨Bs, 0, none⟩) hnx.2).trans hBs
      have d1 := (hnx.1.cell (p := ⟨b, o + r * 3, none⟩) hb).trans c1
      have d2 := (hnx.1.cell (p := ⟨b, o + r * 3 + 1, none⟩) hb).trans c2
      have d3 := (hnx.1.cell (p := ⟨b, o + r * 3 + 2, none⟩) hb).trans c3
      have HNX := hide hnx
      have HC := hide hc
      have HJ := hide hJs
      clear hnx hc hJs c1 c2 c3 hBs
      rw [e1]
      clear e1
      gi_wp2
      refine hR.mono ?_
      rintro e W3 (⟨rfl, hJ3, hk3⟩ | ⟨rfl, hJx3⟩)
      · gi_wp2
        go_roundw
        case rel => exact ⟨r, by omega, rfl, by rw [downTo_step hlt]; exact hJ3, HNX.out.t hk3⟩
        case measure => simp [intOf]
      · gi_wp2
        refine bodyPost_ret (results_none rfl _ _ _) rfl ?_
        exact ⟨⟨_, rfl⟩, .inr ⟨_, trivial, hJx3⟩⟩
    · obtain rfl : r = 0 := by omega
      gi_wp2
      go_end0
      exact ⟨⟨_, rfl⟩, .inl ⟨_, rfl, hJs⟩⟩

set_option maxHeartbeats 1000000 in
theorem backward_in (F : Fence) (n : Nat) (hf : F.fn 63) (hro : F.round = none) (A : Option Addr) (len cap : Nat) (w : World) :
    CallsIn F n Try.prog 63 #[.slice A len cap] w fun e w' => e = .returned (.func (.func 71) #[] #[.pointer (some ⟨w.heap.size, 0, none⟩)]) ∧ w.alloc (.cells #[.slice A len cap] 29) = w' := by
  refine callsIn_of_wp Try.func63 rfl hf ?_ hro
  simp only [Try.ntmps63, List.size_toArray, List.length_cons, List.length_nil, Nat.reduceAdd, Nat.reduceSub, Array.replicate_succ, Array.replicate_zero, List.push_toArray, List.append_toArray, List.nil_append, List.cons_append]
  gi_wp2
  go_ret
  exact ⟨rfl, rfl⟩

/-- slices.Backward hands back an iterator that calls the round at the last element first. -/
theorem backward_stops (F : Fence) (n : Nat) (hf : F.fn 71) (hro : F.round = none) (hn : 1 ≤ n) (Bs n₀ : Nat) (A : Option Addr) (len cap : Nat) (us : Nat → CV) (hlen : len ≤ 2513167470000) (w : World) (hBs : Bs < w.heap.size) (hn₀ : n₀ ≤ w.heap.size)
    (hb : w.cell? ⟨Bs, 0, none⟩ = some (.slice A len cap))
    (hc : ∀ j, j < len → ∃ b o, A = some ⟨b, o, none⟩ ∧ b < n₀ ∧ w.cell? ⟨b, o + j * 3, none⟩ = some (.int .i64 (us j).at_) ∧ w.cell? ⟨b, o + j * 3 + 1, none⟩ = some (.slice (us j).C (us j).n (us j).c) ∧
      w.cell? ⟨b, o + j * 3 + 2, none⟩ = some (.slice (us j).P (us j).m (us j).d)) :
    SeqStopsK F n Try.prog 71 #[.pointer (some ⟨Bs, 0, none⟩)] (fun x : Fin len => #[Value.int .i64 (x.1 : Int), aggC (us x.1)]) (KpB n₀ Bs) (fun ys => ys = downTo len 0) (fun _ => True) len w := fun l J Jx W hW _ _ hY h0 =>
  backward1_in F n hf hro hn l Bs n₀ A len cap us hlen J Jx hY W ((hW.cell (p := ⟨Bs, 0, none⟩) hBs).trans hb)
    (fun j hj => by
      obtain ⟨b, o, h1, h2, h3, h4, h5⟩ := hc j hj
      have hlt : b < w.heap.size := by omega
      exact ⟨b, o, h1, h2, (hW.cell (p := ⟨b, _, none⟩) hlt).trans h3, (hW.cell (p := ⟨b, _, none⟩) hlt).trans h4, (hW.cell (p := ⟨b, _, none⟩) hlt).trans h5⟩) h0
end Go.Proofs.Ytjhnenljmmeflaa
