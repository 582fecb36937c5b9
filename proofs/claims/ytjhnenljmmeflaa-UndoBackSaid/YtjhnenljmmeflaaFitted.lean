/- What a statement 'c := Fit(..)' leaves, whatever order Go takes: a block with the change in it. -/
import Derived.Test.YtjhnenljmmeflaaInts
import Derived.Test.YtjhnenljmmeflaaFit
namespace Go.Proofs.Ytjhnenljmmeflaa
open Go.RowKit
set_option linter.unusedVariables false

def Fitted (W : World) (a : Nat) (dc dp : List Int) (v : Value) (W' : World) : Prop :=
  ∃ (g : Nat) (C : Option Addr) (n c : Nat) (P : Option Addr) (m p : Nat), v = .pointer (some ⟨g, 0, none⟩) ∧ Box W' g 31 #[.int .i64 a, .slice C n c, .slice P m p] ∧
    Own W' W.heap.size C n c dc ∧ Own W' W.heap.size P m p dp ∧ Apart C P ∧ Below W.heap.size W W' ∧ W.heap.size ≤ g

theorem fitted1 {W w5 : World} {a B : Nat} {dc dp : List Int} {C P : Option Addr} {n c m p : Nat} (hC : Own w5 B C n c dc) (hP : Own w5 B P m p dp) (hap : Apart C P) (hb : Below W.heap.size W w5) (hB : W.heap.size ≤ B) :
    Fitted W a dc dp (.pointer (some ⟨w5.heap.size, 0, none⟩)) (w5.alloc (.cells #[.int .i64 a, .slice C n c, .slice P m p] 31)) :=
  ⟨_, C, n, c, P, m, p, rfl, Box.new _ _ _, (hC.alloc _).mono hB, (hP.alloc _).mono hB, hap, hb.alloc hb.size _, hb.size⟩
theorem fitted2 {W w5 : World} {a B g : Nat} {dc dp : List Int} {C P : Option Addr} {n c m p : Nat} {cs : Array Value} (hC : Own w5 B C n c dc) (hP : Own w5 B P m p dp) (hap : Apart C P) (hb : Below W.heap.size W w5) (hg : W.heap.size ≤ g) (hB : g + 1 ≤ B)
    (hx : Box w5 g 31 cs) (hcs : cs.size = 3) :
    Fitted W a dc dp (.pointer (some ⟨g, 0, none⟩)) (((w5.setCell ⟨g, 0, none⟩ (.int .i64 a)).setCell ⟨g, 1, none⟩ (.slice C n c)).setCell ⟨g, 2, none⟩ (.slice P m p)) := by
  have e1 : blk C ≠ some g := fun e => by have := (hC.blk_ge _ e).1; omega
  have e2 : blk P ≠ some g := fun e => by have := (hP.blk_ge _ e).1; omega
  have hbx := ((hx.set 0 (.int .i64 a)).set 1 (.slice C n c)).set 2 (.slice P m p)
  have ecs : ((cs.setIfInBounds 0 (.int .i64 a)).setIfInBounds 1 (.slice C n c)).setIfInBounds 2 (.slice P m p) = #[.int .i64 a, .slice C n c, .slice P m p] := by
    obtain ⟨l⟩ := cs
    match l, hcs with
    | [x, y, z], _ => rfl
  rw [ecs] at hbx
  exact ⟨_, C, n, c, P, m, p, rfl, hbx, (hC.far3 e1 _ _ _).mono (by omega), (hP.far3 e2 _ _ _).mono (by omega), hap, below3 hb hg _ _ _, hg⟩
end Go.Proofs.Ytjhnenljmmeflaa
