/- Contracts of functions on changes (layer 5 and its reference). -/
import Derived.Test.YtjhnenljmmeflaaText
namespace Go.Proofs.Ytjhnenljmmeflaa
open Go.RowKit
set_option linter.unusedVariables false

def NewC (w : World) (at_ : Int) (cut put : List Int) (e : Ending) (w' : World) : Prop :=
  ∃ C n c P m d, e = .returned (.agg #[.int .i64 at_, .slice C n c, .slice P m d]) ∧ Own w' w.heap.size C n c cut ∧ Own w' w.heap.size P m d put ∧ Apart C P ∧ Below w.heap.size w w'

set_option maxHeartbeats 400000 in
theorem copied_any (at_ : Int) (C P : Option Addr) (n c m d : Nat) (cut put : List Int) (w : World) (hC : Runes w C n cut) (hP : Runes w P m put) (hn : n ≤ 35184372088832) (hm : m ≤ 35184372088832) :
    Calls Try.prog 32 #[.agg #[.int .i64 at_, .slice C n c, .slice P m d]] w (NewC w at_ cut put) := by
  go_enter Try.func32, Try.ntmps32
  go_wp2_with fail
  go_region_held3 (fun w' => w'.cell? ⟨w.heap.size, 0, none⟩ = some (.int .i64 at_) ∧ w'.cell? ⟨w.heap.size, 1, none⟩ = some (.slice C n c) ∧ w'.cell? ⟨w.heap.size, 2, none⟩ = some (.slice P m d))
    (first | go_keep)
    (first
     | (refine step_app0 (by rfl) (.const (.slice none 0 0)) (.tmp 6) (by rfl) w.heap.size (by rfl) (by rfl) ((hC.alloc _).alloc _).drew (by omega) (by simp; omega) ?_; intro A1 c1 w1 hown1 hb1 hat1 hsome1
        have hx1 : Box w1 w.heap.size 31 _ := (((Box.new w _ _).alloc _).drew).below hb1
        have hy1 : Box w1 (w.heap.size + 1) 31 _ := ((Box.newAt (World.size_alloc _ _) _ _).drew).below hb1
        obtain ⟨⟨f0, f1, f2⟩, f3⟩ := hx1.c3)
     | (refine step_app0 (by rfl) (.const (.slice none 0 0)) (.tmp 9) (by rfl) w.heap.size (by rfl) (by rfl) (((hP.alloc _).alloc _).drew.below hb1) (by omega) (by have := hx1.lt; omega) ?_; intro A2 c2 w2 hown2 hb2 hat2 hsome2
        obtain ⟨⟨k0, k1, k2⟩, k3⟩ := (hx1.below hb2).c3
        obtain ⟨⟨l0, l1, l2⟩, l3, l4, l5⟩ := (hy1.below hb2).c3))
  have HY := hide (((((hy1.below hb2).set 0 (.int .i64 at_)).set 1 (.slice A1 n c1)).set 2 (.slice A2 m c2)).c3)
  have hz1 := hb1.size
  simp only [World.size_drew, World.size_alloc] at hz1 hat1
  have ho1 := ((hown1.below hb2).far3 (g := w.heap.size + 1) (fun e => by have := hat1 _ e; omega) (.int .i64 at_) (.slice A1 n c1) (.slice A2 m c2))
  have ho2 := (hown2.far3 (g := w.heap.size + 1) (fun e => by have := hat2 _ e; omega) (.int .i64 at_) (.slice A1 n c1) (.slice A2 m c2))
  have hap : Apart A1 A2 := apart_of (fun g hg => (hown1.blk_ge g hg).2) hat2
  have hbe := below3 (((((Below.refl w.heap.size w).alloc (Nat.le_refl _) (.cells #[.int .i64 at_, .slice C n c, .slice P m d] 31)).alloc (by simp) (.cells #[.int .i64 0, .slice none 0 0, .slice none 0 0] 31)).drew.trans (hb1.mono (by simp; omega))).trans (hb2.mono (by omega))) (Nat.le_succ _) (.int .i64 at_) (.slice A1 n c1) (.slice A2 m c2)
  have HF := hide (And.intro ho1 (And.intro ho2 (And.intro hap hbe)))
  clear hx1 hy1 hb1 hb2 hat1 hat2 hsome1 hsome2 ho1 ho2 hap hbe hown1 hown2
  go_wp2
  obtain ⟨⟨r0, r1, r2⟩, _⟩ := HY.out
  refine bodyPost_ret (v := .agg #[.int .i64 at_, .slice A1 n c1, .slice A2 m c2]) (by simp [results, Try.results32, go_sem, r0, r1, r2]) rfl ?_
  exact ⟨A1, n, c1, A2, m, c2, rfl, HF.out⟩

/-- May a change be done to a text? -/
def fitC (k : Nat) (at_ : Int) (n m : Nat) : Bool := decide (0 ≤ at_ ∧ at_ + n ≤ k ∧ k ≤ 1000 ∧ m + k ≤ 1000 + n)
def mayC (s : List Int) (at_ : Int) (cut put : List Int) : Bool :=
  fitC s.length at_ cut.length put.length && (sameS ((s.drop at_.toNat).take cut.length) cut && mayS cut && mayS put)

set_option maxHeartbeats 400000 in
theorem cmay_out (S : Option Addr) (k d : Nat) (at_ : Int) (C P : Option Addr) (n c m e' : Nat) (w : World) (hk : k ≤ 35184372088832) (hn : n ≤ 35184372088832) (hm : m ≤ 35184372088832)
    (hat : -9223372036854775808 ≤ at_ ∧ at_ ≤ 9223372036854775807) (h : ¬ (0 ≤ at_ ∧ at_ + n ≤ k ∧ k ≤ 1000 ∧ m + k ≤ 1000 + n)) :
    Calls Try.prog 58 #[.slice S k d, .agg #[.int .i64 at_, .slice C n c, .slice P m e']] w fun e w' => e = .returned (.bool false) ∧ Below w.heap.size w w' := by
  go_enter Try.func58, Try.ntmps58
  go_wp2
  all_goals go_ret
  all_goals exact ⟨rfl, (Below.refl _ _).alloc (Nat.le_refl _) _⟩

set_option maxHeartbeats 1000000 in
theorem cmay_fit (S : Option Addr) (k d a : Nat) (C P : Option Addr) (n c m e' : Nat) (x cut put : List Int) (w : World) (hX : Runes w (sub S d a) n x) (hC : Runes w C n cut) (hP : Runes w P m put)
    (h1 : a + n ≤ k) (h2 : k ≤ 1000) (h3 : m + k ≤ 1000 + n) (hd : k ≤ d) (hd2 : d ≤ 9223372036854775807) :
    Calls Try.prog 58 #[.slice S k d, .agg #[.int .i64 a, .slice C n c, .slice P m e']] w fun e w' => e = .returned (.bool (sameS x cut && mayS cut && mayS put)) ∧ Below w.heap.size w w' := by
  have hsl := run_sub_lh S k d a n (by omega)
  have hb1 : decide ((a : Int) < 0) = false := by simp
  have hb2 : decide (k < a) = false := by simp; omega
  have hb3 : decide ((k : Int) - a < n) = false := by simp; omega
  have hb4 : decide (1000 < (k : Int)) = false := by simp; omega
  have hb5 : decide (1000 - ((k : Int) - n) < m) = false := by simp; omega
  have hs1 : IntKind.i64.wrap ((a : Int) + n) = (a : Int) + n := IntWalk.i64_in _ (by omega)
  have hs2 : (0 : Int) ≤ (a : Int) + n := by omega
  cases q1 : sameS x cut
  case' true => cases q2 : mayS cut
  all_goals
    go_enter Try.func58, Try.ntmps58
    go_wp2_with fail
    go_quiet ((first
      | (go_at_call 68; exact Calls.quiet_of (same_any _ _ _ _ _ _ x cut _ ((hX.alloc _).drewN _) ((hC.alloc _).drewN _) (by omega) (by omega)))
      | (go_at_call 69; exact Calls.quiet_of_same ((may_any C n c cut _ ((hC.alloc _).drewN _) (by omega)).mono fun _ _ h => ⟨h.1, h.2.symm⟩))
      | (go_at_call 69; exact Calls.quiet_of_same ((may_any P m e' put _ ((hP.alloc _).drewN _) (by omega)).mono fun _ _ h => ⟨h.1, h.2.symm⟩))))
    go_wp2
    go_ret
    exact ⟨rfl, ((Below.refl _ _).alloc (Nat.le_refl _) _).trans ⟨rfl, rfl, rfl, Nat.le_refl _, fun _ _ => rfl⟩⟩

end Go.Proofs.Ytjhnenljmmeflaa
