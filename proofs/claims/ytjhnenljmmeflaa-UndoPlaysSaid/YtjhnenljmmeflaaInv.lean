/- Contracts of SameChange, change.Invert, standishref1.Invert, standishlaw5.spoil, standishkeep.Fit. -/
import Derived.Test.YtjhnenljmmeflaaChg
namespace Go.Proofs.Ytjhnenljmmeflaa
open Go.RowKit
set_option linter.unusedVariables false

theorem below_drewN {B : Nat} {a w : World} (h : Below B a w) (n : Nat) : Below B a (w.drewN n) := ⟨h.os, h.tape, h.output, h.size, h.block⟩

theorem refSame_yes (A B : Option Addr) (n c m d : Nat) (a : List Int) (w : World) (ha : Runes w A n a) (hb : Runes w B m a) (hn : n ≤ 9223372036854775807) :
    ∀ W, Below w.heap.size w W → Calls Try.prog 22 #[.slice A n c, .slice B m d] W fun e w' => e = .returned (.bool true) ∧ ∃ q, w' = W.drewN q := fun W hW => by
  have h := refSame_any A B n c m d a a W (ha.below hW) (hb.below hW) hn (by rw [← hb.len, ha.len]; exact hn)
  rwa [show sameS a a = true from by simp [sameS]] at h

set_option maxHeartbeats 1000000 in
theorem sameChange_yes (at_ : Int) (C P C' P' : Option Addr) (n c m d n' c' m' d' : Nat) (cut put : List Int) (w : World) (hC : Runes w C n cut) (hP : Runes w P m put) (hC' : Runes w C' n' cut) (hP' : Runes w P' m' put)
    (hn : n ≤ 9223372036854775807) (hm : m ≤ 9223372036854775807) :
    Calls Try.prog 37 #[.agg #[.int .i64 at_, .slice C n c, .slice P m d], .agg #[.int .i64 at_, .slice C' n' c', .slice P' m' d']] w fun e w' => e = .returned (.bool true) ∧ Below w.heap.size w w' := by
  have H1 := hide (refSame_yes C C' n c n' c' cut w hC hC' hn)
  have H2 := hide (refSame_yes P P' m d m' d' put w hP hP' hm)
  clear hC hP hC' hP'
  have HB := hide (((Below.refl w.heap.size w).alloc (Nat.le_refl _) (.cells #[.int .i64 at_, .slice C n c, .slice P m d] 31)).alloc (by simp) (.cells #[.int .i64 at_, .slice C' n' c', .slice P' m' d'] 31))
  go_enter Try.func37, Try.ntmps37
  go_wp2_with fail
  refine (H1.out _ HB.out).mono ?_
  rintro e w1 ⟨rfl, q, rfl⟩
  go_wp2_with fail
  refine (H2.out _ (below_drewN HB.out q)).mono ?_
  rintro e w1 ⟨rfl, q', rfl⟩
  go_wp2_with fail
  go_ret
  exact ⟨rfl, below_drewN HB.out (q + q')⟩

set_option maxHeartbeats 1000000 in
theorem rinvert_any (at_ : Int) (C P : Option Addr) (n c m d : Nat) (cut put : List Int) (w : World) (hC : Runes w C n cut) (hP : Runes w P m put) (hn : n ≤ 35184372088832) (hm : m ≤ 35184372088832) :
    Calls Try.prog 60 #[.agg #[.int .i64 at_, .slice C n c, .slice P m d]] w (NewC w at_ put cut) := by
  have H := hide (fun W (hb : Below w.heap.size w W) => copied_any at_ P C m d n c put cut W (hP.below hb) (hC.below hb) hm hn)
  have HB := hide (((Below.refl w.heap.size w).alloc (Nat.le_refl _) (.cells #[.int .i64 at_, .slice C n c, .slice P m d] 31)).alloc (by simp) (.cells #[.int .i64 0, .slice none 0 0, .slice none 0 0] 31))
  clear hC hP
  go_enter Try.func60, Try.ntmps60
  go_wp2_with fail
  refine (H.out _ HB.out).mono ?_
  rintro e w1 ⟨A1, n1, c1, A2, n2, c2, rfl, hown1, hown2, hap, hb1⟩
  have hy := (Box.newAt (World.size_alloc w (.cells #[.int .i64 at_, .slice C n c, .slice P m d] 31)) 31 #[.int .i64 0, .slice none 0 0, .slice none 0 0]).below hb1
  obtain ⟨⟨l0, l1, l2⟩, l3, l4, l5⟩ := hy.c3
  have HY := hide ((((hy.set 0 (.int .i64 at_)).set 1 (.slice A1 n1 c1)).set 2 (.slice A2 n2 c2)).c3)
  have hge1 := hown1.blk_ge
  have hge2 := hown2.blk_ge
  simp only [World.size_alloc] at hge1 hge2
  have HF := hide (show NewC w at_ put cut (.returned (.agg #[.int .i64 at_, .slice A1 n1 c1, .slice A2 n2 c2])) (((w1.setCell ⟨w.heap.size + 1, 0, none⟩ (.int .i64 at_)).setCell ⟨w.heap.size + 1, 1, none⟩ (.slice A1 n1 c1)).setCell ⟨w.heap.size + 1, 2, none⟩ (.slice A2 n2 c2)) from
    ⟨A1, n1, c1, A2, n2, c2, rfl, (hown1.mono (by simp; omega)).far3 (g := w.heap.size + 1) (fun e => by have := hge1 _ e; omega) _ _ _, (hown2.mono (by simp; omega)).far3 (g := w.heap.size + 1) (fun e => by have := hge2 _ e; omega) _ _ _, hap,
      below3 (HB.out.trans (hb1.mono (by simp; omega))) (Nat.le_succ _) _ _ _⟩)
  clear hown1 hown2 hb1 hap hy hge1 hge2
  go_wp2_with fail
  obtain ⟨⟨r0, r1, r2⟩, _⟩ := HY.out
  exact bodyPost_ret (v := .agg #[.int .i64 at_, .slice A1 n1 c1, .slice A2 n2 c2]) (by simp [results, Try.results60, go_sem, r0, r1, r2]) rfl HF.out

set_option maxHeartbeats 1000000 in
theorem cinvert_any (at_ : Int) (C P : Option Addr) (n c m d : Nat) (cut put : List Int) (w : World) (hC : Runes w C n cut) (hP : Runes w P m put) (hn : n ≤ 35184372088832) (hm : m ≤ 35184372088832) :
    Calls Try.prog 59 #[.agg #[.int .i64 at_, .slice C n c, .slice P m d]] w (NewC w at_ put cut) := by
  have HC := hide (fun W (hb : Below w.heap.size w W) => clone_any C n c cut W (hC.below hb) hn)
  have HP := hide (fun W (hb : Below w.heap.size w W) => clone_any P m d put W (hP.below hb) hm)
  have HB := hide (((Below.refl w.heap.size w).alloc (Nat.le_refl _) (.cells #[.int .i64 at_, .slice C n c, .slice P m d] 31)).alloc (by simp) (.cells #[.int .i64 0, .slice none 0 0, .slice none 0 0] 31)).drew
  have HX := hide (((Box.new w 31 #[.int .i64 at_, .slice C n c, .slice P m d]).alloc (.cells #[.int .i64 0, .slice none 0 0, .slice none 0 0] 31)).drew)
  have HY := hide ((Box.newAt (World.size_alloc w (.cells #[.int .i64 at_, .slice C n c, .slice P m d] 31)) 31 #[.int .i64 0, .slice none 0 0, .slice none 0 0]).drew)
  clear hC hP
  go_enter Try.func59, Try.ntmps59
  go_wp2_with fail
  go_region_held3 (fun w' => w'.cell? ⟨w.heap.size, 0, none⟩ = some (.int .i64 at_) ∧ w'.cell? ⟨w.heap.size, 1, none⟩ = some (.slice C n c) ∧ w'.cell? ⟨w.heap.size, 2, none⟩ = some (.slice P m d))
    (first | go_keep)
    (first
     | (go_at_call 61; refine (HP.out _ HB.out).mono ?_
        rintro e w1 ⟨A1, n1, c1, rfl, hown1, hb1⟩
        obtain ⟨⟨f0, f1, f2⟩, _⟩ := (HX.out.below hb1).c3)
     | (go_at_call 61; refine (HC.out _ (HB.out.trans (hb1.mono (by simp; omega)))).mono ?_
        rintro e w2 ⟨A2, n2, c2, rfl, hown2, hb2⟩
        obtain ⟨⟨k0, k1, k2⟩, _⟩ := ((HX.out.below hb1).below hb2).c3
        obtain ⟨⟨l0, l1, l2⟩, l3, l4, l5⟩ := ((HY.out.below hb1).below hb2).c3))
  have HZ := hide (((((HY.out.below hb1).below hb2).set 0 (.int .i64 at_)).set 1 (.slice A1 n1 c1)).set 2 (.slice A2 n2 c2)).c3
  have hge1 := hown1.blk_ge
  have hge2 := hown2.blk_ge
  simp only [World.size_alloc, World.size_drew] at hge1
  have hz1 := hb1.size
  simp only [World.size_alloc, World.size_drew] at hz1
  have HF := hide (show NewC w at_ put cut (.returned (.agg #[.int .i64 at_, .slice A1 n1 c1, .slice A2 n2 c2])) (((w2.setCell ⟨w.heap.size + 1, 0, none⟩ (.int .i64 at_)).setCell ⟨w.heap.size + 1, 1, none⟩ (.slice A1 n1 c1)).setCell ⟨w.heap.size + 1, 2, none⟩ (.slice A2 n2 c2)) from
    ⟨A1, n1, c1, A2, n2, c2, rfl, ((hown1.below hb2).mono (by simp; omega)).far3 (g := w.heap.size + 1) (fun e => by have := hge1 _ e; omega) _ _ _, (hown2.mono (by omega)).far3 (g := w.heap.size + 1) (fun e => by have := hge2 _ e; omega) _ _ _,
      apart_of (fun g hg => (hge1 g hg).2) (fun g hg => (hge2 g hg).1),
      below3 ((HB.out.trans (hb1.mono (by simp; omega))).trans (hb2.mono (by omega))) (Nat.le_succ _) _ _ _⟩)
  clear hown1 hown2 hb1 hb2 hge1 hge2
  go_wp2_with fail
  obtain ⟨⟨r0, r1, r2⟩, _⟩ := HZ.out
  exact bodyPost_ret (v := .agg #[.int .i64 at_, .slice A1 n1 c1, .slice A2 n2 c2]) (by simp [results, Try.results59, go_sem, r0, r1, r2]) rfl HF.out

end Go.Proofs.Ytjhnenljmmeflaa
