/- The contract of standishlaw28.known: it answers true. -/
import Derived.Test.YtjhnenljmmeflaaUndoK
namespace Go.Proofs.Ytjhnenljmmeflaa
open Go.RowKit
set_option linter.unusedVariables false

def gsA : List Grp := addG [root0] 0 [litC 1 120] 7
def gsB : List Grp := addG gsA 0 [litC 1 120, litC 1 120] 8

set_option maxRecDepth 100000 in
set_option maxHeartbeats 8000000 in
theorem known28_any (w : World) : Calls Try.prog 24 #[] w fun e w' => e = .returned (.bool true) ∧ Below w.heap.size w w' := by
  go_enter Try.func24, Try.ntmps24
  go_wp2_with fail
  refine (new_any _).mono ?_
  rintro e w1 ⟨t, rfl, h1, hb1⟩
  obtain ⟨hT1, -⟩ := Tr.start h1 hb1 (Below.refl w.heap.size w) (Nat.le_refl _)
  generalize (fun g => w.heap.size ≤ g ∧ g < w1.heap.size) = P1 at hT1
  have HT1 := hide hT1
  clear h1 hb1 hT1
  obtain ⟨g, hg⟩ : ∃ g, w1.heap.size = g := ⟨_, rfl⟩
  have hX0 := Box.newAt hg 21 #[.int .i32 120]
  have hs2 : (w1.alloc (.cells #[.int .i32 120] 21)).heap.size = g + 1 := by simp [hg]
  have hY0 := Box.newAt hs2 31 #[.int .i64 1, .slice none 0 0, .slice (some ⟨g, 0, none⟩) 1 1]
  have hbl : Below w1.heap.size w1 ((w1.alloc (.cells #[.int .i32 120] 21)).alloc (.cells #[.int .i64 1, .slice none 0 0, .slice (some ⟨g, 0, none⟩) 1 1] 31)) := ((Below.refl _ _).alloc (Nat.le_refl _) _).alloc (by simp) _
  have hX1 := hX0.alloc (.cells #[.int .i64 1, .slice none 0 0, .slice (some ⟨g, 0, none⟩) 1 1] 31)
  have ox1 := Tr.off HT1.out.tree hbl (b := g) (by omega) hX1.lt
  have oy1 := Tr.off HT1.out.tree hbl (b := g + 1) (by omega) hY0.lt
  have HT2 := hide (HT1.out.next (Nat.le_refl _) hbl).1
  have HX := hide hX1
  have HY := hide hY0
  have HOX := hide ox1
  have HOY := hide oy1
  obtain ⟨⟨l0, l1, l2⟩, -⟩ := hY0.c3
  clear hX0 hY0 hX1 ox1 oy1 hbl hs2
  go_wp2_with fail
  generalize ((w1.alloc (.cells #[.int .i32 120] 21)).alloc (.cells #[.int .i64 1, .slice none 0 0, .slice (some ⟨g, 0, none⟩) 1 1] 31)) = W2 at HT2 HX HY HOX HOY l0 l1 l2 ⊢
  clear l0 l1 l2 hg HT1 w1
  -- no
  refine (undo_root W2 P1 t _ HT2.out.tree).mono ?_
  intro e w3 hm3
  obtain ⟨A3, n3, c3, vs3, rfl, -, -, -, hT3, hst3, -, rfl⟩ := HT2.out.move (Nat.le_refl _) hm3
  obtain ⟨hX3, hOX3⟩ := hst3.box HX.out HOX.out
  obtain ⟨hY3, hOY3⟩ := hst3.box HY.out HOY.out
  clear HX HY HOX HOY HT2 hm3 hst3
  have HT3 := hide hT3
  have HX := hide hX3
  have HY := hide hY3
  have HOX := hide hOX3
  have HOY := hide hOY3
  obtain ⟨⟨l0, l1, l2⟩, -⟩ := hY3.c3
  clear hT3 hX3 hY3 hOX3 hOY3
  -- a
  obtain ⟨z, hz⟩ : ∃ z, w3.heap.size = z := ⟨_, rfl⟩
  have hbl : Below w3.heap.size w3 (w3.alloc (.cells #[.int .i64 1, .slice none 0 0, .slice (some ⟨g, 0, none⟩) 1 1] 31)) := (Below.refl _ _).alloc (Nat.le_refl _) _
  have HZ := hide (Box.newAt hz 31 #[.int .i64 1, .slice none 0 0, .slice (some ⟨g, 0, none⟩) 1 1])
  have HOZ := hide (Tr.off HT3.out.tree hbl (b := z) (by omega) HZ.out.lt)
  have HTS := hide (HT3.out.next (Nat.le_refl _) hbl)
  have HX4 := hide (HTS.out.2.box HX.out HOX.out)
  have HY4 := hide (HTS.out.2.box HY.out HOY.out)
  clear hbl
  go_wp2_with fail
  generalize (w3.alloc (.cells #[.int .i64 1, .slice none 0 0, .slice (some ⟨g, 0, none⟩) 1 1] 31)) = W4 at HTS HZ HOZ HX4 HY4 ⊢
  refine (add_any W4 P1 t [root0] [root0] 0 0 _ 1 1 _ [litC 1 120] 7 HTS.out.1.tree (lit1_keeps HZ.out HX4.out.1 HOZ.out HX4.out.2 (by omega) (by omega)) (by omega) (by omega) (by omega) (.inl ⟨by simp, rfl, rfl⟩)).mono ?_
  intro e w5 ha5
  obtain ⟨rfl, P5, hT5, hst5⟩ := HTS.out.1.add (Nat.le_refl _) ha5
  have HX := hide (hst5.box HX4.out.1 HX4.out.2)
  have HY := hide (hst5.box HY4.out.1 HY4.out.2)
  have HT5 := hide (show Tr w.heap.size w w5 P5 t gsA 1 from hT5)
  clear hz HZ HOZ HTS HX4 HY4 HOX HOY HT3 ha5 hT5 hst5 l0 l1 l2
  go_wp2_with fail
  -- l, at, ok
  refine (undo_any w5 P5 t gsA 1 ⟨[litC 1 120], 7, 0, [], 0⟩ HT5.out.tree rfl (by omega)).mono ?_
  intro e w6 hm6
  obtain ⟨A, n, c, vs, rfl, hr6, he6, -, hT6, hst6, hof6, hn6⟩ := HT5.out.move (Nat.le_refl _) hm6
  obtain rfl : n = 1 := hn6
  have HT6 := hide hT6
  have hL : ∃ (a : Nat) (C : Option Addr) (cc : Nat), A = some ⟨a, 0, none⟩ ∧ w6.cell? ⟨a, 1, none⟩ = some (.slice C 1 cc) ∧ Off P5 w6 a := by
    obtain ⟨a, rfl, h1, h2, h3⟩ := hr6.cells_at (j := 0) (by omega)
    obtain ⟨x, hx, ho⟩ := he6.at_ 0 (vget vs 0) (by
      have := hr6.len
      match vs, this with
      | [v], _ => rfl)
    obtain rfl : (⟨1, [120], []⟩ : Chg) = x := by simpa [backC, invC, litC] using hx
    have hn : (vget vs 0).n = 1 := ho.cut.len.symm
    rw [hn] at h2
    have hb := hr6.blk_ge a rfl
    exact ⟨a, _, _, rfl, h2, hof6 a hb.1 hb.2⟩
  obtain ⟨a, C, cc, rfl, hla, hoa⟩ := hL
  have hx6 := hst6.box HX.out.1 HX.out.2
  have hy6 := hst6.box HY.out.1 HY.out.2
  have hcap6 := hr6.cap
  clear hm6 hT6 hr6 he6 hof6 HX HY HT5
  have HX := hide hx6
  have HY := hide hy6
  have HLA := hide hla
  have HOA := hide hoa
  obtain ⟨⟨l0, l1, l2⟩, -⟩ := hy6.1.c3
  clear hx6 hy6 hla hoa
  -- b
  obtain ⟨z, hz⟩ : ∃ z, w6.heap.size = z := ⟨_, rfl⟩
  have hbl : Below w6.heap.size w6 (w6.alloc (.cells #[.int .i64 1, .slice none 0 0, .slice (some ⟨g, 0, none⟩) 1 1, .int .i64 1, .slice none 0 0, .slice (some ⟨g, 0, none⟩) 1 1] 31)) := (Below.refl _ _).alloc (Nat.le_refl _) _
  have HZ := hide (Box.newAt hz 31 #[.int .i64 1, .slice none 0 0, .slice (some ⟨g, 0, none⟩) 1 1, .int .i64 1, .slice none 0 0, .slice (some ⟨g, 0, none⟩) 1 1])
  have HOZ := hide (Tr.off HT6.out.tree hbl (b := z) (by omega) HZ.out.lt)
  have HTS := hide (HT6.out.next (Nat.le_refl _) hbl)
  have HX7 := hide (HTS.out.2.box HX.out.1 HX.out.2)
  have HY7 := hide (HTS.out.2.box HY.out.1 HY.out.2)
  have HLA7 := hide ((HTS.out.2.cell (i := 1) HOA.out).trans HLA.out)
  have HOA7 := hide (HTS.out.2 _ HOA.out).1
  clear hbl
  go_wp2_with fail
  generalize (w6.alloc (.cells #[.int .i64 1, .slice none 0 0, .slice (some ⟨g, 0, none⟩) 1 1, .int .i64 1, .slice none 0 0, .slice (some ⟨g, 0, none⟩) 1 1] 31)) = W7 at HTS HZ HOZ HX7 HY7 HLA7 HOA7 ⊢
  refine (add_any W7 P5 t gsA gsA 0 0 _ 2 2 _ [litC 1 120, litC 1 120] 8 HTS.out.1.tree (lit2_keeps HZ.out HX7.out.1 HOZ.out HX7.out.2 (by omega) (by omega)) (by omega) (by omega) (by omega) (.inl ⟨by decide, rfl, rfl⟩)).mono ?_
  intro e w8 ha8
  obtain ⟨rfl, P8, hT8, hst8⟩ := HTS.out.1.add (Nat.le_refl _) ha8
  have HX := hide (hst8.box HX7.out.1 HX7.out.2)
  have HY := hide (hst8.box HY7.out.1 HY7.out.2)
  have HLA8 := hide ((hst8.cell (i := 1) HOA7.out).trans HLA7.out)
  have HOA8 := hide (hst8 _ HOA7.out).1
  have HT8 := hide (show Tr w.heap.size w w8 P8 t gsB 2 from hT8)
  clear hz HZ HOZ HTS HX7 HY7 HLA7 HOA7 HLA HOA HT6 ha8 hT8 hst8 hst6 l0 l1 l2
  go_wp2_with fail
  -- is
  refine (undo_any w8 P8 t gsB 2 ⟨[litC 1 120, litC 1 120], 8, 0, [], 0⟩ HT8.out.tree rfl (by omega)).mono ?_
  intro e w9 hm9
  obtain ⟨A9, n9, c9, vs9, rfl, -, -, -, hT9, hst9, -, -⟩ := HT8.out.move (Nat.le_refl _) hm9
  have HX9 := hide (hst9.box HX.out.1 HX.out.2)
  have HY9 := hide (hst9.box HY.out.1 HY.out.2)
  have HLA9 := hide ((hst9.cell (i := 1) HOA8.out).trans HLA8.out)
  have HOA9 := hide (hst9 _ HOA8.out).1
  have HT9 := hide hT9
  clear HX HY HLA8 HOA8 HT8 hm9 hT9 hst9
  go_wp2_with fail
  -- k
  refine (kids_any w9 P8 t gsB 0 ⟨[], 0, 0, [1, 2], 1⟩ HT9.out.tree rfl).mono ?_
  rintro e w10 ⟨rfl, q, rfl⟩
  have HTS := hide (HT9.out.next (Nat.le_refl _) (below_drewN (Below.refl _ _) q))
  have HX := hide (HTS.out.2.box HX9.out.1 HX9.out.2)
  have HY := hide (HTS.out.2.box HY9.out.1 HY9.out.2)
  have HLA := hide ((HTS.out.2.cell (i := 1) HOA9.out).trans HLA9.out)
  have HOA := hide (HTS.out.2 _ HOA9.out).1
  generalize w9.drewN q = w10 at HTS HX HY HLA HOA ⊢
  clear HX9 HY9 HLA9 HOA9 HT9
  go_wp2_with fail
  -- m, to, too
  refine (redo_any w10 P8 t gsB 0 2 ⟨[], 0, 0, [1, 2], 1⟩ ⟨[litC 1 120, litC 1 120], 8, 0, [], 0⟩ HTS.out.1.tree rfl rfl rfl).mono ?_
  intro e w11 hm11
  obtain ⟨A11, n11, c11, vs11, rfl, -, -, -, hT11, hst11, -, hn11⟩ := HTS.out.1.move (Nat.le_refl _) hm11
  obtain rfl : n11 = 2 := hn11
  have HT11 := hide hT11
  have HY11 := hide (hst11.box HY.out.1 HY.out.2)
  have HLA11 := hide ((hst11.cell (i := 1) HOA.out).trans HLA.out)
  have HOA11 := hide (hst11 _ HOA.out).1
  have hla := HLA11.out
  clear HX HY HLA HOA HTS hm11 hT11 hst11
  have i0 : (0 : Int) < ((1 : Nat) : Int) := by omega
  go_wp2_with fail
  refine (add_empty w11 t _ _ _).mono ?_
  rintro e w12 ⟨rfl, rfl⟩
  obtain ⟨⟨l0, l1, l2⟩, -⟩ := HY11.out.1.c3
  go_wp2_with fail
  refine (undos_any w11 P8 t gsB 2 HT11.out.tree).mono ?_
  rw [show undosG gsB 2 = 1 from rfl]
  rintro e w13 ⟨rfl, rfl⟩
  go_wp2_with fail
  refine (add_nil _ _ _ _ _).mono ?_
  rintro e w14 ⟨rfl, rfl⟩
  go_wp2_with fail
  refine (kids_nil _).mono ?_
  rintro e w15 ⟨rfl, rfl⟩
  go_wp2_with fail
  go_ret
  exact ⟨rfl, HT11.out.below.alloc HT11.out.below.size _⟩
end Go.Proofs.Ytjhnenljmmeflaa
