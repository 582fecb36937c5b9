/- The walk of standishlaw28.UndoFull: it answers true. -/
import Derived.Test.YtjhnenljmmeflaaUndoL
import Derived.Test.YtjhnenljmmeflaaUndoQ
import Derived.Deep.LoopGhost
import Derived.Deep.CutBlock
import Derived.Deep.DeepCutAuto
namespace Go.Proofs.Ytjhnenljmmeflaa
open Go.RowKit
set_option linter.unusedVariables false

/-- A row of one change with one rune lies off the tree. -/
structure LitO (P : Nat → Prop) (w : World) (x z : Nat) (a r : Int) : Prop where
  bx : Box w x 21 #[.int .i32 r]
  bz : Box w z 31 #[.int .i64 a, .slice none 0 0, .slice (some ⟨x, 0, none⟩) 1 1]
  ox : Off P w x
  oz : Off P w z
theorem LitO.stays {P Q : Nat → Prop} {w w' : World} {x z : Nat} {a r : Int} (h : LitO P w x z a r) (k : Stays P w Q w') : LitO Q w' x z a r := by
  obtain ⟨h1, h2⟩ := k.box h.bx h.ox
  obtain ⟨h3, h4⟩ := k.box h.bz h.oz
  exact ⟨h1, h3, h2, h4⟩
theorem LitO.keeps {P : Nat → Prop} {w : World} {x z : Nat} {a r : Int} (h : LitO P w x z a r) (ha : -9223372036854775808 ≤ a ∧ a ≤ 9223372036854775807) (hr : 0 ≤ r ∧ r ≤ 1000) : ∀ W, Keeps P w W → Chgs W (some ⟨z, 0, none⟩) 1 (fun _ => litV a x) [litC a r] := lit1_keeps h.bz h.bx h.oz h.ox ha hr

def litF (_ : Nat) : List Chg := [litC 0 97]
set_option maxRecDepth 100000 in
set_option maxHeartbeats 8000000 in
theorem full28_any (back : Int) (w : World) : Calls Try.prog 4 #[.int .i64 back] w fun e w' => e = .returned (.bool true) ∧ Below w.heap.size w w' := by
  have hF := idxN_lt (k := back) (n := 5) (by omega)
  generalize hFF : idxN back 5 = F at hF
  have HFF := hide hFF
  clear hFF
  go_enter Try.func4, Try.ntmps4
  go_wp2_with fail
  refine (new_any _).mono ?_
  rintro e w1 ⟨t, rfl, h1, hb1⟩
  obtain ⟨hT1, -⟩ := Tr.start h1 hb1 (Below.refl w.heap.size w) (Nat.le_refl _)
  generalize (fun g => w.heap.size ≤ g ∧ g < w1.heap.size) = P1 at hT1
  have HT1 := hide hT1
  clear h1 hb1 hT1
  obtain ⟨g, hg⟩ : ∃ g, w1.heap.size = g := ⟨_, rfl⟩
  have hX0 := Box.newAt hg 21 #[.int .i32 97]
  have hs2 : (w1.alloc (.cells #[.int .i32 97] 21)).heap.size = g + 1 := by simp [hg]
  have hY0 := Box.newAt hs2 31 #[.int .i64 0, .slice none 0 0, .slice (some ⟨g, 0, none⟩) 1 1]
  have hbl : Below w1.heap.size w1 ((w1.alloc (.cells #[.int .i32 97] 21)).alloc (.cells #[.int .i64 0, .slice none 0 0, .slice (some ⟨g, 0, none⟩) 1 1] 31)) := ((Below.refl _ _).alloc (Nat.le_refl _) _).alloc (by simp) _
  have hX1 := hX0.alloc (.cells #[.int .i64 0, .slice none 0 0, .slice (some ⟨g, 0, none⟩) 1 1] 31)
  have HL2 := hide (show LitO P1 _ g (g + 1) 0 97 from ⟨hX1, hY0, Tr.off HT1.out.tree hbl (b := g) (by omega) hX1.lt, Tr.off HT1.out.tree hbl (b := g + 1) (by omega) hY0.lt⟩)
  have HT2 := hide (HT1.out.next (Nat.le_refl _) hbl).1
  clear hX0 hY0 hX1 hbl
  go_wp2_with fail
  generalize ((w1.alloc (.cells #[.int .i32 97] 21)).alloc (.cells #[.int .i64 0, .slice none 0 0, .slice (some ⟨g, 0, none⟩) 1 1] 31)) = W2 at HT2 HL2 ⊢
  clear hs2 hg HT1 w1
  go_loopw [5] (fun i wx => ∃ (k : Nat) (P : Nat → Prop), k ≤ 100 ∧ i = .int .i64 k ∧ Tr w.heap.size w wx P t (chainG litF k) k ∧ LitO P wx g (g + 1) 0 97) (fun i _ => 100 - (intOf i).toNat)
  case atStart => exact ⟨0, P1, by omega, rfl, HT2.out, HL2.out⟩
  case round =>
    obtain ⟨k, P, hk, rfl, hT, hL⟩ := hrel
    have HT := hide hT
    have HL := hide hL
    clear hT hL
    have hlen := (chain_get litF k).1
    by_cases hk100 : k < 100
    · go_wp2_with fail
      refine (add_any wr P t (chainG litF k) (chainG litF k) k k _ 1 1 _ [litC 0 97] k HT.out.tree (HL.out.keeps (by omega) (by omega)) (by omega) (by omega) (by omega) (.inl ⟨by omega, rfl, rfl⟩)).mono ?_
      intro e w3 ha3
      obtain ⟨rfl, Q, hT3, hst3⟩ := HT.out.add (Nat.le_refl _) ha3
      rw [hlen] at hT3
      have HT3 := hide (show Tr w.heap.size w w3 Q t (chainG litF (k + 1)) (k + 1) from hT3)
      have HL3 := hide (HL.out.stays hst3)
      clear hT3 hst3 ha3 HT HL
      go_wp2_with fail
      refine (undos_any w3 Q t (chainG litF (k + 1)) (k + 1) HT3.out.tree).mono ?_
      rw [chain_undos litF HT3.out.tree.wf (k + 1) (Nat.le_refl _)]
      rintro e w4 ⟨rfl, rfl⟩
      have v1 : IntKind.i64.wrap ((k : Int) + 1) = ((k + 1 : Nat) : Int) := by rw [IntWalk.i64_in _ (by omega)]; rfl
      go_wp2_with fail
      go_round
      case rel => exact ⟨k + 1, Q, by omega, by first | rfl | go_num, HT3.out, HL3.out⟩
      case measure => simp [intOf]; omega
    · go_wp2_with fail
      have e100 : k = 100 := by omega
      have HT' := hide (show Tr w.heap.size w wr P t (chainG litF 100) 100 from by rw [← e100]; exact HT.out)
      rw [e100] at hlen
      clear hk hk100 HT e100
      go_loopw [6] (fun i wx => ∃ f : Nat, f ≤ F ∧ i = .int .i64 f ∧ Tr w.heap.size w wx P t (chainG litF 100) (100 - f) ∧ LitO P wx g (g + 1) 0 97) (fun i _ => F - (intOf i).toNat)
      case atStart => exact ⟨0, by omega, rfl, HT'.out, HL.out⟩
      case round =>
        obtain ⟨f, hf, rfl, hT, hL⟩ := hrel
        have HT5 := hide hT
        have HL5 := hide hL
        clear hT hL HT' HL HT2 HL2
        go_wp2_with fail
        refine (index_any back 5 wr (by omega) (by omega)).mono ?_
        rw [show (5 : Int).toNat = 5 from rfl, HFF.out]
        rintro e w5 ⟨rfl, rfl⟩
        by_cases hfF : f < F
        · obtain ⟨x, hx, hx1, hx2, hx3, hx4⟩ := (chain_get litF 100).2 (100 - f) (by omega)
          have HX := hide hx
          have HX1 := hide hx1
          clear hx hx1 hx2 hx3 hx4
          go_wp2_with fail
          refine (undo_any wr P t (chainG litF 100) (100 - f) x HT5.out.tree HX.out (by omega)).mono ?_
          rw [HX1.out]
          intro e w6 hm6
          obtain ⟨A6, n6, c6, vs6, rfl, -, -, -, hT6, hst6, -, -⟩ := HT5.out.move (Nat.le_refl _) hm6
          have HT6 := hide hT6
          have HL6 := hide (HL5.out.stays hst6)
          clear hm6 hT6 hst6
          have v1 : IntKind.i64.wrap ((f : Int) + 1) = ((f + 1 : Nat) : Int) := by rw [IntWalk.i64_in _ (by omega)]; rfl
          go_wp2_with fail
          go_round
          case rel => exact ⟨f + 1, by omega, by first | rfl | go_num, by rw [show 100 - (f + 1) = 100 - f - 1 by omega]; exact HT6.out, HL6.out⟩
          case measure => simp [intOf]; omega
        · obtain rfl : f = F := by omega
          go_wp2_with fail
          refine (add_any wr P t (chainG litF 100) [root0] (100 - f) 0 _ 1 1 _ [litC 0 97] (-1) HT5.out.tree (HL5.out.keeps (by omega) (by omega)) (by omega) (by omega) (by omega) (.inr ⟨by rw [hlen]; omega, rfl, rfl⟩)).mono ?_
          intro e w7 ha7
          obtain ⟨rfl, Q, hT7, hst7⟩ := HT5.out.add (Nat.le_refl _) ha7
          have HT7 := hide (show Tr w.heap.size w w7 Q t (addG [root0] 0 [litC 0 97] (-1)) 1 from hT7)
          clear hT7 hst7 ha7 HT5 HL5
          go_wp2_with fail
          refine (undos_any w7 Q t _ 1 HT7.out.tree).mono ?_
          rw [show undosG (addG [root0] 0 [litC 0 97] (-1)) 1 = 1 from rfl]
          rintro e w8 ⟨rfl, rfl⟩
          go_wp2_with fail
          refine (kids_any w7 Q t _ 1 ⟨[litC 0 97], -1, 0, [], 0⟩ HT7.out.tree rfl).mono ?_
          rintro e w8 ⟨rfl, q, rfl⟩
          have HT8 := hide (HT7.out.next (Nat.le_refl _) (below_drewN (Below.refl _ _) q)).1
          generalize w7.drewN q = w8 at HT8 ⊢
          clear HT7
          go_wp2_with fail
          refine (undo_any w8 Q t _ 1 ⟨[litC 0 97], -1, 0, [], 0⟩ HT8.out.tree rfl (by omega)).mono ?_
          intro e w9 hm9
          obtain ⟨A9, n9, c9, vs9, rfl, -, -, -, hT9, -, -, -⟩ := HT8.out.move (Nat.le_refl _) hm9
          have HT9 := hide hT9
          clear hm9 hT9 HT8
          go_wp2_with fail
          refine (undo_root w9 Q t _ HT9.out.tree).mono ?_
          intro e w10 hm10
          obtain ⟨A10, n10, c10, vs10, rfl, -, -, -, hT10, -, -, -⟩ := HT9.out.move (Nat.le_refl _) hm10
          have HT10 := hide hT10
          clear hm10 hT10 HT9
          go_wp2_with fail
          refine (kids_any w10 Q t _ 0 ⟨[], 0, 0, [1], 0⟩ HT10.out.tree rfl).mono ?_
          rintro e w11 ⟨rfl, q', rfl⟩
          have HT11 := hide (HT10.out.next (Nat.le_refl _) (below_drewN (Below.refl _ _) q')).1
          generalize w10.drewN q' = w11 at HT11 ⊢
          clear HT10
          go_wp2_with fail
          refine (known28_any w11).mono ?_
          rintro e w12 ⟨rfl, hb12⟩
          go_wp2_with fail
          go_ret
          exact ⟨rfl, HT11.out.below.trans (hb12.mono HT11.out.below.size)⟩
end Go.Proofs.Ytjhnenljmmeflaa
