/- The walk of standishlaw1.SignsTells: it answers true. -/
import Derived.Test.YtkfihnkghiajiaaKnown1
import Derived.Test.YtkfihnkghiajiaaSgnR
namespace Go.Proofs.Ytkfihnkghiajiaa
open Go.RowKit
set_option linter.unusedVariables false

theorem Runes.lentA {w : World} {A : Option Addr} {n : Nat} {a : List Int} (h : Runes w A (n + 2) (a ++ [-77, -78])) (ha : a.length = n) : Runes w A n a := by
  have := h.take (m := n) (by omega)
  rwa [List.take_append_of_le_length (by omega), List.take_of_length_le (by omega)] at this

set_option maxRecDepth 100000 in
set_option maxHeartbeats 4000000 in
theorem tells1_any (S T : Option Addr) (k d m e' : Nat) (how : Int) (s t : List Int) (w : World) (hS : Runes w S k s) (hT : Runes w T m t) (hk : k + 2 ≤ 35184372088832) (hm : m + 2 ≤ 35184372088832) :
    Calls Try.prog 5 #[.slice S k d, .slice T m e', .int .i64 how] w fun e w' => e = .returned (.bool true) ∧ Below w.heap.size w w' := by
  have HS := hide hS
  have HT := hide hT
  clear hS hT
  go_enter Try.func5, Try.ntmps5
  go_wp2_with fail
  refine (lend_any S k d s _ HS.out hk).mono ?_
  rintro e w1 ⟨g1, c1, rfl, ho1, hb1⟩
  have HX1 := hide ho1.runes
  have hc1 := ho1.cap
  have HB1 := hide hb1
  clear ho1 hb1
  go_wp2_with fail
  refine (lend_any T m e' t _ (HT.out.below HB1.out) hm).mono ?_
  rintro e w2 ⟨g2, c2, rfl, ho2, hb2⟩
  have HX := hide (HX1.out.below hb2)
  have HY := hide ho2.runes
  have hc2 := ho2.cap
  have HB2 := hide (HB1.out.trans (hb2.mono HB1.out.size))
  clear ho2 hb2 HX1
  have HS2 := hide (HS.out.below HB2.out)
  have HT2 := hide (HT.out.below HB2.out)
  have HXL := hide (HX.out.lentA HS.out.len)
  have HYL := hide (HY.out.lentA HT.out.len)
  go_wp2_with fail
  refine (may_any _ k c1 s _ HXL.out (by omega)).mono ?_
  rintro e w3 ⟨rfl, rfl⟩
  go_wp2_with fail
  refine (refMay_any S k d s _ HS2.out (by omega)).mono ?_
  rintro e w3 ⟨rfl, rfl⟩
  go_wp2_with fail
  refine (same_any _ _ k c1 m c2 s t _ HXL.out HYL.out (by omega) (by omega)).mono ?_
  rintro e w3 ⟨rfl, q3, rfl⟩
  go_wp2_with fail
  refine (refSame_any S T k d m e' s t _ (HS2.out.drewN _) (HT2.out.drewN _) (by omega) (by omega)).mono ?_
  rintro e w3 ⟨rfl, q4, rfl⟩
  go_wp2_with fail
  refine (less_any _ _ k c1 m c2 s t _ (HXL.out.drewN _) (HYL.out.drewN _) (by omega) (by omega)).mono ?_
  rintro e w3 ⟨rfl, rfl⟩
  go_wp2_with fail
  refine (rless_any S T k d m e' s t _ (HS2.out.drewN _) (HT2.out.drewN _) (by omega) (by omega)).mono ?_
  rintro e w3 ⟨rfl, q5, rfl⟩
  go_wp2_with fail
  generalize hW : World.alloc _ _ = w4
  obtain ⟨ha, hb, hbx⟩ : ∃ a b, Box w4 w2.heap.size 3 #[.int .i64 a, .int .i64 b] := by
    subst hW
    exact ⟨_, _, Box.new (w2.drewN (q3 + q4 + q5)) _ _⟩
  have hb24 : Below w2.heap.size w2 w4 := by
    subst hW
    exact (belowN (Below.refl _ _) (q3 + q4 + q5)).alloc (Nat.le_refl _) _
  clear hW
  have HBX := hide hbx
  have HB4 := hide (HB2.out.trans (hb24.mono HB2.out.size))
  have HX4 := hide (HX.out.below hb24)
  have HY4 := hide (HY.out.below hb24)
  have HXL4 := hide (HXL.out.below hb24)
  have HS4 := hide (HS2.out.below hb24)
  have HT4 := hide (HT2.out.below hb24)
  clear hbx hb24 HX HY HXL HYL HS2 HT2 HS HT HB1
  go_loopw [44] (fun i wx => ∃ x : Nat, x ≤ 2 ∧ i = .int .i64 x ∧ Below w4.heap.size w4 wx) (fun i _ => 2 - (intOf i).toNat)
  case atStart => exact ⟨0, by omega, rfl, Below.refl _ _⟩
  case round =>
    obtain ⟨x, hx, rfl, hbel⟩ := hrel
    have HC := hide hbel
    clear hbel
    by_cases hx2 : x < 2
    · have h0 : (0 : Int) ≤ (x : Int) := by omega
      have h1' : (x : Int) < 2 := by omega
      obtain ⟨h, hc⟩ : ∃ h : Int, wr.cell? ⟨w2.heap.size, x, none⟩ = some (.int .i64 h) := by
        have hb2 := (HBX.out.below HC.out).c2
        match x, hx2 with
        | 0, _ => exact ⟨_, hb2.1.1⟩
        | 1, _ => exact ⟨_, hb2.1.2⟩
      go_wp2_with fail
      refine (case_any _ k c1 h s _ (HXL4.out.below HC.out) (by omega)).mono ?_
      rintro e w5 ⟨A5, n5, c5, rfl, ho5, hb5⟩
      have HO5 := hide ho5
      have HC5 := hide (HC.out.trans (hb5.mono HC.out.size))
      have hs5 := HC.out.size
      have hn5 : n5 ≤ k := by
        have h1 := caseS_len s h
        have h2 := HXL4.out.len
        rw [ho5.len] at h1
        omega
      clear ho5 hb5
      go_wp2_with fail
      refine (rcase_any S k d h s _ (HS4.out.below HC5.out) (by omega)).mono ?_
      rintro e w6 ⟨A6, n6, c6, rfl, ho6, hb6⟩
      obtain rfl : n6 = n5 := by rw [← ho6.len, HO5.out.len]
      have HO6 := hide ho6.runes
      have HO56 := hide (HO5.out.below hb6)
      have HC6 := hide (HC5.out.trans (hb6.mono HC5.out.size))
      clear ho6 hb6
      go_wp2_with fail
      refine (refSame_any _ _ n6 c5 n6 c6 (caseS s h) (caseS s h) _ HO56.out.runes HO6.out (by omega) (by omega)).mono ?_
      rintro e w7 ⟨rfl, q7, rfl⟩
      rw [show sameS (caseS s h) (caseS s h) = true by simp [sameS]]
      go_wp2_with fail
      refine (spoil_any wr.heap.size A5 n6 c5 _ _ (HO56.out.drewN q7)).mono ?_
      rintro e w8 ⟨rfl, _, hg8⟩
      have HC8 := hide ((belowN HC6.out q7).grown hg8 (by have := HC6.out.size; simpa using this) (fun g hg => Nat.le_trans hs5 (HO56.out.blk_ge g hg).1))
      clear hg8
      go_wp2_with fail
      go_roundw
      case rel => exact ⟨x + 1, by omega, by go_num, HC8.out⟩
      case measure => simp [intOf]; omega
    · go_wp2_with fail
      refine (kept_yes _ S k c1 d s _ (HX4.out.below HC.out) (HS4.out.below HC.out) hc1.1 hc1.2).mono ?_
      rintro e w5 ⟨rfl, q5, rfl⟩
      have HC5 := hide (belowN HC.out q5)
      go_wp2_with fail
      refine (kept_yes _ T m c2 e' t _ (HY4.out.below HC5.out) (HT4.out.below HC5.out) hc2.1 hc2.2).mono ?_
      rintro e w6 ⟨rfl, q6, rfl⟩
      have HC6 := hide (belowN HC.out (q5 + q6))
      go_wp2_with fail
      refine (known1_any _).mono ?_
      rintro e w7 ⟨rfl, hb7⟩
      have HC7 := hide (HC6.out.trans (hb7.mono HC6.out.size))
      clear hb7
      go_wp2_with fail
      go_ret
      exact ⟨rfl, HB4.out.trans (HC7.out.mono HB4.out.size)⟩
end Go.Proofs.Ytkfihnkghiajiaa
