/- The walk of standishlaw25.ObjectTells: it answers true. -/
import Derived.Test.YtkfihnkghiajiaaKnown25
namespace Go.Proofs.Ytkfihnkghiajiaa
open Go.RowKit
set_option linter.unusedVariables false

theorem Runes.lentA {w : World} {A : Option Addr} {n : Nat} {a : List Int} (h : Runes w A (n + 2) (a ++ [-77, -78])) (ha : a.length = n) : Runes w A n a := by
  have := h.take (m := n) (by omega)
  rwa [List.take_append_of_le_length (by omega), List.take_of_length_le (by omega)] at this

set_option maxRecDepth 100000 in
set_option maxHeartbeats 4000000 in
theorem tells25_any (S Z : Option Addr) (k d m c : Nat) (at_ obj : Int) (s z : List Int) (w : World) (hS : Runes w S k s) (hZ : IntsR w Z m z) (hd : k ≤ d) (hd2 : d ≤ 9223372036854775807) (hm : m ≤ 35184372088832) :
    Calls Try.prog 9 #[.slice S k d, .slice Z m c, .int .i64 at_, .int .i64 obj] w fun e w' => e = .returned (.bool true) ∧ Below w.heap.size w w' := by
  have HS := hide (hS.take (m := min k 100) (by omega))
  have HZ := hide hZ
  have hkd : min k 100 ≤ d := by omega
  have hk100 : min k 100 ≤ 100 := by omega
  clear hS hZ
  go_enter Try.func9, Try.ntmps9
  go_wp2_with fail
  refine (cut_any S k d 100 _ hd hd2 (by omega)).mono ?_
  rintro e w1 ⟨rfl, rfl⟩
  generalize min k 100 = k1 at HS hkd hk100 ⊢
  generalize s.take k1 = s1 at HS ⊢
  go_wp2_with fail
  refine (lend_any S k1 d s1 _ HS.out (by omega)).mono ?_
  rintro e w1 ⟨g1, c1, rfl, ho1, hb1⟩
  have HX := hide ho1.runes
  have hc1 := ho1.cap
  have HB1 := hide hb1
  have HZ1 := hide (HZ.out.below hb1)
  clear ho1 hb1
  go_wp2_with fail
  refine (text_any 24 w1.heap.size Z m c z _ (Tap.new HZ1.out) (by omega) hm).mono ?_
  rintro e w2 ⟨U, ku, cu, u, rfl, hku, hou, _, _, hg2⟩
  have hb2 : Below w1.heap.size w1 w2 := ((Below.refl _ w1).alloc (Nat.le_refl _) (.cells #[.slice Z m c, .int .i64 0] 39)).grown hg2 (by simp) (fun k h => by cases h; exact Nat.le_refl _)
  have HU := hide hou.runes
  have hcu := hou.cap
  have HX2 := hide (HX.out.below hb2)
  have HB2 := hide (HB1.out.trans (hb2.mono HB1.out.size))
  have HS2 := hide (HS.out.below HB2.out)
  have HXL := hide (HX2.out.lentA HS.out.len)
  clear hou hg2 hb2 HX HB1 HZ1 HZ HS
  go_wp2_with fail
  go_loopw [11] (fun o wx => ∃ x : Nat, x ≤ 8 ∧ o = .int .i64 x ∧ Hid (Below w2.heap.size w2 wx)) (fun o _ => 8 - (intOf o).toNat)
  case atStart => exact ⟨0, by omega, rfl, Below.refl _ _⟩
  case round =>
    obtain ⟨x, hx, rfl, hbel⟩ := hrel
    by_cases hx8 : x < 8
    · have h0 : (x : Int) ≤ 7 := by omega
      go_wp2_with fail
      go_loopw [12] (fun o wx => ∃ y : Nat, y ≤ ku + 2 ∧ o = .int .i64 ((y : Int) - 1) ∧ Hid (Below w2.heap.size w2 wx)) (fun o _ => (ku + 2 - (intOf o + 1)).toNat)
      case atStart => exact ⟨0, by omega, rfl, hbel.out⟩
      case round =>
        obtain ⟨y, hy, rfl, hbel⟩ := hrel
        by_cases hyk : y < ku + 2
        · have h1 : ((y : Int) - 1) ≤ (ku : Int) := by omega
          have h2 : (y : Int) = ((y + 1 : Nat) : Int) - 1 := by omega
          have H2 := hide h2
          clear h2
          go_wp2_with fail
          refine (same25_any U ku cu ((y : Int) - 1) x u _ (HU.out.below hbel.out) (by omega) hcu.1 hcu.2).mono ?_
          rintro e w3 ⟨rfl, hb3⟩
          have HB3 := hide (hbel.out.trans (hb3.mono hbel.out.size))
          clear hb3
          go_wp2_with fail
          go_roundw
          case rel => exact ⟨y + 1, by omega, congrArg (Value.int .i64) H2.out, HB3.out⟩
          case measure => simp [intOf]; omega
        · have h1 : (ku : Int) < ((y : Int) - 1) := by omega
          have hix : idxN at_ (k1 + 1) ≤ k1 := by have := idxN_lt (k := at_) (n := k1 + 1) (by omega); omega
          go_wp2_with fail
          refine (same25_any _ k1 c1 at_ x s1 _ (HXL.out.below hbel.out) (by omega) (by omega) hc1.2).mono ?_
          rintro e w3 ⟨rfl, hb3⟩
          have HB3 := hide (hbel.out.trans (hb3.mono hbel.out.size))
          clear hb3
          go_wp2_with fail
          refine (index_any at_ ((k1 : Int) + 1) _ (by omega) (by omega)).mono ?_
          rintro e w' ⟨rfl, rfl⟩
          rw [show ((k1 : Int) + 1).toNat = k1 + 1 by omega]
          generalize idxN at_ (k1 + 1) = ix at hix ⊢
          go_wp2_with fail
          refine (same25_any _ k1 c1 (ix : Int) x s1 _ (HXL.out.below HB3.out) (by omega) (by omega) hc1.2).mono ?_
          rintro e w4 ⟨rfl, hb4⟩
          have HB4 := hide (HB3.out.trans (hb4.mono HB3.out.size))
          clear hb4
          go_wp2_with fail
          go_roundw
          case rel => exact ⟨x + 1, by omega, by go_num, HB4.out⟩
          case measure => simp [intOf]; omega
    · have h0 : (7 : Int) < (x : Int) := by omega
      go_wp2_with fail
      refine (same25_any S k1 d at_ obj s1 _ (HS2.out.below hbel.out) (by omega) hkd hd2).mono ?_
      rintro e w3 ⟨rfl, hb3⟩
      have HB3 := hide (hbel.out.trans (hb3.mono hbel.out.size))
      clear hb3
      go_wp2_with fail
      refine (kept_yes _ S k1 c1 d s1 _ (HX2.out.below HB3.out) (HS2.out.below HB3.out) hc1.1 hc1.2).mono ?_
      rintro e w4 ⟨rfl, q4, rfl⟩
      have HB4 := hide (belowD HB3.out q4)
      go_wp2_with fail
      refine (known25_any _).mono ?_
      rintro e w5 ⟨rfl, hb5⟩
      have HB5 := hide (HB4.out.trans (hb5.mono HB4.out.size))
      clear hb5
      go_wp2_with fail
      go_ret
      exact ⟨rfl, HB2.out.trans (HB5.out.mono HB2.out.size)⟩
end Go.Proofs.Ytkfihnkghiajiaa
