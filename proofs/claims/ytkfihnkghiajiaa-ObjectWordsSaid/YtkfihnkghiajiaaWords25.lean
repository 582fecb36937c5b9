/- The walk of standishlaw25.ObjectWords: it answers true. -/
import Derived.Test.YtkfihnkghiajiaaWordsP
import Derived.Test.YtkfihnkghiajiaaKnown25
namespace Go.Proofs.Ytkfihnkghiajiaa
open Go.RowKit
set_option linter.unusedVariables false

set_option maxRecDepth 100000 in
set_option maxHeartbeats 8000000 in
theorem words25_any (Z : Option Addr) (m c : Nat) (at_ : Int) (z : List Int) (w : World) (hZ : IntsR w Z m z) (hm : m ≤ 35184372088832) :
    Calls Try.prog 12 #[.slice Z m c, .int .i64 at_] w fun e w' => e = .returned (.bool true) ∧ Below w.heap.size w w' := by
  have HZ := hide hZ
  clear hZ
  go_enter Try.func12, Try.ntmps12
  go_wp2_with fail
  refine (text_any 40 w.heap.size Z m c z _ (Tap.new HZ.out) (by omega) hm).mono ?_
  rintro e w2 ⟨U, ku, cu, u, rfl, hku, hou, hsg, _, hg2⟩
  have hb2 : Below w.heap.size w w2 := ((Below.refl _ w).alloc (Nat.le_refl _) (.cells #[.slice Z m c, .int .i64 0] 39)).grown hg2 (by simp) (fun k h => by cases h; exact Nat.le_refl _)
  have HU := hide hou.runes
  have HL := hide hou.len
  have HSG := hide (fun x hx => (hsg x hx).2)
  have hcu := hou.cap
  have HB2 := hide hb2
  clear hou hg2 hb2 HZ hsg
  rcases Nat.eq_zero_or_pos ku with rfl | hpos
  · go_wp2_with fail
    refine (known25_any _).mono ?_
    rintro e w5 ⟨rfl, hb5⟩
    have HB5 := hide (HB2.out.trans (hb5.mono HB2.out.size))
    clear hb5
    go_wp2_with fail
    go_ret
    exact ⟨rfl, HB5.out⟩
  · have hia : idxN at_ ku < ku := idxN_lt hpos
    have hp0 : ((ku : Int) == 0) = false := by simp; omega
    go_wp2_with fail
    refine (index_any at_ (ku : Int) _ (by omega) (by omega)).mono ?_
    rintro e w' ⟨rfl, rfl⟩
    rw [show ((ku : Int)).toNat = ku by omega]
    generalize idxN at_ ku = a at hia ⊢
    have HA := hide (words_law (s := u) (a := a) (by rw [HL.out]; exact hia) HSG.out)
    have a0 : (0 : Int) ≤ (a : Int) := by omega
    have a1 : (a : Int) < (ku : Int) := by omega
    rcases HA.out with ⟨h1, h2⟩ | ⟨h2, f, t, h1, h3, h4, h5, h6, h7, h8⟩
    · have H1 := hide (fun W (hW : Runes W U ku u) => ospan_any U ku cu a 1 false u W 0 0 false hW (by omega) hcu.1 hcu.2 (by rw [h1]; rfl) (by rw [h1]; rfl) (by rw [h1]; rfl))
      have HN := hide h2
      clear HA h1 h2
      go_wp2_with fail
      refine (H1.out _ HU.out).mono ?_
      rintro e w3 ⟨rfl, hb3⟩
      have HB3 := hide ((HB2.out.trans (hb3.mono HB2.out.size)).alloc (HB2.out.trans (hb3.mono HB2.out.size)).size (.cells #[.int .i64 0, .int .i64 0] 47))
      obtain ⟨ub, uo, rfl, hc⟩ := ((HU.out.below hb3).alloc (.cells #[.int .i64 0, .int .i64 0] 47)).at_ a hia
      rw [HN.out] at hc
      clear hb3
      go_wp2_with fail
      refine (known25_any _).mono ?_
      rintro e w5 ⟨rfl, hb5⟩
      have HB5 := hide (HB3.out.trans (hb5.mono HB3.out.size))
      clear hb5
      go_wp2_with fail
      go_ret
      exact ⟨rfl, HB5.out⟩
    · have H1 := hide (fun (i : Nat) (hi1 : f ≤ i) (hi2 : i < t) W (hW : Runes W U ku u) => ospan_any U ku cu i 1 false u W f t true hW (by omega) hcu.1 hcu.2 (by rw [(h6 i hi1 hi2).1]; rfl) (by rw [(h6 i hi1 hi2).1]; rfl) (by rw [(h6 i hi1 hi2).1]; rfl))
      have H6 := hide (fun (i : Nat) (hi1 : f ≤ i) (hi2 : i < t) => (h6 i hi1 hi2).2)
      have H7 := hide h7
      have H8 := hide h8
      have hne : (nth u a == 10) = false := by simpa using h2
      rw [HL.out] at h5
      have HRA := hide (rclass_any (nth u a))
      clear HA h1 h2 h6 h7 h8
      go_wp2_with fail
      refine (H1.out a h3 h4 _ HU.out).mono ?_
      rintro e w3 ⟨rfl, hb3⟩
      have HB3 := hide ((HB2.out.trans (hb3.mono HB2.out.size)).alloc (HB2.out.trans (hb3.mono HB2.out.size)).size (.cells #[.int .i64 f, .int .i64 t] 47))
      have HU3 := hide ((HU.out.below hb3).alloc (.cells #[.int .i64 f, .int .i64 t] 47))
      obtain ⟨ub, uo, rfl, hc⟩ := HU3.out.at_ a hia
      clear hb3
      have b1 : ((f : Int) ≤ a) := by omega
      have b2 : ((a : Int) < t) := by omega
      have b3 : ((t : Int) ≤ ku) := by omega
      obtain ⟨g1, hg1⟩ : ∃ g, w3.heap.size = g := ⟨_, rfl⟩
      have HX1 := hide (Box.newAt hg1 47 #[.int .i64 f, .int .i64 t])
      go_wp2_with fail
      refine (HRA.out _).mono ?_
      rintro e w' ⟨rfl, rfl⟩
      generalize hW1 : (w3.alloc (.cells #[.int .i64 f, .int .i64 t] 47)) = W1 at HX1 HB3 HU3 hc ⊢
      clear hW1 hg1 HRA
      generalize hcc : clsS (nth u a) = cc at H6 H7 H8 ⊢
      obtain ⟨⟨x0, x1⟩, _⟩ := HX1.out.c2
      clear hcc
      go_wp2_with fail
      clear x0 x1 hc
      go_loopw [9] (fun i wr => ∃ x : Nat, f ≤ x ∧ x ≤ t ∧ i = .int .i64 x ∧ Hid (Below W1.heap.size W1 wr)) (fun i _ => t - (intOf i).toNat)
      case atStart => exact ⟨f, Nat.le_refl _, by omega, rfl, Below.refl _ _⟩
      case round =>
        obtain ⟨x, hfx, hxt, rfl, hbel⟩ := hrel
        have HXr := hide (HX1.out.below hbel.out)
        have HUr := hide (HU3.out.below hbel.out)
        by_cases hlt : x < t
        · have hlt' : (x : Int) < t := by omega
          have n0 : (0 : Int) ≤ (x : Int) := by omega
          have n1 : (x : Int) < (ku : Int) := by omega
          have HRX := hide (rclass_any (nth u x))
          have h6x := H6.out x hfx hlt
          rw [h6x] at HRX
          clear h6x
          obtain ⟨⟨x0, x1⟩, _⟩ := HXr.out.c2
          go_wp2_with fail
          refine (H1.out x hfx hlt _ HUr.out).mono ?_
          rintro e w4 ⟨rfl, hb4⟩
          have HB4 := hide ((hbel.out.trans (hb4.mono hbel.out.size)).alloc (hbel.out.trans (hb4.mono hbel.out.size)).size (.cells #[.int .i64 f, .int .i64 t] 47))
          clear x0 x1
          obtain ⟨⟨x0, x1⟩, _⟩ := ((HXr.out.below hb4).alloc (.cells #[.int .i64 f, .int .i64 t] 47)).c2
          obtain ⟨ub', uo', hE, hc⟩ := ((HUr.out.below hb4).alloc (.cells #[.int .i64 f, .int .i64 t] 47)).at_ x (by omega)
          cases hE
          clear hb4
          go_wp2_with fail
          refine (HRX.out _).mono ?_
          rintro e w' ⟨rfl, rfl⟩
          go_wp2_with fail
          go_roundw
          case rel => exact ⟨x + 1, by omega, by omega, by go_num, HB4.out⟩
          case measure => simp [intOf]; omega
        · obtain rfl : x = t := by omega
          obtain ⟨⟨x0, x1⟩, _⟩ := HXr.out.c2
          have fin : ∀ (w9 : World), Hid (Below wr.heap.size wr w9) → Below w.heap.size w w9 := fun w9 h9 => HB3.out.trans ((hbel.out.trans (h9.out.mono hbel.out.size)).mono HB3.out.size)
          have FIN := hide fin
          clear fin
          rcases Nat.eq_zero_or_pos f with rfl | hf
          · rcases Nat.lt_or_ge x ku with hx | hx
            · have n0 : (0 : Int) ≤ (x : Int) := by omega
              have n1 : (x : Int) < (ku : Int) := by omega
              have n2 : ((x : Int) == (ku : Int)) = false := by simp; omega
              obtain ⟨ub', uo', hE, hc⟩ := HUr.out.at_ x hx
              cases hE
              have HRX := hide (rclass_any (nth u x))
              have h8x := H8.out (by rw [HL.out]; exact hx)
              have n3 : (clsS (nth u x) != cc) = true := by simpa using h8x
              clear h8x
              go_wp2_with fail
              refine (HRX.out _).mono ?_
              rintro e w' ⟨rfl, rfl⟩
              go_wp2_with fail
              refine (known25_any _).mono ?_
              rintro e w5 ⟨rfl, hb5⟩
              have HB5 := hide (FIN.out _ (hide hb5))
              clear hb5
              go_wp2_with fail
              go_ret
              exact ⟨rfl, HB5.out⟩
            · obtain rfl : x = ku := by omega
              go_wp2_with fail
              refine (known25_any _).mono ?_
              rintro e w5 ⟨rfl, hb5⟩
              have HB5 := hide (FIN.out _ (hide hb5))
              clear hb5
              go_wp2_with fail
              go_ret
              exact ⟨rfl, HB5.out⟩
          · obtain ⟨b, hb⟩ : ∃ b, f = b + 1 := ⟨f - 1, by omega⟩
            have e1 : (f : Int) - 1 = (b : Int) := by omega
            have m0 : (0 : Int) ≤ (b : Int) := by omega
            have m1 : (b : Int) < (ku : Int) := by omega
            have m2 : ((f : Int) == 0) = false := by simp; omega
            obtain ⟨ub', uo', hE, hcb⟩ := HUr.out.at_ b (by omega)
            cases hE
            have HRB := hide (rclass_any (nth u b))
            have h7x := H7.out hf
            rw [show f - 1 = b by omega] at h7x
            have m3 : (clsS (nth u b) != cc) = true := by simpa using h7x
            clear h7x hb
            rcases Nat.lt_or_ge x ku with hx | hx
            · have n0 : (0 : Int) ≤ (x : Int) := by omega
              have n1 : (x : Int) < (ku : Int) := by omega
              have n2 : ((x : Int) == (ku : Int)) = false := by simp; omega
              obtain ⟨ub', uo', hE, hc⟩ := HUr.out.at_ x hx
              cases hE
              have HRX := hide (rclass_any (nth u x))
              have h8x := H8.out (by rw [HL.out]; exact hx)
              have n3 : (clsS (nth u x) != cc) = true := by simpa using h8x
              clear h8x
              go_wp2_with fail
              refine (HRB.out _).mono ?_
              rintro e w' ⟨rfl, rfl⟩
              go_wp2_with fail
              refine (HRX.out _).mono ?_
              rintro e w' ⟨rfl, rfl⟩
              go_wp2_with fail
              refine (known25_any _).mono ?_
              rintro e w5 ⟨rfl, hb5⟩
              have HB5 := hide (FIN.out _ (hide hb5))
              clear hb5
              go_wp2_with fail
              go_ret
              exact ⟨rfl, HB5.out⟩
            · obtain rfl : x = ku := by omega
              go_wp2_with fail
              refine (HRB.out _).mono ?_
              rintro e w' ⟨rfl, rfl⟩
              go_wp2_with fail
              refine (known25_any _).mono ?_
              rintro e w5 ⟨rfl, hb5⟩
              have HB5 := hide (FIN.out _ (hide hb5))
              clear hb5
              go_wp2_with fail
              go_ret
              exact ⟨rfl, HB5.out⟩
end Go.Proofs.Ytkfihnkghiajiaa
