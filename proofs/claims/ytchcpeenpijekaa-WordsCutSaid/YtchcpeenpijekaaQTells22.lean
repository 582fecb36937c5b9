/- The walk of standishlaw22.WordsTells: it answers true. -/
import Derived.Test.YtchcpeenpijekaaQ33
import Derived.Test.YtchcpeenpijekaaQ34
namespace Go.Proofs.Ytchcpeenpijekaa
open Go.RowKit
set_option linter.unusedVariables false

theorem same22_yes (S : Option Addr) (n d : Nat) (s : List Int) (at_ : Int) (w w0 : World) (h : Runes w0 S n s) (hb : Below w0.heap.size w0 w) (hn : n ≤ 100000) (hd : n ≤ d) (hdm : d ≤ 9223372036854775807) :
    Calls Try.prog 36 #[.slice S n d, .int .i64 at_] w fun e w' => e = .returned (.bool true) ∧ Below w0.heap.size w0 w' := by
  refine (same22_any S n d s at_ w (h.below hb) hn hd hdm).mono ?_
  rintro e w' ⟨rfl, hb2⟩
  exact ⟨rfl, hb.trans (hb2.mono hb.size)⟩

set_option maxRecDepth 100000 in
set_option maxHeartbeats 4000000 in
theorem tells22_any (S : Option Addr) (n d : Nat) (s : List Int) (Z : Option Addr) (m c : Nat) (z : List Int) (at_ : Int) (w : World) (hS : Runes w S n s) (hd : n ≤ d) (hdm : d ≤ 9223372036854775807) (hZ : IntsR w Z m z) (hm : m ≤ 35184372088832) :
    Calls Try.prog 7 #[.slice S n d, .slice Z m c, .int .i64 at_] w fun e w' => e = .returned (.bool true) ∧ Below w.heap.size w w' := by
  have HC := hide (cut_any S n d 200 w hd hdm (by omega))
  obtain ⟨n2, hn2⟩ : ∃ n2, min n 200 = n2 := ⟨_, rfl⟩
  rw [hn2] at HC
  have hn3 : n2 ≤ n := by omega
  have hn4 : n2 ≤ 200 := by omega
  obtain ⟨s2, hs2⟩ : ∃ s2, s.take n2 = s2 := ⟨_, rfl⟩
  have HS := hide (show Runes w S n2 s2 from by rw [← hs2]; exact hS.take hn3)
  have hd2 : n2 ≤ d := by omega
  have HZ := hide hZ
  clear hn2 hs2 hS hZ
  go_enter Try.func7, Try.ntmps7
  obtain ⟨gt, hgt⟩ : ∃ gt, w.heap.size = gt := ⟨_, rfl⟩
  have HT := hide (show Tap (w.alloc (.cells #[.slice Z m c, .int .i64 0] 56)) gt Z m c z from by rw [← hgt]; exact Tap.new HZ.out)
  have HB0 := hide ((Below.refl w.heap.size w).alloc (Nat.le_refl _) (.cells #[.slice Z m c, .int .i64 0] 56))
  have HG := hide (show w.heap.size ≤ gt from by omega)
  have HG2 := hide (show gt < (w.alloc (.cells #[.slice Z m c, .int .i64 0] 56)).heap.size from by rw [← hgt]; simp)
  go_upto_region 3 with (first
    | (go_at_call 32; refine HC.out.mono ?_; rintro e w5 ⟨rfl, rfl⟩)
    | (go_at_call 33; (refine (text_any 60 gt Z m c z _ HT.out (by omega) hm).mono ?_); rintro e w1 ⟨U, k, cu, u, rfl, hk, hU, -, -, hg1⟩))
  have hucap := hU.cap
  have HU := hide hU.runes
  have HB1 := hide (HB0.out.grown hg1 HB0.out.size fun g e => by injection e with e; have := HG.out; omega)
  clear hU hg1 HT HB0 HG HG2 hgt HC
  go_upto_region 4 with (first
    | (go_at_call 34; (with_reducible refine (spans_any U k cu u _ HU.out (by omega)).mono ?_); rintro e w2 ⟨A2, m2, d2, rfl, hO2, hb2⟩)
    | (go_at_call 35; (with_reducible refine (rspans_any U k cu u _ (HU.out.below hb2) (by omega)).mono ?_); rintro e w3 ⟨A3, m3, d3, rfl, hO3, hb3⟩))
  have hm2 : (spansS u).length = m2 := SpO.len hO2
  have hm3 : (spansS u).length = m3 := SpO.len hO3
  obtain rfl : m2 = m3 := by omega
  have HSL := hide hm2
  have HO2 := hide (show SpO w3 _ A2 m2 d2 (spansS u) from RowG.below hO2 hb3)
  have HO3 := hide hO3
  have HB3 := hide (HB1.out.trans ((hb2.trans (hb3.mono hb2.size)).mono HB1.out.size))
  have HU3 := hide ((HU.out.below hb2).below hb3)
  have hsm : m2 ≤ 60 := by have h1 := spans_len (s := u); have h2 := HU.out.len; omega
  clear hm2 hm3 hO2 hO3 hb2 hb3 HB1 HU
  go_upto_region 6 with (first
    | (go_at_call 34; (with_reducible refine (spans_any S n2 d s2 _ (HS.out.below HB3.out) (by omega)).mono ?_); rintro e w4 ⟨A4, m4, d4, rfl, hO4, hb4⟩
       have h4 := SpO.len hO4
       have HB4 := hide (HB3.out.trans (hb4.mono HB3.out.size)))
    | (go_at_call 35; (with_reducible refine (rspans_any S n2 d s2 _ (HS.out.below HB4.out) (by omega)).mono ?_); rintro e w5 ⟨A5, m5, d5, rfl, hO5, hb5⟩
       obtain rfl : m4 = m5 := by have h5 := SpO.len hO5; omega
       clear h4 hO4))
  have HB35 := hide (hb4.trans (hb5.mono hb4.size))
  have HO2b := hide (RowG.below HO2.out HB35.out)
  have HO3b := hide (RowG.below HO3.out HB35.out)
  have HU5 := hide (HU3.out.below HB35.out)
  have HB5 := hide (HB3.out.trans (HB35.out.mono HB3.out.size))
  clear HO2 HO3 HU3 HB3 HB35 hb4 hb5 hO5 HB4
  go_wp2_with fail
  obtain ⟨w6, rfl⟩ : ∃ w6, w6 = w5 := ⟨_, rfl⟩
  go_loopw [10, 38] (fun _ s38 wx => ∃ i : Nat, i ≤ m2 ∧ s38 = .int .i64 i ∧ ∃ q, wx = w6.drewN q) (fun _ s38 _ => m2 - (intOf s38).toNat)
  case atStart => exact ⟨0, Nat.zero_le _, rfl, 0, rfl⟩
  case round =>
    obtain ⟨i, hi, rfl, q, rfl⟩ := hrel
    by_cases hlt : i < m2
    · obtain ⟨p, hp⟩ : ∃ p, (spansS u)[i]? = some p := ⟨_, List.getElem?_eq_getElem (by rw [HSL.out]; exact hlt)⟩
      obtain ⟨g2, rfl, c0, c1⟩ := SpO.at_ (RowG.drewN HO2b.out q) hp
      obtain ⟨g3, rfl, e0, e1⟩ := SpO.at_ (RowG.drewN HO3b.out q) hp
      have i0 : (0 : Int) ≤ (i : Int) := by omega
      have i1 : (i : Int) < (m2 : Int) := by omega
      have HW := hide (show ∀ r, ∃ q', (w6.drewN q).drewN r = w6.drewN q' from fun r => ⟨_, World.drewN_drewN _ _ _⟩)
      clear hp
      generalize w6.drewN q = W at c0 c1 e0 e1 HW ⊢
      go_wp2_with fail
      go_big_quiet (fail)
      go_wp2_with fail
      go_roundw
      case rel => exact ⟨i + 1, by omega, by go_num, HW.out _⟩
      case measure => simp [intOf]; omega
    · have HB6 := hide (HB5.out.trans ((lt_drewN w6 q).mono HB5.out.size))
      have HU6 := hide (HU5.out.drewN q)
      clear HB5 HU5 HO2b HO3b
      generalize w6.drewN q = w7 at HB6 HU6 ⊢
      go_wp2_with fail
      go_loopw [11] (fun s11 wx => ∃ j : Int, -1 ≤ j ∧ j ≤ k + 2 ∧ s11 = .int .i64 j ∧ Hid (Below w7.heap.size w7 wx)) (fun s11 _ => (k + 2 - intOf s11).toNat)
      case atStart => exact ⟨-1, by omega, by omega, rfl, Below.refl _ _⟩
      case round =>
        obtain ⟨j, hj1, hj2, rfl, HB⟩ := hrel
        by_cases hjk : j ≤ k + 1
        · have HY := hide (same22_yes U k cu u j wr w7 HU6.out HB.out (by omega) hucap.1 hucap.2)
          go_wp2_with (go_at_call 36; (with_reducible refine HY.out.mono ?_); rintro e w8 ⟨rfl, hb8⟩)
          have HB8 := hide hb8
          clear hb8 HY
          go_roundw
          case rel => exact ⟨j + 1, by omega, by omega, rfl, HB8.out⟩
          case measure => simp [intOf]; omega
        · have hjk2 : ¬ (j ≤ (k : Int) + 1) := hjk
          have HBW := hide (HB6.out.trans (HB.out.mono HB6.out.size))
          have HY := hide (fun a W (hb : Below w.heap.size w W) => same22_yes S n2 d s2 a W w HS.out hb (by omega) hd2 hdm)
          have HIX := hide (fun W => index_any at_ ((n2 : Int) + 1) W (by omega) (by omega))
          go_wp2_with (first
            | (go_at_call 27; (with_reducible refine (HIX.out _).mono ?_); rintro e w9 ⟨rfl, rfl⟩)
            | (go_at_call 36; (with_reducible refine (HY.out _ _ HBW.out).mono ?_); rintro e w8 ⟨rfl, hb8⟩
               have HB8 := hide hb8)
            | (go_at_call 36; (with_reducible refine (HY.out _ _ HB8.out).mono ?_); rintro e w10 ⟨rfl, hb10⟩
               have HB10 := hide hb10)
            | (go_at_call 37; (with_reducible refine (known22_any _).mono ?_); rintro e w11 ⟨rfl, hb11⟩))
          have HB11 := hide (HB10.out.trans (hb11.mono HB10.out.size))
          clear hb11
          go_ret
          exact ⟨rfl, HB11.out⟩
end Go.Proofs.Ytchcpeenpijekaa
