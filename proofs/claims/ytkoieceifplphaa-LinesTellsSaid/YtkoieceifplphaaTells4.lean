/- The walks of standishlaw4's LinesTells, LinesMade: they answer true. -/
import Derived.Test.YtkoieceifplphaaKnown4
import Derived.Test.YtkoieceifplphaaTape
namespace Go.Proofs.Ytkoieceifplphaa
open Go.RowKit
set_option linter.unusedVariables false

set_option maxRecDepth 100000 in
set_option maxHeartbeats 4000000 in
theorem tells4_any (S : Option Addr) (k d : Nat) (at_ line col : Int) (s : List Int) (w : World) (hS : Runes w S k s) (hk : k + 2 ≤ 35184372088832) (hd : k ≤ d) (hd2 : d ≤ 9223372036854775807) (ha : I64 at_) (hl : I64 line) :
    Calls Try.prog 7 #[.slice S k d, .int .i64 at_, .int .i64 line, .int .i64 col] w fun e w' => e = .returned (.bool true) ∧ Below w.heap.size w w' := by
  have HS := hide hS
  have hcn : cntL s ≤ k := by have := cntL_le s; rw [hS.len] at this; exact this
  have HC := hide (rcount_any S k d s w hS (by omega))
  have HAT := hide ha
  have HLI := hide hl
  clear hS ha hl
  generalize cntL s = cn at hcn HC
  go_enter Try.func7, Try.ntmps7
  go_wp2_with fail
  refine HC.out.mono ?_
  rintro e w' ⟨rfl, rfl⟩
  go_wp2_with fail
  refine (same4_any S k d at_ line col s _ HS.out hk hd hd2 HAT.out HLI.out).mono ?_
  rintro e w1 ⟨rfl, hb1⟩
  have HB1 := hide hb1
  clear hb1
  have i1 : idxN at_ (k + 1) < k + 1 := idxN_lt (by omega)
  have i2 : idxN line (cn + 1) < cn + 1 := idxN_lt (by omega)
  go_wp2_with fail
  refine (index_any at_ ((k : Int) + 1) _ (by omega) (by omega)).mono ?_
  rintro e w' ⟨rfl, rfl⟩
  rw [show ((k : Int) + 1).toNat = k + 1 by omega]
  generalize idxN at_ (k + 1) = x1 at i1 ⊢
  go_wp2_with fail
  refine (index_any line ((cn : Int) + 1) _ (by omega) (by omega)).mono ?_
  rintro e w' ⟨rfl, rfl⟩
  rw [show ((cn : Int) + 1).toNat = cn + 1 by omega]
  generalize idxN line (cn + 1) = x2 at i2 ⊢
  go_wp2_with fail
  refine (index_any col 40 _ (by omega) (by omega)).mono ?_
  rintro e w' ⟨rfl, rfl⟩
  generalize idxN col (40 : Int).toNat = x3
  go_wp2_with fail
  refine (same4_any S k d x1 x2 x3 s _ (HS.out.below HB1.out) hk hd hd2 (by unfold I64; omega) (by unfold I64; omega)).mono ?_
  rintro e w2 ⟨rfl, hb2⟩
  have HB2 := hide (HB1.out.trans (hb2.mono HB1.out.size))
  clear hb2
  go_wp2_with fail
  refine (same4_any S k d k ((cn : Int) + 1) 0 s _ (HS.out.below HB2.out) hk hd hd2 (by unfold I64; omega) (by unfold I64; omega)).mono ?_
  rintro e w3 ⟨rfl, hb3⟩
  have HB3 := hide (HB2.out.trans (hb3.mono HB2.out.size))
  clear hb3
  go_wp2_with fail
  refine (same4_any S k d k _ (-1) s _ (HS.out.below HB3.out) hk hd hd2 (by unfold I64; omega) (by unfold I64; omega)).mono ?_
  rintro e w4 ⟨rfl, hb4⟩
  have HB4 := hide (HB3.out.trans (hb4.mono HB3.out.size))
  clear hb4
  go_wp2_with fail
  refine (known4_any _).mono ?_
  rintro e w5 ⟨rfl, hb5⟩
  have HB5 := hide (HB4.out.trans (hb5.mono HB4.out.size))
  clear hb5
  go_wp2_with fail
  go_ret
  exact ⟨rfl, HB5.out⟩

set_option maxRecDepth 100000 in
set_option maxHeartbeats 4000000 in
theorem made4_any (Z : Option Addr) (m c : Nat) (z : List Int) (w : World) (hZ : IntsR w Z m z) (hm : m ≤ 35184372088832) :
    Calls Try.prog 8 #[.slice Z m c] w fun e w' => e = .returned (.bool true) ∧ Below w.heap.size w w' := by
  have HZ := hide hZ
  clear hZ
  go_enter Try.func8, Try.ntmps8
  go_wp2_with fail
  refine (text_any 30 w.heap.size Z m c z _ (Tap.new HZ.out) (by omega) hm).mono ?_
  rintro e w2 ⟨U, ku, cu, u, rfl, hku, hou, _, _, hg2⟩
  have hb2 : Below w.heap.size w w2 := ((Below.refl _ w).alloc (Nat.le_refl _) (.cells #[.slice Z m c, .int .i64 0] 28)).grown hg2 (by simp) (fun k h => by cases h; exact Nat.le_refl _)
  have HU := hide hou.runes
  have hcu := hou.cap
  have HB2 := hide hb2
  clear hou hg2 hb2 HZ
  go_wp2_with fail
  go_loopw [4] (fun o wx => ∃ y : Nat, y ≤ ku + 3 ∧ o = .int .i64 ((y : Int) - 1) ∧ Hid (Below w2.heap.size w2 wx)) (fun o _ => (ku + 3 - (intOf o + 1)).toNat)
  case atStart => exact ⟨0, by omega, rfl, Below.refl _ _⟩
  case round =>
    obtain ⟨y, hy, rfl, hbel⟩ := hrel
    by_cases hyk : y < ku + 3
    · have h1 : ((y : Int) - 1) ≤ (ku : Int) + 1 := by omega
      have h2 : (y : Int) = ((y + 1 : Nat) : Int) - 1 := by omega
      have H2 := hide h2
      clear h2
      go_wp2_with fail
      refine (same4_any U ku cu ((y : Int) - 1) ((y : Int) - 1) 0 u _ (HU.out.below hbel.out) (by omega) hcu.1 hcu.2 (by unfold I64; omega) (by unfold I64; omega)).mono ?_
      rintro e w3 ⟨rfl, hb3⟩
      have HB3 := hide (hbel.out.trans (hb3.mono hbel.out.size))
      clear hb3
      go_wp2_with fail
      refine (same4_any U ku cu ((y : Int) - 1) 0 ((y : Int) - 1) u _ (HU.out.below HB3.out) (by omega) hcu.1 hcu.2 (by unfold I64; omega) (by unfold I64; omega)).mono ?_
      rintro e w4 ⟨rfl, hb4⟩
      have HB4 := hide (HB3.out.trans (hb4.mono HB3.out.size))
      clear hb4
      go_wp2_with fail
      refine (same4_any U ku cu ((y : Int) - 1) 1 ((y : Int) - 1) u _ (HU.out.below HB4.out) (by omega) hcu.1 hcu.2 (by unfold I64; omega) (by unfold I64; omega)).mono ?_
      rintro e w5 ⟨rfl, hb5⟩
      have HB5 := hide (HB4.out.trans (hb5.mono HB4.out.size))
      clear hb5
      go_wp2_with fail
      go_roundw
      case rel => exact ⟨y + 1, by omega, congrArg (Value.int .i64) H2.out, HB5.out⟩
      case measure => simp [intOf]; omega
    · have h1 : (ku : Int) + 1 < ((y : Int) - 1) := by omega
      go_wp2_with fail
      refine (known4_any _).mono ?_
      rintro e w5 ⟨rfl, hb5⟩
      have HB5 := hide (hbel.out.trans (hb5.mono hbel.out.size))
      clear hb5
      go_wp2_with fail
      go_ret
      exact ⟨rfl, HB2.out.trans (HB5.out.mono HB2.out.size)⟩
end Go.Proofs.Ytkoieceifplphaa
