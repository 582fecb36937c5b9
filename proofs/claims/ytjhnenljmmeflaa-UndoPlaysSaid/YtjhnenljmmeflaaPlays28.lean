/- The walk of standishlaw28.UndoPlays: it answers true. -/
import Derived.Test.YtjhnenljmmeflaaStepD
import Derived.Test.YtjhnenljmmeflaaUndoL
namespace Go.Proofs.Ytjhnenljmmeflaa
open Go.RowKit
set_option linter.unusedVariables false

theorem Two.first {w w1 w2 : World} {t r : Nat} (h1 : TreeM w1 (fun g => w.heap.size ≤ g ∧ g < w1.heap.size) t [root0] 0) (hb1 : Below w.heap.size w w1) (h2 : TreeR w2 (fun g => w1.heap.size ≤ g ∧ g < w2.heap.size) r [root0] 0) (hb2 : Below w1.heap.size w1 w2) :
    Two w w2 (fun g => w.heap.size ≤ g ∧ g < w1.heap.size) (fun g => w1.heap.size ≤ g ∧ g < w2.heap.size) t r [root0] 0 [root0] 0 :=
  ⟨h1.below hb2, h2, fun x hx hq => by omega, fun x hx => hx.1, fun x hx => by have := hb1.size; omega, hb1.trans (hb2.mono hb1.size)⟩

set_option maxRecDepth 100000 in
set_option maxHeartbeats 8000000 in
theorem plays28_any (A : Option Addr) (n c : Nat) (ds : Nat → DV) (w : World) (hD : Deeds w A n ds) (hn : n ≤ c) (hc : c ≤ 9223372036854775807) :
    Calls Try.prog 6 #[.slice A n c] w fun e w' => e = .returned (.bool true) ∧ Below w.heap.size w w' := by
  have HD := hide hD
  clear hD
  go_enter Try.func6, Try.ntmps6
  go_wp2_with fail
  refine (new_any _).mono ?_
  rintro e w1 ⟨t, rfl, hT1, hb1⟩
  go_wp2_with fail
  refine (rnewtree_any _).mono ?_
  rintro e w2 ⟨r, rfl, hR2, hb2⟩
  have HT := hide (Two.first hT1 hb1 hR2 hb2)
  generalize (fun g => w.heap.size ≤ g ∧ g < w1.heap.size) = P0 at HT
  generalize (fun g => w1.heap.size ≤ g ∧ g < w2.heap.size) = Q0 at HT
  clear hT1 hb1 hR2 hb2
  go_wp2_with fail
  go_loopw [3, 5] (fun s3 s5 wx => ∃ (x t : Nat) (P Q : Nat → Prop) (gs : List Grp) (now : Nat), x ≤ n ∧ x ≤ 60 ∧ s3 = .pointer (some ⟨t, 0, none⟩) ∧ s5 = .int .i64 x ∧ Hid (Two w wx P Q t r gs now gs now) ∧ gs.length ≤ x + 1) (fun _ s5 _ => n - (intOf s5).toNat)
  case atStart => exact ⟨0, t, P0, Q0, _, _, Nat.zero_le _, Nat.zero_le _, rfl, rfl, HT.out, Nat.le_refl _⟩
  case round =>
    obtain ⟨x, t, P, Q, gs, now, hx, hx6, rfl, rfl, HT, hl⟩ := hrel
    by_cases hlt : x < n ∧ x < 60
    · obtain ⟨hlt, hlt6⟩ := hlt
      obtain ⟨b, o, hA, h1, h2, h3⟩ := (HD.out.below HT.out.below).at_ x hlt
      have HST := hide (step_any w wr P Q t r gs now (ds x) HT.out (by omega) (HD.out.ok x hlt))
      have i0 : (0 : Int) ≤ (x : Int) := by omega
      have i1 : (x : Int) < (n : Int) := by omega
      have i6 : (x : Int) < 60 := by omega
      clear HT
      subst hA
      go_wp2_with fail
      refine HST.out.mono ?_
      rintro e w3 ⟨t', P', Q', gs', now', rfl, hT', hl'⟩
      have HT' := hide hT'
      have hl2 : gs'.length ≤ x + 1 + 1 := by omega
      obtain ⟨y, hy⟩ : ∃ y, gs'[now']? = some y := ⟨_, List.getElem?_eq_getElem hT'.a.wf.nw⟩
      have HY := hide hy
      clear hT' hl' hl hy h1 h2 h3 HST
      go_wp2_with fail
      refine (undos_any w3 P' t' gs' now' HT'.out.a).mono ?_
      rintro e w4 ⟨rfl, rfl⟩
      go_wp2_with fail
      refine (rundos_any _ Q' r gs' now' HT'.out.b).mono ?_
      rintro e w4 ⟨rfl, rfl⟩
      go_wp2_with fail
      refine (kids_any _ P' t' gs' now' y HT'.out.a HY.out).mono ?_
      rintro e w4 ⟨rfl, q4, rfl⟩
      have HT4 := hide (HT'.out.next (below_drewN (Below.refl _ _) q4))
      clear HT'
      generalize w3.drewN q4 = w5 at HT4 ⊢
      go_wp2_with fail
      refine (rkids_any _ Q' r gs' now' y HT4.out.b HY.out).mono ?_
      rintro e w6 ⟨rfl, q6, rfl⟩
      have HT6 := hide (HT4.out.next (below_drewN (Below.refl _ _) q6))
      clear HT4
      generalize w5.drewN q6 = w7 at HT6 ⊢
      go_wp2_with fail
      go_roundw
      case rel => exact ⟨x + 1, t', P', Q', gs', now', by omega, by omega, rfl, by go_num, HT6.out, hl2⟩
      case measure => simp [intOf]; omega
    · have hm : (¬ x < n) ∨ (x < n ∧ ¬ x < 60) := by omega
      have HB := hide HT.out.below
      clear HT hlt
      rcases hm with hm | ⟨hm, hm6⟩
      · have d1 : decide ((x : Int) < (n : Int)) = false := by simp; omega
        go_wp2_with fail
        refine (known28_any _).mono ?_
        rintro e w8 ⟨rfl, hb8⟩
        have HB8 := hide (HB.out.trans (hb8.mono HB.out.size))
        clear hb8
        go_wp2_with fail
        go_ret
        exact ⟨rfl, HB8.out⟩
      · have d1 : (x : Int) < (n : Int) := by omega
        have d2 : decide ((x : Int) < 60) = false := by simp; omega
        go_wp2_with fail
        refine (known28_any _).mono ?_
        rintro e w8 ⟨rfl, hb8⟩
        have HB8 := hide (HB.out.trans (hb8.mono HB.out.size))
        clear hb8
        go_wp2_with fail
        go_ret
        exact ⟨rfl, HB8.out⟩
end Go.Proofs.Ytjhnenljmmeflaa
