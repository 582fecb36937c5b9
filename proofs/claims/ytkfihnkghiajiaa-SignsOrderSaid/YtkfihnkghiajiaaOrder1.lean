/- The walk of standishlaw1.SignsOrder: it answers true. -/
import Derived.Test.YtkfihnkghiajiaaKnown1
namespace Go.Proofs.Ytkfihnkghiajiaa
open Go.RowKit
set_option linter.unusedVariables false

/-- How many of the first ones are true. -/
def cntB (l : List Bool) (k : Nat) : Nat := ((l.take k).filter id).length
theorem cntB_step {l : List Bool} {k : Nat} {b : Bool} (h : l[k]? = some b) : cntB l (k + 1) = cntB l k + (if b then 1 else 0) := by
  obtain ⟨hk, hx⟩ := List.getElem?_eq_some_iff.1 h
  unfold cntB
  rw [List.take_succ_eq_append_getElem hk, hx, List.filter_append, List.length_append]
  cases b <;> rfl
theorem cntB_le (l : List Bool) (k : Nat) : cntB l k ≤ l.length := by
  unfold cntB
  exact Nat.le_trans (List.length_filter_le _ _) (by rw [List.length_take]; omega)

set_option maxRecDepth 100000 in
set_option maxHeartbeats 4000000 in
theorem order1_any (A B C : Option Addr) (na ca nb cb nc cc : Nat) (more : Int) (a b c : List Int) (w : World) (hA : Runes w A na a) (hB : Runes w B nb b) (hC : Runes w C nc c)
    (ha : na + 2 ≤ 35184372088832) (hb : nb + 2 ≤ 35184372088832) (hc : nc + 2 ≤ 35184372088832) (hm : -2147483648 ≤ more ∧ more ≤ 2147483647) :
    Calls Try.prog 6 #[.slice A na ca, .slice B nb cb, .slice C nc cc, .int .i32 more] w fun e w' => e = .returned (.bool true) ∧ Below w.heap.size w w' := by
  have HA := hide hA
  have HB := hide hB
  have HC := hide hC
  have H1 := hide (show cntB [lessS a b, lessS b a, sameS a b] 3 = 1 by
    rcases less_three a b with ⟨h1, h2, h3⟩ | ⟨h1, h2, h3⟩ | ⟨h1, h2, h3⟩
    · rw [h1, h2, show sameS a b = false by simp [sameS, h3]]; rfl
    · rw [h1, h2, show sameS a b = false by simp [sameS, h3]]; rfl
    · rw [h1, h2, show sameS a b = true by simp [sameS, h3]]; rfl)
  have H2 := hide (show lessS a b = false ∨ (lessS a b = true ∧ lessS b c = false) ∨ (lessS a b = true ∧ lessS b c = true ∧ lessS a c = true) by
    cases h1 : lessS a b
    · exact .inl rfl
    · cases h2 : lessS b c
      · exact .inr (.inl ⟨rfl, rfl⟩)
      · exact .inr (.inr ⟨rfl, rfl, less_trans h1 h2⟩))
  have HQ := hide (newsAt · · · #[.int .i32 more] [more] rfl (W32.one hm))
  have L1 := hide (less_more a more)
  have L2 := hide (show lessS (a ++ [more]) a = false by
    rcases less_three a (a ++ [more]) with ⟨h1, h2, h3⟩ | ⟨h1, h2, h3⟩ | ⟨h1, h2, h3⟩
    · exact h2
    · rw [less_more] at h1; cases h1
    · rw [less_more] at h1; cases h1)
  have L3 := hide (show sameS a (a ++ [more]) = false by
    refine sameS_len ?_
    simp)
  clear hA hB hC hm
  go_enter Try.func6, Try.ntmps6
  go_wp2_with fail
  refine (less_any A B na ca nb cb a b _ HA.out HB.out (by omega) (by omega)).mono ?_
  rintro e w1 ⟨rfl, rfl⟩
  go_wp2_with fail
  refine (less_any B A nb cb na ca b a _ HB.out HA.out (by omega) (by omega)).mono ?_
  rintro e w1 ⟨rfl, rfl⟩
  go_wp2_with fail
  refine (same_any A B na ca nb cb a b _ HA.out HB.out (by omega) (by omega)).mono ?_
  rintro e w1 ⟨rfl, q1, rfl⟩
  obtain ⟨x1, hx1⟩ : ∃ x, lessS a b = x := ⟨_, rfl⟩
  obtain ⟨x2, hx2⟩ : ∃ x, lessS b a = x := ⟨_, rfl⟩
  obtain ⟨x3, hx3⟩ : ∃ x, sameS a b = x := ⟨_, rfl⟩
  rw [hx1, hx2, hx3] at H1
  simp only [hx1, hx2, hx3]
  have HX1 := hide hx1
  clear hx1 hx2 hx3
  go_wp2_with fail
  generalize hW : World.alloc _ _ = w2
  have hbx : Box w2 w.heap.size 4 #[.bool x1, .bool x2, .bool x3] := by
    subst hW
    exact Box.new (w.drewN q1) _ _
  have hb2 : Below w.heap.size w w2 := by
    subst hW
    exact (belowN (Below.refl _ _) q1).alloc (Nat.le_refl _) _
  clear hW
  have HBX := hide hbx
  have HB2 := hide hb2
  clear hbx hb2
  go_loopw [9, 24] (fun n i wx => ∃ k : Nat, k ≤ 3 ∧ i = .int .i64 k ∧ n = .int .i64 (cntB [x1, x2, x3] k) ∧ w2 = wx) (fun _ i _ => 3 - (intOf i).toNat)
  case atStart => exact ⟨0, by omega, rfl, rfl, rfl⟩
  case round =>
    obtain ⟨k, hk, rfl, rfl, rfl⟩ := hrel
    by_cases hk3 : k < 3
    · have h0 : (0 : Int) ≤ (k : Int) := by omega
      have h1' : (k : Int) < 3 := by omega
      obtain ⟨v, hv, hcl⟩ : ∃ v : Bool, [x1, x2, x3][k]? = some v ∧ w2.cell? ⟨w.heap.size, k, none⟩ = some (.bool v) := by
        have h3 := HBX.out.c3
        match k, hk3 with
        | 0, _ => exact ⟨_, rfl, h3.1.1⟩
        | 1, _ => exact ⟨_, rfl, h3.1.2.1⟩
        | 2, _ => exact ⟨_, rfl, h3.1.2.2⟩
      have hst := cntB_step hv
      have hle := cntB_le [x1, x2, x3] k
      have hlen : [x1, x2, x3].length = 3 := rfl
      rw [hlen] at hle
      have HST := hide hst
      clear hst hlen hv
      generalize cntB [x1, x2, x3] k = cn at hle HST
      cases v
      · go_wp2_with fail
        go_roundw
        case rel => exact ⟨k + 1, by omega, by go_num, by rw [HST.out]; simp, by first | rfl | trivial⟩
        case measure => simp [intOf]; omega
      · go_wp2_with fail
        go_roundw
        case rel => exact ⟨k + 1, by omega, by go_num, by rw [HST.out]; go_num, by first | rfl | trivial⟩
        case measure => simp [intOf]; omega
    · obtain rfl : k = 3 := by omega
      rw [H1.out]
      have hA2 := hide (HA.out.below HB2.out)
      have hB2 := hide (HB.out.below HB2.out)
      have hC2 := hide (HC.out.below HB2.out)
      have hLab := hide (less_any A B na ca nb cb a b _ hA2.out hB2.out (by omega) (by omega))
      have hLbc := hide (less_any B C nb cb nc cc b c _ hB2.out hC2.out (by omega) (by omega))
      have hLac := hide (less_any A C na ca nc cc a c _ hA2.out hC2.out (by omega) (by omega))
      have hgo := H2.out
      rcases hgo with e1 | ⟨e1, e2⟩ | ⟨e1, e2, e3⟩
      case' inl => rw [e1] at hLab
      case' inr.inl => rw [e1] at hLab
                       rw [e2] at hLbc
      case' inr.inr => rw [e1] at hLab
                       rw [e2] at hLbc
                       rw [e3] at hLac
                       clear e3
      case' inr.inl => clear e2
      case' inr.inr => clear e2
      all_goals clear e1
      all_goals go_wp2_with (first
        | (go_at_call 23; (first | (with_reducible refine hLab.out.mono ?_) | (with_reducible refine hLbc.out.mono ?_) | (with_reducible refine hLac.out.mono ?_)); rintro e w3 ⟨rfl, rfl⟩)
        | (at_builtin
           refine wpList_app0 rfl (.const (.slice none 0 0)) (.tmp 46) rfl w2.heap.size rfl rfl hA2.out (by omega) (Nat.le_refl _) ?_
           intro A3 c3 w3 ho3 hb3 _ _
           have HO3 := hide ho3
           have HB3 := hide hb3
           clear ho3 hb3)
        | (at_builtin
           refine wpList_app rfl (.tmp 47) (.tmp 49) rfl w2.heap.size rfl (HO3.out.alloc _) rfl (HQ.out w3 _ rfl) (by omega) (by have := HB3.out.size; simp; omega) ?_
           intro A4 c4 w4 ho4 hg4 hb4 _ _
           have HO4 := hide ho4.runes
           have HB4 := hide ((HB3.out.alloc HB3.out.size _).trans hb4)
           clear ho4 hg4 hb4))
      all_goals refine (less_any A A4 na ca (na + 1) c4 a (a ++ [more]) _ (hA2.out.below HB4.out) HO4.out (by omega) (by omega)).mono ?_
      all_goals rintro e w5 ⟨rfl, rfl⟩
      all_goals rw [L1.out]
      all_goals go_wp2_with fail
      all_goals refine (less_any A4 A (na + 1) c4 na ca (a ++ [more]) a _ HO4.out (hA2.out.below HB4.out) (by omega) (by omega)).mono ?_
      all_goals rintro e w5 ⟨rfl, rfl⟩
      all_goals rw [L2.out]
      all_goals go_wp2_with fail
      all_goals refine (same_any A A4 na ca (na + 1) c4 a (a ++ [more]) _ (hA2.out.below HB4.out) HO4.out (by omega) (by omega)).mono ?_
      all_goals rintro e w5 ⟨rfl, q5, rfl⟩
      all_goals rw [L3.out]
      all_goals go_wp2_with fail
      all_goals refine (known1_any _).mono ?_
      all_goals rintro e w7 ⟨rfl, hb7⟩
      all_goals have HB7 := hide ((belowN HB4.out q5).trans (hb7.mono HB4.out.size))
      all_goals clear hb7
      all_goals go_wp2_with fail
      all_goals go_ret
      all_goals exact ⟨rfl, HB2.out.trans (HB7.out.mono HB2.out.size)⟩
end Go.Proofs.Ytkfihnkghiajiaa
