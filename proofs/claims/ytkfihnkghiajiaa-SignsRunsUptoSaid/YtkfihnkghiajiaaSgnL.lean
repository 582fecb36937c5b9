/- Contracts of the functions of layer 1 on texts: each, runs, Case, slices.Compare, Less, and the document's own. -/
import Derived.Test.YtkfihnkghiajiaaSgn
import Derived.Test.YtkfihnkghiajiaaTextA
namespace Go.Proofs.Ytkfihnkghiajiaa
open Go.RowKit
set_option linter.unusedVariables false

theorem nth_map {f : Int → Int} {l : List Int} {j : Nat} (h : j < l.length) : nth (l.map f) j = f (nth l j) := by
  rw [nth_eq (by rw [List.length_map]; exact h), nth_eq h, List.getElem_map]

set_option maxHeartbeats 1000000 in
theorem each_any (g : FuncId) (eg : ∀ args w, (callFunc g args).run Try.prog w = .ok (.enter g args) w) (f : Int → Int) (hf : ∀ r, (-2147483648 ≤ r ∧ r ≤ 2147483647) → -2147483648 ≤ f r ∧ f r ≤ 2147483647)
    (hg : ∀ (r : Int) (w : World), (-2147483648 ≤ r ∧ r ≤ 2147483647) → Calls Try.prog g #[.int .i32 r] w fun e w' => e = .returned (.int .i32 (f r)) ∧ w = w')
    (A : Option Addr) (n c : Nat) (l : List Int) (w : World) (h : Runes w A n l) (hn : n ≤ 35184372088832) :
    Calls Try.prog 45 #[.slice A n c, .func (.func g) #[] #[]] w (NewR w (l.map f)) := by
  have HL := hide h.len
  have HR := hide h
  have HG := hide hg
  have HF := hide hf
  clear hg hf h
  go_enter Try.func45, Try.ntmps45
  go_wp2_with fail
  go_loopw [5, 10] (fun o i wr => ∃ (k : Nat) (O : Option Addr) (oc : Nat), k ≤ n ∧ i = .int .i64 k ∧ o = .slice O k oc ∧ Own wr w.heap.size O k oc ((l.take k).map f) ∧ Below w.heap.size w wr) (fun _ i _ => n - (intOf i).toNat)
  case atStart => exact ⟨0, none, 0, Nat.zero_le _, rfl, rfl, Own.nil _ _, Below.refl _ _⟩
  case round =>
    obtain ⟨k, O, oc, hk, rfl, rfl, hown, hbel⟩ := hrel
    have HO := hide hown
    have HB := hide hbel
    clear hown hbel
    by_cases hlt : k < n
    · obtain ⟨ab, ao, rfl, hc⟩ := (HR.out.below HB.out).at_ k hlt
      have HBD := hide (HR.out.wf.bd k)
      have HT := hide (take_snoc (l := l) (k := k) (by rw [HL.out]; exact hlt))
      generalize nth l k = x at hc HBD HT
      have hQ : ∀ W : World, Runes (W.alloc (.cells #[.int .i32 (f x)] 21)) (some ⟨W.heap.size, 0, none⟩) 1 [f x] := fun W => Runes.news W _ _ [f x] rfl (W32.one (HF.out x HBD.out))
      have HQ := hide hQ
      clear hQ
      go_wp2_with fail
      refine (HG.out _ _ HBD.out).mono ?_
      rintro e w' ⟨rfl, rfl⟩
      go_wp2_with (at_builtin; refine wpList_app rfl (.tmp 14) (.tmp 18) rfl w.heap.size rfl (HO.out.alloc _) rfl (HQ.out _) (by omega) (by have := HB.out.size; simp; omega) ?_
                   intro A3 c3 w6 hown6 hg6 hb6 hat6 g3)
      go_roundw
      case rel => exact ⟨k + 1, A3, c3, by omega, by go_num, rfl, by rw [HT.out, List.map_append]; exact hown6, (HB.out.alloc HB.out.size _).trans hb6⟩
      case measure => simp [intOf]; omega
    · obtain rfl : k = n := by omega
      go_wp2
      go_ret
      refine ⟨O, k, oc, rfl, ?_, HB.out⟩
      have := HO.out
      rwa [List.take_of_length_le (by rw [HL.out]; exact Nat.le_refl _)] at this

/-- The ways of an element of a text, as the walks ask for them. -/
theorem part_ways (x : Int) : (clsS x = 3 ∧ x ≠ 95 ∧ partS x = true) ∨ (clsS x = 3 ∧ x = 95 ∧ partS x = false) ∨ (clsS x ≠ 3 ∧ partS x = false) := by
  unfold partS
  by_cases h : clsS x = 3
  · by_cases h2 : x = 95
    · exact .inr (.inl ⟨h, h2, by simp [h2]⟩)
    · exact .inl ⟨h, h2, by simp [h, h2]⟩
  · exact .inr (.inr ⟨h, by simp [h]⟩)

set_option maxHeartbeats 4000000 in
theorem runs_any (g : FuncId) (eg : ∀ args w, (callFunc g args).run Try.prog w = .ok (.enter g args) w) (f : Int → Int) (hf : ∀ r, (-2147483648 ≤ r ∧ r ≤ 2147483647) → -2147483648 ≤ f r ∧ f r ≤ 2147483647)
    (hg : ∀ (r : Int) (w : World), (-2147483648 ≤ r ∧ r ≤ 2147483647) → Calls Try.prog g #[.int .i32 r] w fun e w' => e = .returned (.int .i32 (f r)) ∧ w = w')
    (A : Option Addr) (n c : Nat) (l : List Int) (w : World) (h : Runes w A n l) (hn : n ≤ 35184372088832) :
    Calls Try.prog 47 #[.slice A n c, .func (.func g) #[] #[]] w (NewR w (runS f l)) := by
  have HL := hide h.len
  have HR := hide h
  have HG := hide hg
  have HF := hide hf
  have HCL := hide class_any
  have HUP := hide upper_any
  clear hg hf h
  go_enter Try.func47, Try.ntmps47
  go_wp2_with fail
  go_loopw [5, 6, 12] (fun o b i wr => ∃ (k : Nat) (O : Option Addr) (on oc : Nat) (bi : Bool) (out : List Int), k ≤ n ∧ on ≤ k ∧ i = .int .i64 k ∧ b = .bool bi ∧ o = .slice O on oc ∧ Own wr w.heap.size O on oc out ∧ Below w.heap.size w wr ∧ Hid (runGo f bi out (l.drop k) = runS f l)) (fun _ _ i _ => n - (intOf i).toNat)
  case atStart => exact ⟨0, none, 0, 0, false, [], Nat.zero_le _, Nat.le_refl _, rfl, rfl, rfl, Own.nil _ _, Below.refl _ _, rfl⟩
  case round =>
    obtain ⟨k, O, on, oc, bi, out, hk, hok, rfl, rfl, rfl, hown, hbel, hrun⟩ := hrel
    have HO := hide hown
    have HB := hide hbel
    have HOL := hide hown.len
    clear hown hbel
    by_cases hlt : k < n
    · obtain ⟨ab, ao, rfl, hc⟩ := (HR.out.below HB.out).at_ k hlt
      have HBD := hide (HR.out.wf.bd k)
      have HT := hide (runGo_drop (f := f) (s := l) (k := k) (i := bi) (out := out) (by rw [HL.out]; exact hlt))
      generalize nth l k = x at hc HBD HT
      rcases part_ways x with ⟨p1, p2, p3⟩ | ⟨p1, p2, p3⟩ | ⟨p1, p3⟩
      · -- a part
        have hcx := fun W => HCL.out x W
        rw [p1] at hcx
        have HCX := hide hcx
        have HP := hide p3
        have e1 : (x != 95) = true := by simpa using p2
        clear hcx p1 p2 p3
        cases bi
        · by_cases ho : on = 0
          · subst ho
            have HST := hide (show runStep f false out x = out ++ [f x] by unfold runStep; rw [HP.out]; simp [HOL.out])
            have HQ := hide (fun W : World => Runes.news W #[.int .i32 (f x)] 21 [f x] rfl (W32.one (HF.out x HBD.out)))
            go_wp2_with fail
            refine (HCX.out _).mono ?_
            rintro e w' ⟨rfl, rfl⟩
            go_wp2_with fail
            refine (HG.out _ _ HBD.out).mono ?_
            rintro e w' ⟨rfl, rfl⟩
            go_wp2_with (at_builtin; refine wpList_app rfl (.tmp 34) (.tmp 38) rfl w.heap.size rfl (HO.out.alloc _) rfl (HQ.out _) (by omega) (by have := HB.out.size; simp; omega) ?_
                         intro A3 c3 w6 hown6 hg6 hb6 hat6 g3)
            go_roundw
            case rel => exact ⟨k + 1, A3, _, c3, true, out ++ [f x], by omega, by omega, by go_num, rfl, rfl, hown6, (HB.out.alloc HB.out.size _).trans hb6, by
              have h1 := hrun.out
              rw [HT.out, HP.out, HST.out] at h1
              exact h1⟩
            case measure => simp [intOf]; omega
          · have e2 : ((on : Int) == 0) = false := by simpa using ho
            have HST := hide (show runStep f false out x = out ++ [upS x] by unfold runStep; rw [HP.out]; simp [HOL.out, ho])
            have HQ := hide (fun W : World => Runes.news W #[.int .i32 (upS x)] 21 [upS x] rfl (W32.one (up_bd HBD.out)))
            clear ho
            go_wp2_with fail
            refine (HCX.out _).mono ?_
            rintro e w' ⟨rfl, rfl⟩
            go_wp2_with fail
            refine (HUP.out x _ HBD.out).mono ?_
            rintro e w' ⟨rfl, rfl⟩
            go_wp2_with (at_builtin; refine wpList_app rfl (.tmp 46) (.tmp 49) rfl w.heap.size rfl (HO.out.alloc _) rfl (HQ.out _) (by omega) (by have := HB.out.size; simp; omega) ?_
                         intro A3 c3 w6 hown6 hg6 hb6 hat6 g3)
            go_roundw
            case rel => exact ⟨k + 1, A3, _, c3, true, out ++ [upS x], by omega, by omega, by go_num, rfl, rfl, hown6, (HB.out.alloc HB.out.size _).trans hb6, by
              have h1 := hrun.out
              rw [HT.out, HP.out, HST.out] at h1
              exact h1⟩
            case measure => simp [intOf]; omega
        · have HST := hide (show runStep f true out x = out ++ [x] by unfold runStep; rw [HP.out]; simp)
          have HQ := hide (fun W : World => Runes.news W #[.int .i32 x] 21 [x] rfl (W32.one HBD.out))
          go_wp2_with fail
          refine (HCX.out _).mono ?_
          rintro e w' ⟨rfl, rfl⟩
          go_wp2_with (at_builtin; refine wpList_app rfl (.tmp 53) (.tmp 55) rfl w.heap.size rfl (HO.out.alloc _) rfl (HQ.out _) (by omega) (by have := HB.out.size; simp; omega) ?_
                       intro A3 c3 w6 hown6 hg6 hb6 hat6 g3)
          go_roundw
          case rel => exact ⟨k + 1, A3, _, c3, true, out ++ [x], by omega, by omega, by go_num, rfl, rfl, hown6, (HB.out.alloc HB.out.size _).trans hb6, by
            have h1 := hrun.out
            rw [HT.out, HP.out, HST.out] at h1
            exact h1⟩
          case measure => simp [intOf]; omega
      · -- the underscore
        have hcx := fun W => HCL.out x W
        rw [p1] at hcx
        have HCX := hide hcx
        have HP := hide p3
        have e1 : (x != 95) = false := by simpa using p2
        clear hcx p1 p2 p3
        go_wp2_with fail
        refine (HCX.out _).mono ?_
        rintro e w' ⟨rfl, rfl⟩
        go_wp2_with fail
        go_roundw
        case rel => exact ⟨k + 1, O, on, oc, false, out, by omega, by omega, by go_num, rfl, rfl, HO.out, HB.out, by
          have h1 := hrun.out
          rw [HT.out, HP.out, show runStep f bi out x = out by unfold runStep; rw [HP.out]; simp] at h1
          exact h1⟩
        case measure => simp [intOf]; omega
      · have HP := hide p3
        have e1 : (clsS x == 3) = false := by simpa using p1
        clear p1 p3
        go_wp2_with fail
        refine (HCL.out _ _).mono ?_
        rintro e w' ⟨rfl, rfl⟩
        go_wp2_with fail
        go_roundw
        case rel => exact ⟨k + 1, O, on, oc, false, out, by omega, by omega, by go_num, rfl, rfl, HO.out, HB.out, by
          have h1 := hrun.out
          rw [HT.out, HP.out, show runStep f bi out x = out by unfold runStep; rw [HP.out]; simp] at h1
          exact h1⟩
        case measure => simp [intOf]; omega
    · obtain rfl : k = n := by omega
      go_wp2
      go_ret
      refine ⟨O, on, oc, rfl, ?_, HB.out⟩
      have h1 := hrun.out
      rw [List.drop_of_length_le (by rw [HL.out]; exact Nat.le_refl _)] at h1
      rw [← h1]
      exact HO.out
end Go.Proofs.Ytkfihnkghiajiaa
