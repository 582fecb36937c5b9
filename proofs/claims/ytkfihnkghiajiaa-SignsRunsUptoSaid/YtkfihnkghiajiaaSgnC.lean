/- Contracts of signs.Case and standishref1.Case: one function of lists. -/
import Derived.Test.YtkfihnkghiajiaaSgnL
namespace Go.Proofs.Ytkfihnkghiajiaa
open Go.RowKit
set_option linter.unusedVariables false

theorem capS_set {l : List Int} (h : 0 < l.length) : capS l = l.set 0 (upS (nth l 0)) := by
  cases l with
  | nil => simp at h
  | cons x l => rfl

theorem enter_upper : ∀ args w, (callFunc 15 args).run Try.prog w = .ok (.enter 15 args) w := fun args w => by
  first | rfl | kernel_rfl | simp [callFunc, Try.func15]
theorem enter_lower : ∀ args w, (callFunc 16 args).run Try.prog w = .ok (.enter 16 args) w := fun args w => by
  first | rfl | kernel_rfl | simp [callFunc, Try.func16]

theorem how_ways (how : Int) : how = 1 ∨ how = 2 ∨ how = 3 ∨ how = 4 ∨ how = 5 ∨ (how ≠ 1 ∧ how ≠ 2 ∧ how ≠ 3 ∧ how ≠ 4 ∧ how ≠ 5) := by omega

set_option maxHeartbeats 2000000 in
theorem case_any (A : Option Addr) (n c : Nat) (how : Int) (l : List Int) (w : World) (h : Runes w A n l) (hn : n ≤ 35184372088832) :
    Calls Try.prog 25 #[.slice A n c, .int .i64 how] w (NewR w (caseS l how)) := by
  have HR := hide h
  have HL := hide h.len
  clear h
  rcases how_ways how with rfl | rfl | rfl | rfl | rfl | ⟨n1, n2, n3, n4, n5⟩
  · have HC := hide (each_any 15 enter_upper upS (fun r => up_bd) upper_any A n c l w HR.out hn)
    rw [show caseS l 1 = l.map upS from rfl]
    go_enter Try.func25, Try.ntmps25
    go_wp2_with fail
    refine HC.out.mono ?_
    rintro e w' ⟨A', n', c', rfl, ho, hb⟩
    have H1 := hide ho
    have H2 := hide hb
    clear ho hb
    go_wp2_with fail
    go_ret
    exact ⟨A', n', c', rfl, H1.out, H2.out⟩
  · have HC := hide (each_any 16 enter_lower loS (fun r => lo_bd) lower_any A n c l w HR.out hn)
    rw [show caseS l 2 = l.map loS from rfl]
    go_enter Try.func25, Try.ntmps25
    go_wp2_with fail
    refine HC.out.mono ?_
    rintro e w' ⟨A', n', c', rfl, ho, hb⟩
    have H1 := hide ho
    have H2 := hide hb
    clear ho hb
    go_wp2_with fail
    go_ret
    exact ⟨A', n', c', rfl, H1.out, H2.out⟩
  · rw [show caseS l 3 = capS l from rfl]
    have HC := hide (clone_any A n c l w HR.out hn)
    go_enter Try.func25, Try.ntmps25
    go_wp2_with fail
    refine HC.out.mono ?_
    rintro e w' ⟨A', n', c', rfl, ho, hb⟩
    have hn' : n' = n := by rw [← ho.len, HL.out]
    have H1 := hide ho
    have H2 := hide hb
    clear ho hb
    by_cases h0 : 0 < n
    · have HS := hide (capS_set (l := l) (by rw [HL.out]; exact h0))
      have hf := H1.out.form
      rcases hf with ⟨_, hz, _⟩ | ⟨g, rfl, hg1, hg2⟩
      · omega
      · subst hn'
        have hcc := H1.out.cell h0
        have hfz := H1.out.frozen 0
        have HB := hide (HR.out.wf.bd 0)
        have HUP := hide (upper_any (nth l 0))
        clear hg2
        go_wp2_with fail
        refine (HUP.out _ HB.out).mono ?_
        rintro e w2 ⟨rfl, rfl⟩
        go_wp2_with fail
        go_ret
        exact ⟨_, _, _, rfl, by rw [HS.out]; exact H1.out.set h0 (up_bd HB.out), H2.out.setCell (p := ⟨g, 0, none⟩) hg1 _⟩
    · have HS := hide (show capS l = l by rw [List.eq_nil_of_length_eq_zero (l := l) (by have := HL.out; omega)]; rfl)
      subst hn'
      go_wp2_with fail
      go_ret
      exact ⟨A', n', c', rfl, by rw [HS.out]; exact H1.out, H2.out⟩
  · have HC := hide (runs_any 15 enter_upper upS (fun r => up_bd) upper_any A n c l w HR.out hn)
    rw [show caseS l 4 = runS upS l from rfl]
    go_enter Try.func25, Try.ntmps25
    go_wp2_with fail
    refine HC.out.mono ?_
    rintro e w' ⟨A', n', c', rfl, ho, hb⟩
    have H1 := hide ho
    have H2 := hide hb
    clear ho hb
    go_wp2_with fail
    go_ret
    exact ⟨A', n', c', rfl, H1.out, H2.out⟩
  · have HC := hide (runs_any 16 enter_lower loS (fun r => lo_bd) lower_any A n c l w HR.out hn)
    rw [show caseS l 5 = runS loS l from rfl]
    go_enter Try.func25, Try.ntmps25
    go_wp2_with fail
    refine HC.out.mono ?_
    rintro e w' ⟨A', n', c', rfl, ho, hb⟩
    have H1 := hide ho
    have H2 := hide hb
    clear ho hb
    go_wp2_with fail
    go_ret
    exact ⟨A', n', c', rfl, H1.out, H2.out⟩
  · have HC := hide (clone_any A n c l w HR.out hn)
    have HE := hide (show caseS l how = l by unfold caseS; rw [if_neg n1, if_neg n2, if_neg n3, if_neg n4, if_neg n5])
    have e1 : (how == 1) = false := by simpa using n1
    have e2 : (how == 2) = false := by simpa using n2
    have e3 : (how == 3) = false := by simpa using n3
    have e4 : (how == 4) = false := by simpa using n4
    have e5 : (how == 5) = false := by simpa using n5
    clear n1 n2 n3 n4 n5
    go_enter Try.func25, Try.ntmps25
    go_wp2_with fail
    refine HC.out.mono ?_
    rintro e w' ⟨A', n', c', rfl, ho, hb⟩
    have H1 := hide ho
    have H2 := hide hb
    clear ho hb
    go_wp2_with fail
    go_ret
    exact ⟨A', n', c', rfl, by rw [HE.out]; exact H1.out, H2.out⟩

set_option maxHeartbeats 4000000 in
theorem pascal_any (A : Option Addr) (n c : Nat) (camel : Bool) (l : List Int) (w : World) (h : Runes w A n l) (hn : n ≤ 35184372088832) :
    Calls Try.prog 48 #[.slice A n c, .bool camel] w (NewR w (runS (if camel then loS else upS) l)) := by
  have HL := hide h.len
  have HR := hide h
  have HCL := hide rclass_any
  have HUP := hide rupper_any
  have HLO := hide rlower_any
  clear h
  obtain ⟨f, hf⟩ : ∃ f, (if camel then loS else upS) = f := ⟨_, rfl⟩
  rw [hf]
  have HFF := hide hf
  clear hf
  go_enter Try.func48, Try.ntmps48
  go_wp2_with fail
  go_loopw [5, 6, 7] (fun o b i wr => ∃ (k : Nat) (O : Option Addr) (on oc : Nat) (bi : Bool) (out : List Int), k ≤ n ∧ on ≤ k ∧ i = .int .i64 k ∧ b = .bool bi ∧ o = .slice O on oc ∧ Own wr w.heap.size O on oc out ∧ Below w.heap.size w wr ∧ Hid (runGo f bi out (l.drop k) = runS f l)) (fun _ _ i _ => n - (intOf i).toNat)
  case atStart => exact ⟨0, none, 0, 0, false, [], Nat.zero_le _, Nat.le_refl _, rfl, rfl, rfl, Own.nil _ _, Below.refl _ _, rfl⟩
  case round =>
    obtain ⟨k, O, on, oc, bi, out, hk, hok, rfl, rfl, rfl, hown, hbel, hrun⟩ := hrel
    have HO := hide hown
    have HB := hide hbel
    have HOL := hide hown.len
    clear hown hbel
    by_cases hlt : k < n
    · obtain ⟨ab, ao, rfl, hc⟩ := (HR.out.below HB.out).at_ k hlt
      have HBD := hide (HR.out.wf.bd k)
      have HT := hide (runGo_drop (f := f) (s := l) (k := k) (i := bi) (out := out) (by rw [HL.out]; exact hlt))
      generalize nth l k = x at hc HBD HT
      rcases part_ways x with ⟨p1, p2, p3⟩ | ⟨p1, p2, p3⟩ | ⟨p1, p3⟩
      · have hcx := fun W => HCL.out x W
        rw [p1] at hcx
        have HCX := hide hcx
        have HP := hide p3
        have e1 : (x != 95) = true := by simpa using p2
        clear hcx p1 p2 p3
        cases bi
        · have hgo : (camel = true ∧ on = 0) ∨ camel = false ∨ (camel = true ∧ on ≠ 0) := by cases camel <;> simp; omega
          have HFX := hide (show runStep f false out x = out ++ [if out.length = 0 then f x else upS x] by unfold runStep; rw [HP.out]; by_cases h0 : out.length = 0 <;> simp [h0])
          rcases hgo with ⟨hcm, h0⟩ | hcm | ⟨hcm, h0⟩
          · subst hcm h0
            have HST := hide (show (if out.length = 0 then f x else upS x) = loS x by rw [HOL.out, if_pos rfl, ← HFF.out]; rfl)
            have HQ := hide (fun W : World => Runes.news W #[.int .i32 (loS x)] 21 [loS x] rfl (W32.one (lo_bd HBD.out)))
            go_wp2_with fail
            refine (HCX.out _).mono ?_
            rintro e w' ⟨rfl, rfl⟩
            go_wp2_with fail
            refine (HLO.out _ _ HBD.out).mono ?_
            rintro e w' ⟨rfl, rfl⟩
            go_wp2_with (at_builtin; refine wpList_app rfl (.tmp 55) (.tmp 61) rfl w.heap.size rfl (HO.out.alloc _) rfl (HQ.out _) (by omega) (by have := HB.out.size; simp; omega) ?_
                         intro A3 c3 w6 hown6 hg6 hb6 hat6 g3)
            go_roundw
            case rel => exact ⟨k + 1, A3, _, c3, true, out ++ [loS x], by omega, by omega, by go_num, rfl, rfl, hown6, (HB.out.alloc HB.out.size _).trans hb6, by
              have h1 := hrun.out
              rw [HT.out, HP.out, HFX.out, HST.out] at h1
              exact h1⟩
            case measure => simp [intOf]; omega
          · subst hcm
            have HST := hide (show (if out.length = 0 then f x else upS x) = upS x by rw [← HFF.out]; simp)
            have HQ := hide (fun W : World => Runes.news W #[.int .i32 (upS x)] 21 [upS x] rfl (W32.one (up_bd HBD.out)))
            go_wp2_with fail
            refine (HCX.out _).mono ?_
            rintro e w' ⟨rfl, rfl⟩
            go_wp2_with fail
            refine (HUP.out _ _ HBD.out).mono ?_
            rintro e w' ⟨rfl, rfl⟩
            go_wp2_with (at_builtin; refine wpList_app rfl (.tmp 28) (.tmp 34) rfl w.heap.size rfl (HO.out.alloc _) rfl (HQ.out _) (by omega) (by have := HB.out.size; simp; omega) ?_
                         intro A3 c3 w6 hown6 hg6 hb6 hat6 g3)
            go_roundw
            case rel => exact ⟨k + 1, A3, _, c3, true, out ++ [upS x], by omega, by omega, by go_num, rfl, rfl, hown6, (HB.out.alloc HB.out.size _).trans hb6, by
              have h1 := hrun.out
              rw [HT.out, HP.out, HFX.out, HST.out] at h1
              exact h1⟩
            case measure => simp [intOf]; omega
          · subst hcm
            have e2 : ((on : Int) == 0) = false := by simpa using h0
            have HST := hide (show (if out.length = 0 then f x else upS x) = upS x by rw [HOL.out, if_neg h0])
            have HQ := hide (fun W : World => Runes.news W #[.int .i32 (upS x)] 21 [upS x] rfl (W32.one (up_bd HBD.out)))
            clear h0
            go_wp2_with fail
            refine (HCX.out _).mono ?_
            rintro e w' ⟨rfl, rfl⟩
            go_wp2_with fail
            refine (HUP.out _ _ HBD.out).mono ?_
            rintro e w' ⟨rfl, rfl⟩
            go_wp2_with (at_builtin; refine wpList_app rfl (.tmp 28) (.tmp 34) rfl w.heap.size rfl (HO.out.alloc _) rfl (HQ.out _) (by omega) (by have := HB.out.size; simp; omega) ?_
                         intro A3 c3 w6 hown6 hg6 hb6 hat6 g3)
            go_roundw
            case rel => exact ⟨k + 1, A3, _, c3, true, out ++ [upS x], by omega, by omega, by go_num, rfl, rfl, hown6, (HB.out.alloc HB.out.size _).trans hb6, by
              have h1 := hrun.out
              rw [HT.out, HP.out, HFX.out, HST.out] at h1
              exact h1⟩
            case measure => simp [intOf]; omega
        · have HST := hide (show runStep f true out x = out ++ [x] by unfold runStep; rw [HP.out]; simp)
          have HQ := hide (fun W : World => Runes.news W #[.int .i32 x] 21 [x] rfl (W32.one HBD.out))
          go_wp2_with fail
          refine (HCX.out _).mono ?_
          rintro e w' ⟨rfl, rfl⟩
          go_wp2_with (at_builtin; refine wpList_app rfl (.tmp 41) (.tmp 46) rfl w.heap.size rfl (HO.out.alloc _) rfl (HQ.out _) (by omega) (by have := HB.out.size; simp; omega) ?_
                       intro A3 c3 w6 hown6 hg6 hb6 hat6 g3)
          go_roundw
          case rel => exact ⟨k + 1, A3, _, c3, true, out ++ [x], by omega, by omega, by go_num, rfl, rfl, hown6, (HB.out.alloc HB.out.size _).trans hb6, by
            have h1 := hrun.out
            rw [HT.out, HP.out, HST.out] at h1
            exact h1⟩
          case measure => simp [intOf]; omega
      · have hcx := fun W => HCL.out x W
        rw [p1] at hcx
        have HCX := hide hcx
        have HP := hide p3
        have e1 : (x != 95) = false := by simpa using p2
        clear hcx p1 p2 p3
        go_wp2_with fail
        refine (HCX.out _).mono ?_
        rintro e w' ⟨rfl, rfl⟩
        go_wp2_with fail
        go_roundw
        case rel => exact ⟨k + 1, O, on, oc, false, out, by omega, by omega, by go_num, rfl, rfl, HO.out, HB.out, by
          have h1 := hrun.out
          rw [HT.out, HP.out, show runStep f bi out x = out by unfold runStep; rw [HP.out]; simp] at h1
          exact h1⟩
        case measure => simp [intOf]; omega
      · have HP := hide p3
        have e1 : (clsS x == 3) = false := by simpa using p1
        clear p1 p3
        go_wp2_with fail
        refine (HCL.out _ _).mono ?_
        rintro e w' ⟨rfl, rfl⟩
        go_wp2_with fail
        go_roundw
        case rel => exact ⟨k + 1, O, on, oc, false, out, by omega, by omega, by go_num, rfl, rfl, HO.out, HB.out, by
          have h1 := hrun.out
          rw [HT.out, HP.out, show runStep f bi out x = out by unfold runStep; rw [HP.out]; simp] at h1
          exact h1⟩
        case measure => simp [intOf]; omega
    · obtain rfl : k = n := by omega
      go_wp2
      go_ret
      refine ⟨O, on, oc, rfl, ?_, HB.out⟩
      have h1 := hrun.out
      rw [List.drop_of_length_le (by rw [HL.out]; exact Nat.le_refl _)] at h1
      rw [← h1]
      exact HO.out
end Go.Proofs.Ytkfihnkghiajiaa
