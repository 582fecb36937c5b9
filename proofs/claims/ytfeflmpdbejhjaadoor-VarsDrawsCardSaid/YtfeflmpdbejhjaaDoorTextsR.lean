/- standishref13.texts: what a name of the texts tells. -/
import Derived.Test.YtfeflmpdbejhjaaDoorTold
import Derived.Deep.CutBlock
import Derived.Deep.DeepCutAuto
namespace Go.Proofs.YtfeflmpdbejhjaaDoor
open Go.RowKit
set_option linter.unusedVariables false


set_option maxRecDepth 100000 in
set_option maxHeartbeats 8000000 in
theorem texts_any (e : EnvH) (v : EnvV) (u : Nat) (cn : Fin 7 → Nat) (S : ByteArray) (w : World) (h : EnvR w e v) (hN : EnvN e v u cn) (hT : Tabs w) : Calls Tryd.prog 32 #[e.v, .string S] w (AnsR w (sel (toldLR v u cn) S.toList)) := by
  obtain ⟨hix, hu, hck, hc, htl, hdl, hdd⟩ := hN
  have HTL := hide htl
  obtain ⟨o, ho⟩ : ∃ o, sel (toldLR v u cn) S.toList = o := ⟨_, rfl⟩
  obtain ⟨g, hg⟩ : ∃ g, w.heap.size = g := ⟨_, rfl⟩
  have hba := (Below.refl w.heap.size w).alloc (Nat.le_refl _) (.cells #[.slice (e.t 0).A (e.t 0).n (e.t 0).c, .slice (e.t 1).A (e.t 1).n (e.t 1).c, .slice (e.t 2).A (e.t 2).n (e.t 2).c, .slice (e.t 3).A (e.t 3).n (e.t 3).c, .slice (e.t 4).A (e.t 4).n (e.t 4).c, .slice (e.t 5).A (e.t 5).n (e.t 5).c, .int .i64 ((u : Nat) : Int), .int .i64 ((cn 0 : Nat) : Int), .int .i64 ((cn 1 : Nat) : Int), .int .i64 ((cn 2 : Nat) : Int), .int .i64 ((cn 3 : Nat) : Int), .int .i64 ((cn 4 : Nat) : Int), .int .i64 ((cn 5 : Nat) : Int), .int .i64 ((cn 6 : Nat) : Int), .slice e.d.A e.d.n e.d.c] 26)
  have HB := hide hba
  have HT := hide (hT.below hba)
  have HE := hide (h.below hba)
  have HTN := hide h.tn
  have HX := hide (Box.newAt hg 26 #[.slice (e.t 0).A (e.t 0).n (e.t 0).c, .slice (e.t 1).A (e.t 1).n (e.t 1).c, .slice (e.t 2).A (e.t 2).n (e.t 2).c, .slice (e.t 3).A (e.t 3).n (e.t 3).c, .slice (e.t 4).A (e.t 4).n (e.t 4).c, .slice (e.t 5).A (e.t 5).n (e.t 5).c, .int .i64 ((u : Nat) : Int), .int .i64 ((cn 0 : Nat) : Int), .int .i64 ((cn 1 : Nat) : Int), .int .i64 ((cn 2 : Nat) : Int), .int .i64 ((cn 3 : Nat) : Int), .int .i64 ((cn 4 : Nat) : Int), .int .i64 ((cn 5 : Nat) : Int), .int .i64 ((cn 6 : Nat) : Int), .slice e.d.A e.d.n e.d.c])
  have HCK := hide hck
  have HIX := hide hix
  have HCN := hide hc
  rw [ho]
  unfold toldLR at ho
  unfold EnvH.v EnvH.cells
  simp only [hck, hix]
  clear hck hix h hdl hdd htl hba hT hc
  go_enter Tryd.func32, Tryd.ntmps32
  go_upto_region 1 with fail
  generalize w.alloc (.cells #[.slice (e.t 0).A (e.t 0).n (e.t 0).c, .slice (e.t 1).A (e.t 1).n (e.t 1).c, .slice (e.t 2).A (e.t 2).n (e.t 2).c, .slice (e.t 3).A (e.t 3).n (e.t 3).c, .slice (e.t 4).A (e.t 4).n (e.t 4).c, .slice (e.t 5).A (e.t 5).n (e.t 5).c, .int .i64 ((u : Nat) : Int), .int .i64 ((cn 0 : Nat) : Int), .int .i64 ((cn 1 : Nat) : Int), .int .i64 ((cn 2 : Nat) : Int), .int .i64 ((cn 3 : Nat) : Int), .int .i64 ((cn 4 : Nat) : Int), .int .i64 ((cn 5 : Nat) : Int), .int .i64 ((cn 6 : Nat) : Int), .slice e.d.A e.d.n e.d.c] 26) = w1 at HB HX HE HT ⊢
  have x0 := HX.out.cell 0
  have x1 := HX.out.cell 1
  have x2 := HX.out.cell 2
  have x3 := HX.out.cell 3
  have x4 := HX.out.cell 4
  have x5 := HX.out.cell 5
  have x6 := HX.out.cell 6
  have x7 := HX.out.cell 7
  have x8 := HX.out.cell 8
  have x9 := HX.out.cell 9
  have x10 := HX.out.cell 10
  have x11 := HX.out.cell 11
  have x12 := HX.out.cell 12
  have x13 := HX.out.cell 13
  have x14 := HX.out.cell 14
  dsimp at x0 x1 x2 x3 x4 x5 x6 x7 x8 x9 x10 x11 x12 x13 x14
  cases h0 : (S.toList == [84, 77, 95, 83, 69, 76, 69, 67, 84, 69, 68, 95, 84, 69, 88, 84])
  case true =>
    have HO := hide (show o = some (v.t 0) from by rw [← ho]; simp only [sel, h0]; rfl)
    clear ho
    go_wp2_with fail
    go_ret2
    exact ans_txt HB.out (HE.out.tx 0) (HTN.out 0).1 o HO.out
  case false =>
    cases h1 : (S.toList == [84, 77, 95, 67, 85, 82, 82, 69, 78, 84, 95, 76, 73, 78, 69])
    case true =>
      have HO := hide (show o = some (v.t 1) from by rw [← ho]; simp only [sel, h0, h1]; rfl)
      clear ho
      go_wp2_with fail
      go_ret2
      exact ans_txt HB.out (HE.out.tx 1) (HTN.out 1).1 o HO.out
    case false =>
      cases h2 : (S.toList == [84, 77, 95, 67, 85, 82, 82, 69, 78, 84, 95, 87, 79, 82, 68])
      case true =>
        have HO := hide (show o = some (v.t 2) from by rw [← ho]; simp only [sel, h0, h1, h2]; rfl)
        clear ho
        go_wp2_with fail
        go_ret2
        exact ans_txt HB.out (HE.out.tx 2) (HTN.out 2).1 o HO.out
      case false =>
        cases h3 : (S.toList == [84, 77, 95, 76, 73, 78, 69, 95, 73, 78, 68, 69, 88])
        case true =>
          have HO := hide (show o = some (ru (padD u 1)) from by rw [← ho]; simp only [sel, h0, h1, h2, h3]; rfl)
          clear ho
          have HP := hide (show Calls Tryd.prog 28 #[.int .i64 (((u : Nat) : Int)), .int .i64 1] w1 (NewR w1 (ru (padD (u) 1))) from digits_any (u) 1 (by omega) (by omega) (by omega) w1)
          go_wp2_with (go_at_call 28; (with_reducible refine HP.out.mono ?_); rintro e w3 ⟨A, n, c, rfl, ho2, hb2⟩)
          go_ret2
          exact ans_new HB.out ho2 hb2 (by rw [ru_len]; have := padD_len (u := u) (least := 1) (by omega) (by omega); omega) o HO.out
        case false =>
          cases h4 : (S.toList == [84, 77, 95, 76, 73, 78, 69, 95, 78, 85, 77, 66, 69, 82])
          case true =>
            have HO := hide (show o = some (ru (padD (u + 1) 1)) from by rw [← ho]; simp only [sel, h0, h1, h2, h3, h4]; rfl)
            clear ho
            have HP := hide (show Calls Tryd.prog 28 #[.int .i64 (((u : Nat) : Int) + 1), .int .i64 1] w1 (NewR w1 (ru (padD (u + 1) 1))) from digits_any (u + 1) 1 (by omega) (by omega) (by omega) w1)
            go_wp2_with (go_at_call 28; (with_reducible refine HP.out.mono ?_); rintro e w3 ⟨A, n, c, rfl, ho2, hb2⟩)
            go_ret2
            exact ans_new HB.out ho2 hb2 (by rw [ru_len]; have := padD_len (u := u + 1) (least := 1) (by omega) (by omega); omega) o HO.out
          case false =>
            cases h5 : (S.toList == [84, 77, 95, 70, 73, 76, 69, 78, 65, 77, 69])
            case true =>
              have HO := hide (show o = some (v.t 3) from by rw [← ho]; simp only [sel, h0, h1, h2, h3, h4, h5]; rfl)
              clear ho
              go_wp2_with fail
              go_ret2
              exact ans_txt HB.out (HE.out.tx 3) (HTN.out 3).1 o HO.out
            case false =>
              cases h6 : (S.toList == [84, 77, 95, 70, 73, 76, 69, 78, 65, 77, 69, 95, 66, 65, 83, 69])
              case true =>
                have HO := hide (show o = some (baseS (v.t 3)) from by rw [← ho]; simp only [sel, h0, h1, h2, h3, h4, h5, h6]; rfl)
                clear ho
                go_wp2_with (go_at_call 46; (with_reducible refine (rbase_any _ _ _ _ _ (HE.out.tx 3) (HTN.out 3).1 (HTN.out 3).2).mono ?_); rintro e w2 ⟨k, rfl, hk, hr, rfl⟩)
                go_ret2
                exact ans_txt HB.out hr (by have := (HTN.out 3).1; omega) o HO.out
              case false =>
                cases h7 : (S.toList == [84, 77, 95, 68, 73, 82, 69, 67, 84, 79, 82, 89])
                case true =>
                  have HO := hide (show o = some (v.t 4) from by rw [← ho]; simp only [sel, h0, h1, h2, h3, h4, h5, h6, h7]; rfl)
                  clear ho
                  go_wp2_with fail
                  go_ret2
                  exact ans_txt HB.out (HE.out.tx 4) (HTN.out 4).1 o HO.out
                case false =>
                  cases h8 : (S.toList == [84, 77, 95, 70, 73, 76, 69, 80, 65, 84, 72])
                  case true =>
                    have HO := hide (show o = some (v.t 4 ++ [47] ++ v.t 3) from by rw [← ho]; simp only [sel, h0, h1, h2, h3, h4, h5, h6, h7, h8]; rfl)
                    clear ho
                    have HD := hide (fun (W : World) (hb : Below w1.heap.size w1 W) => (HE.out.below hb).tx 4)
                    have HF := hide (fun (W : World) (hb : Below w1.heap.size w1 W) => (HE.out.below hb).tx 3)
                    have hn4 : (e.t 4).n ≤ 100 := by have := (HE.out.tx 4).len; have := HTL.out 4; omega
                    have hn3 : (e.t 3).n ≤ 100 := by have := (HE.out.tx 3).len; have := HTL.out 3; omega
                    have HXB := hide (fun (W : World) (hb : Below w1.heap.size w1 W) => And.intro ((HX.out.below hb).cell 3) ((HX.out.below hb).cell 4))
                    dsimp at HXB
                    clear x0 x1 x2 x5 x6 x7 x8 x9 x10 x11 x12 x13 x14
                    go_upto_region 19 with fail
                    go_cut [4, 5] (fun s t wx => ∃ A2 n2 c2, s = .slice A2 n2 c2 ∧ t = .bool true ∧ Own wx w1.heap.size A2 n2 c2 (v.t 4 ++ [47] ++ v.t 3) ∧ Below w1.heap.size w1 wx)
                    case first =>
                      go_region_held3 (fun w' => w'.cell? ⟨g, 3, none⟩ = some (.slice (e.t 3).A (e.t 3).n (e.t 3).c) ∧ w'.cell? ⟨g, 4, none⟩ = some (.slice (e.t 4).A (e.t 4).n (e.t 4).c)) (first | go_keep) (first
                        | (refine step_app0 (by rfl) (.const (.slice none 0 0)) (.tmp 46) (by rfl) w1.heap.size (by rfl) (by rfl) (HD.out _ (by first | exact belowD (Below.refl _ _) 1 | exact belowD ((Below.refl _ _).alloc (Nat.le_refl _) _) 1)) (by omega) (by first | omega | (simp; done) | (simp; omega)) ?_
                           intro A3 c3 w3 hr3 hb3 hbk3 _
                           have hbw3 : Below w1.heap.size w1 w3 := (by
                             first
                             | exact (belowD (Below.refl _ _) 1).trans (hb3.mono (Nat.le_refl _))
                             | exact (belowD ((Below.refl _ _).alloc (Nat.le_refl _) _) 1).trans (hb3.mono ((Below.refl _ _).alloc (Nat.le_refl _) _).size))
                           have k3 := (HXB.out _ hbw3).1
                           have k4 := (HXB.out _ hbw3).2)
                        | (refine step_app (by rfl) (.tmp 47) (.tmp 48) (by rfl) w1.heap.size (by rfl) (Own.alloc hr3 _) (m := 1) (d := 1) (r := [47]) (by rfl) (Runes.news _ _ _ [47] rfl (W32.one (by omega))) (by omega) (by have := hbw3.size; simp at this ⊢; omega) ?_
                           intro A4 c4 w4 hr4 hg4 hb4 hor4 _
                           have hbw4 : Below w1.heap.size w1 w4 := (hbw3.alloc hbw3.size _).trans hb4
                           have k3' := (HXB.out _ hbw4).1
                           have k4' := (HXB.out _ hbw4).2)
                        | (refine step_app (by rfl) (.tmp 47) (.tmp 48) (by rfl) w1.heap.size (by rfl) hr3 (m := 1) (d := 1) (r := [47]) (by rfl) (((Runes.news _ _ _ [47] rfl (W32.one (by omega))).drewN 1).below hb3) (by omega) (by have := hbw3.size; simp at this ⊢; omega) ?_
                           intro A4 c4 w4 hr4 hg4 hb4 hor4 _
                           have hbw4 : Below w1.heap.size w1 w4 := hbw3.trans hb4
                           have k3' := (HXB.out _ hbw4).1
                           have k4' := (HXB.out _ hbw4).2)
                        | (refine step_app (by rfl) (.tmp 49) (.tmp 51) (by rfl) w1.heap.size (by rfl) hr4 (by rfl) (HF.out _ hbw4) (by omega) (by have := hbw4.size; simp at *; omega) ?_
                           intro A5 c5 w5 hr5 hg5 hb5 hor5 _
                           have hbw5 : Below w1.heap.size w1 w5 := hbw4.trans hb5
                           have k3' := (HXB.out _ hbw5).1
                           have k4' := (HXB.out _ hbw5).2))
                      all_goals have HQ := hide (And.intro hr5 hbw5)
                      all_goals clear hr5 hbw5 hb3 hb4 hb5 hr3 hr4 hg4 hor4 hg5 hor5 hbw3 hbw4 hbk3
                      all_goals go_wp2_with fail
                      all_goals go_meet
                      all_goals exact ⟨A5, _, c5, rfl, rfl, HQ.out.1, HQ.out.2⟩
                    case rest =>
                      obtain ⟨A2, n2, c2, rfl, rfl, hr2, hb2⟩ := hcut
                      have HLF := hide (show (v.t 4 ++ [47] ++ v.t 3).length ≤ 1000000 from by have h4 := HTL.out 4; have h3 := HTL.out 3; simp; omega)
                      go_wp2_with fail
                      go_ret2
                      exact ans_new HB.out hr2 hb2 HLF.out o HO.out
                  case false =>
                    cases h9 : (S.toList == [67, 76, 73, 80, 66, 79, 65, 82, 68])
                    case true =>
                      have HO := hide (show o = some (v.t 5) from by rw [← ho]; simp only [sel, h0, h1, h2, h3, h4, h5, h6, h7, h8, h9]; rfl)
                      clear ho
                      go_wp2_with fail
                      go_ret2
                      exact ans_txt HB.out (HE.out.tx 5) (HTN.out 5).1 o HO.out
                    case false =>
                      have HO := hide (show o = sel (clockL cn) S.toList from by rw [← ho]; simp only [sel, h0, h1, h2, h3, h4, h5, h6, h7, h8, h9]; rfl)
                      clear ho
                      have HP := hide (rclock_any e cn HCK.out HCN.out S w1)
                      unfold EnvH.v EnvH.cells at HP
                      rw [HCK.out, HIX.out] at HP
                      go_wp2_with (go_at_call 47; (with_reducible refine HP.out.mono ?_); rintro e w2 ⟨A, n, c, rfl, hr, hn, hb⟩)
                      go_ret2
                      exact ans_call HB.out hr hn hb HO.out
end Go.Proofs.YtfeflmpdbejhjaaDoor
