/- standishref13.clock: what a name of the clock's tells. -/
import Derived.Test.YtfeflmpdbejhjaaDoorTimed
namespace Go.Proofs.YtfeflmpdbejhjaaDoor
open Go.RowKit
set_option linter.unusedVariables false

set_option maxRecDepth 100000 in
set_option maxHeartbeats 8000000 in
theorem rclock_any (e : EnvH) (cn : Fin 7 → Nat) (hck : e.ck = fun i => ((cn i : Nat) : Int)) (hc : ClockN cn) (S : ByteArray) (w : World) : Calls Tryd.prog 47 #[e.v, .string S] w (AnsR w (sel (clockL cn) S.toList)) := by
  rw [← clock_same]
  obtain ⟨q0, ⟨q1, q1'⟩, q2, q3, q4, q5, q6⟩ := hc
  obtain ⟨o, ho⟩ : ∃ o, sel (clockLR cn) S.toList = o := ⟨_, rfl⟩
  obtain ⟨g, hg⟩ : ∃ g, w.heap.size = g := ⟨_, rfl⟩
  have HB := hide ((Below.refl w.heap.size w).alloc (Nat.le_refl _) (.cells #[.slice (e.t 0).A (e.t 0).n (e.t 0).c, .slice (e.t 1).A (e.t 1).n (e.t 1).c, .slice (e.t 2).A (e.t 2).n (e.t 2).c, .slice (e.t 3).A (e.t 3).n (e.t 3).c, .slice (e.t 4).A (e.t 4).n (e.t 4).c, .slice (e.t 5).A (e.t 5).n (e.t 5).c, .int .i64 e.ix, .int .i64 ((cn 0 : Nat) : Int), .int .i64 ((cn 1 : Nat) : Int), .int .i64 ((cn 2 : Nat) : Int), .int .i64 ((cn 3 : Nat) : Int), .int .i64 ((cn 4 : Nat) : Int), .int .i64 ((cn 5 : Nat) : Int), .int .i64 ((cn 6 : Nat) : Int), .slice e.d.A e.d.n e.d.c] 26))
  have HX := hide (Box.newAt hg 26 #[.slice (e.t 0).A (e.t 0).n (e.t 0).c, .slice (e.t 1).A (e.t 1).n (e.t 1).c, .slice (e.t 2).A (e.t 2).n (e.t 2).c, .slice (e.t 3).A (e.t 3).n (e.t 3).c, .slice (e.t 4).A (e.t 4).n (e.t 4).c, .slice (e.t 5).A (e.t 5).n (e.t 5).c, .int .i64 e.ix, .int .i64 ((cn 0 : Nat) : Int), .int .i64 ((cn 1 : Nat) : Int), .int .i64 ((cn 2 : Nat) : Int), .int .i64 ((cn 3 : Nat) : Int), .int .i64 ((cn 4 : Nat) : Int), .int .i64 ((cn 5 : Nat) : Int), .int .i64 ((cn 6 : Nat) : Int), .slice e.d.A e.d.n e.d.c])
  rw [ho]
  unfold clockLR at ho
  unfold EnvH.v EnvH.cells
  simp only [hck]
  clear hck
  go_enter Tryd.func47, Tryd.ntmps47
  go_upto_region 1 with fail
  generalize w.alloc (.cells #[.slice (e.t 0).A (e.t 0).n (e.t 0).c, .slice (e.t 1).A (e.t 1).n (e.t 1).c, .slice (e.t 2).A (e.t 2).n (e.t 2).c, .slice (e.t 3).A (e.t 3).n (e.t 3).c, .slice (e.t 4).A (e.t 4).n (e.t 4).c, .slice (e.t 5).A (e.t 5).n (e.t 5).c, .int .i64 e.ix, .int .i64 ((cn 0 : Nat) : Int), .int .i64 ((cn 1 : Nat) : Int), .int .i64 ((cn 2 : Nat) : Int), .int .i64 ((cn 3 : Nat) : Int), .int .i64 ((cn 4 : Nat) : Int), .int .i64 ((cn 5 : Nat) : Int), .int .i64 ((cn 6 : Nat) : Int), .slice e.d.A e.d.n e.d.c] 26) = w1 at HB HX ⊢
  have x7 := HX.out.cell 7
  have x8 := HX.out.cell 8
  have x9 := HX.out.cell 9
  have x10 := HX.out.cell 10
  have x11 := HX.out.cell 11
  have x12 := HX.out.cell 12
  have x13 := HX.out.cell 13
  dsimp at x7 x8 x9 x10 x11 x12 x13
  obtain ⟨g2, hg2⟩ : ∃ g2, w1.heap.size = g2 := ⟨_, rfl⟩
  have HB2 := hide (HB.out.alloc HB.out.size (.cells #[.int .i64 ((cn 0 : Nat) : Int), .int .i64 ((cn 1 : Nat) : Int), .int .i64 ((cn 2 : Nat) : Int), .int .i64 ((cn 3 : Nat) : Int), .int .i64 ((cn 4 : Nat) : Int), .int .i64 ((cn 5 : Nat) : Int), .int .i64 ((cn 6 : Nat) : Int)] 23))
  have HX2 := hide (Box.newAt hg2 23 #[.int .i64 ((cn 0 : Nat) : Int), .int .i64 ((cn 1 : Nat) : Int), .int .i64 ((cn 2 : Nat) : Int), .int .i64 ((cn 3 : Nat) : Int), .int .i64 ((cn 4 : Nat) : Int), .int .i64 ((cn 5 : Nat) : Int), .int .i64 ((cn 6 : Nat) : Int)])
  clear HB HX
  go_upto_region 2 with fail
  generalize w1.alloc (.cells #[.int .i64 ((cn 0 : Nat) : Int), .int .i64 ((cn 1 : Nat) : Int), .int .i64 ((cn 2 : Nat) : Int), .int .i64 ((cn 3 : Nat) : Int), .int .i64 ((cn 4 : Nat) : Int), .int .i64 ((cn 5 : Nat) : Int), .int .i64 ((cn 6 : Nat) : Int)] 23) = w2 at HB2 HX2 ⊢
  clear x7 x8 x9 x10 x11 x12 x13
  have c0 := HX2.out.cell 0
  have c1 := HX2.out.cell 1
  have c2 := HX2.out.cell 2
  have c3 := HX2.out.cell 3
  have c4 := HX2.out.cell 4
  have c5 := HX2.out.cell 5
  have c6 := HX2.out.cell 6
  dsimp at c0 c1 c2 c3 c4 c5 c6
  cases h0 : (S.toList == [67, 85, 82, 82, 69, 78, 84, 95, 89, 69, 65, 82])
  case true =>
    have HO := hide (show o = some (ru (padD (cn 0) 4)) from by rw [← ho]; simp only [sel, h0]; rfl)
    clear ho
    have HP := hide (show Calls Tryd.prog 28 #[.int .i64 ((cn 0 : Nat) : Int), .int .i64 4] w2 (NewR w2 (ru (padD (cn 0) 4))) from digits_any (cn 0) 4 (by omega) (by omega) (by omega) w2)
    go_wp2_with (go_at_call 28; (with_reducible refine HP.out.mono ?_); rintro e w3 ⟨A, n, c, rfl, ho2, hb2⟩)
    go_ret2
    exact ans_new HB2.out ho2 hb2 (by rw [ru_len]; have := padD_len (u := cn 0) (least := 4) (by omega) (by omega); omega) o HO.out
  case false =>
    cases h1 : (S.toList == [67, 85, 82, 82, 69, 78, 84, 95, 89, 69, 65, 82, 95, 83, 72, 79, 82, 84])
    case true =>
      have HO := hide (show o = some (ru (padD (cn 0 % 100) 2)) from by rw [← ho]; simp only [sel, h0, h1]; rfl)
      clear ho
      have HP := hide (show Calls Tryd.prog 28 #[.int .i64 (((cn 0 : Nat) : Int) % 100), .int .i64 2] w2 (NewR w2 (ru (padD (cn 0 % 100) 2))) from by have h := digits_any (cn 0 % 100) 2 (by omega) (by omega) (by omega) w2; rw [show ((cn 0 % 100 : Nat) : Int) = ((cn 0 : Nat) : Int) % 100 by omega] at h; exact h)
      go_wp2_with (go_at_call 28; (with_reducible refine HP.out.mono ?_); rintro e w3 ⟨A, n, c, rfl, ho2, hb2⟩)
      go_ret2
      exact ans_new HB2.out ho2 hb2 (by rw [ru_len]; have := padD_len (u := cn 0 % 100) (least := 2) (by omega) (by omega); omega) o HO.out
    case false =>
      cases h2 : (S.toList == [67, 85, 82, 82, 69, 78, 84, 95, 77, 79, 78, 84, 72])
      case true =>
        have HO := hide (show o = some (ru (padD (cn 1) 2)) from by rw [← ho]; simp only [sel, h0, h1, h2]; rfl)
        clear ho
        have HP := hide (show Calls Tryd.prog 28 #[.int .i64 ((cn 1 : Nat) : Int), .int .i64 2] w2 (NewR w2 (ru (padD (cn 1) 2))) from digits_any (cn 1) 2 (by omega) (by omega) (by omega) w2)
        go_wp2_with (go_at_call 28; (with_reducible refine HP.out.mono ?_); rintro e w3 ⟨A, n, c, rfl, ho2, hb2⟩)
        go_ret2
        exact ans_new HB2.out ho2 hb2 (by rw [ru_len]; have := padD_len (u := cn 1) (least := 2) (by omega) (by omega); omega) o HO.out
      case false =>
        cases h3 : (S.toList == [67, 85, 82, 82, 69, 78, 84, 95, 68, 65, 84, 69])
        case true =>
          have HO := hide (show o = some (ru (padD (cn 2) 2)) from by rw [← ho]; simp only [sel, h0, h1, h2, h3]; rfl)
          clear ho
          have HP := hide (show Calls Tryd.prog 28 #[.int .i64 ((cn 2 : Nat) : Int), .int .i64 2] w2 (NewR w2 (ru (padD (cn 2) 2))) from digits_any (cn 2) 2 (by omega) (by omega) (by omega) w2)
          go_wp2_with (go_at_call 28; (with_reducible refine HP.out.mono ?_); rintro e w3 ⟨A, n, c, rfl, ho2, hb2⟩)
          go_ret2
          exact ans_new HB2.out ho2 hb2 (by rw [ru_len]; have := padD_len (u := cn 2) (least := 2) (by omega) (by omega); omega) o HO.out
        case false =>
          cases h4 : (S.toList == [67, 85, 82, 82, 69, 78, 84, 95, 72, 79, 85, 82])
          case true =>
            have HO := hide (show o = some (ru (padD (cn 3) 2)) from by rw [← ho]; simp only [sel, h0, h1, h2, h3, h4]; rfl)
            clear ho
            have HP := hide (show Calls Tryd.prog 28 #[.int .i64 ((cn 3 : Nat) : Int), .int .i64 2] w2 (NewR w2 (ru (padD (cn 3) 2))) from digits_any (cn 3) 2 (by omega) (by omega) (by omega) w2)
            go_wp2_with (go_at_call 28; (with_reducible refine HP.out.mono ?_); rintro e w3 ⟨A, n, c, rfl, ho2, hb2⟩)
            go_ret2
            exact ans_new HB2.out ho2 hb2 (by rw [ru_len]; have := padD_len (u := cn 3) (least := 2) (by omega) (by omega); omega) o HO.out
          case false =>
            cases h5 : (S.toList == [67, 85, 82, 82, 69, 78, 84, 95, 77, 73, 78, 85, 84, 69])
            case true =>
              have HO := hide (show o = some (ru (padD (cn 4) 2)) from by rw [← ho]; simp only [sel, h0, h1, h2, h3, h4, h5]; rfl)
              clear ho
              have HP := hide (show Calls Tryd.prog 28 #[.int .i64 ((cn 4 : Nat) : Int), .int .i64 2] w2 (NewR w2 (ru (padD (cn 4) 2))) from digits_any (cn 4) 2 (by omega) (by omega) (by omega) w2)
              go_wp2_with (go_at_call 28; (with_reducible refine HP.out.mono ?_); rintro e w3 ⟨A, n, c, rfl, ho2, hb2⟩)
              go_ret2
              exact ans_new HB2.out ho2 hb2 (by rw [ru_len]; have := padD_len (u := cn 4) (least := 2) (by omega) (by omega); omega) o HO.out
            case false =>
              cases h6 : (S.toList == [67, 85, 82, 82, 69, 78, 84, 95, 83, 69, 67, 79, 78, 68])
              case true =>
                have HO := hide (show o = some (ru (padD (cn 5) 2)) from by rw [← ho]; simp only [sel, h0, h1, h2, h3, h4, h5, h6]; rfl)
                clear ho
                have HP := hide (show Calls Tryd.prog 28 #[.int .i64 ((cn 5 : Nat) : Int), .int .i64 2] w2 (NewR w2 (ru (padD (cn 5) 2))) from digits_any (cn 5) 2 (by omega) (by omega) (by omega) w2)
                go_wp2_with (go_at_call 28; (with_reducible refine HP.out.mono ?_); rintro e w3 ⟨A, n, c, rfl, ho2, hb2⟩)
                go_ret2
                exact ans_new HB2.out ho2 hb2 (by rw [ru_len]; have := padD_len (u := cn 5) (least := 2) (by omega) (by omega); omega) o HO.out
              case false =>
                cases h7 : (S.toList == [67, 85, 82, 82, 69, 78, 84, 95, 77, 79, 78, 84, 72, 95, 78, 65, 77, 69])
                case true =>
                  have HO := hide (show o = some (plainS (monthB (cn 1 - 1))) from by rw [← ho]; simp only [sel, h0, h1, h2, h3, h4, h5, h6, h7]; rfl)
                  clear ho
                  obtain ⟨m, hm⟩ : ∃ m, cn 1 = m + 1 := ⟨cn 1 - 1, by omega⟩
                  have hm6 : m < 12 := by omega
                  rw [hm] at HO c1 HX2 ⊢
                  rw [Nat.add_sub_cancel] at HO
                  have HM := hide (month_any m hm6 w2)
                  rw [show ((m + 1 : Nat) : Int) = (m : Int) + 1 by omega] at c1 HX2 HM ⊢
                  have HSZ := hide (monthB_size m)
                  generalize monthB m = P at HO HSZ HM
                  have HPL := hide (rplain_any P w2 (by have := HSZ.out; omega))
                  have HLN := hide (show (plainS P).length ≤ 1000000 from by rw [plainS_len]; have := HSZ.out; omega)
                  go_wp2_with (first
                    | (go_at_call 58; (with_reducible refine HM.out.mono ?_); rintro e w3 ⟨rfl, rfl⟩)
                    | (go_at_call 57; (with_reducible refine HPL.out.mono ?_); rintro e w3 ⟨A, n, c, rfl, ho2, hb2⟩))
                  go_ret2
                  exact ans_new HB2.out ho2 hb2 HLN.out o HO.out
                case false =>
                  cases h8 : (S.toList == [67, 85, 82, 82, 69, 78, 84, 95, 77, 79, 78, 84, 72, 95, 78, 65, 77, 69, 95, 83, 72, 79, 82, 84])
                  case true =>
                    have HO := hide (show o = some ((plainS (monthB (cn 1 - 1))).take 3) from by rw [← ho]; simp only [sel, h0, h1, h2, h3, h4, h5, h6, h7, h8]; rfl)
                    clear ho
                    obtain ⟨m, hm⟩ : ∃ m, cn 1 = m + 1 := ⟨cn 1 - 1, by omega⟩
                    have hm6 : m < 12 := by omega
                    rw [hm] at HO c1 HX2 ⊢
                    rw [Nat.add_sub_cancel] at HO
                    have HM := hide (month_any m hm6 w2)
                    rw [show ((m + 1 : Nat) : Int) = (m : Int) + 1 by omega] at c1 HX2 HM ⊢
                    have HSZ := hide (monthB_size m)
                    generalize monthB m = P at HO HSZ HM
                    obtain ⟨R, hR⟩ : ∃ R, P.extract 0 3 = R := ⟨_, rfl⟩
                    have hsl : ∀ W, (Instr.slice 9 (.string P) none (some (.int .i64 3)) none).run Tryd.prog W = .ok (.string R) W := fun W => hR ▸ run_cut3 (by have := HSZ.out; omega) W
                    have HR3 := hide (show R.size = 3 from by rw [← hR]; exact size_cut3 HSZ.out.1)
                    have HO3 := hide (show o = some (plainS R) from by rw [← hR, plain_cut3]; exact HO.out)
                    have HPL := hide (rplain_any R w2 (by rw [HR3.out]; omega))
                    have HLN := hide (show (plainS R).length ≤ 1000000 from by rw [plainS_len, HR3.out]; omega)
                    clear hR
                    go_wp2_with (first
                      | (go_at_call 58; (with_reducible refine HM.out.mono ?_); rintro e w3 ⟨rfl, rfl⟩)
                      | (go_at_call 57; (with_reducible refine HPL.out.mono ?_); rintro e w3 ⟨A, n, c, rfl, ho2, hb2⟩))
                    go_ret2
                    exact ans_new HB2.out ho2 hb2 HLN.out o HO3.out
                  case false =>
                    cases h9 : (S.toList == [67, 85, 82, 82, 69, 78, 84, 95, 68, 65, 89, 95, 78, 65, 77, 69])
                    case true =>
                      have HO := hide (show o = some (plainS (dayB (cn 6))) from by rw [← ho]; simp only [sel, h0, h1, h2, h3, h4, h5, h6, h7, h8, h9]; rfl)
                      clear ho
                      obtain ⟨m, hm⟩ : ∃ m, cn 6 = m := ⟨_, rfl⟩
                      have hm6 : m < 7 := by omega
                      rw [hm] at HO c6 HX2 ⊢
                      have HM := hide (day_any m hm6 w2)
                      have HSZ := hide (dayB_size m)
                      generalize dayB m = P at HO HSZ HM
                      have HPL := hide (rplain_any P w2 (by have := HSZ.out; omega))
                      have HLN := hide (show (plainS P).length ≤ 1000000 from by rw [plainS_len]; have := HSZ.out; omega)
                      go_wp2_with (first
                        | (go_at_call 59; (with_reducible refine HM.out.mono ?_); rintro e w3 ⟨rfl, rfl⟩)
                        | (go_at_call 57; (with_reducible refine HPL.out.mono ?_); rintro e w3 ⟨A, n, c, rfl, ho2, hb2⟩))
                      go_ret2
                      exact ans_new HB2.out ho2 hb2 HLN.out o HO.out
                    case false =>
                      cases h10 : (S.toList == [67, 85, 82, 82, 69, 78, 84, 95, 68, 65, 89, 95, 78, 65, 77, 69, 95, 83, 72, 79, 82, 84])
                      case true =>
                        have HO := hide (show o = some ((plainS (dayB (cn 6))).take 3) from by rw [← ho]; simp only [sel, h0, h1, h2, h3, h4, h5, h6, h7, h8, h9, h10]; rfl)
                        clear ho
                        obtain ⟨m, hm⟩ : ∃ m, cn 6 = m := ⟨_, rfl⟩
                        have hm6 : m < 7 := by omega
                        rw [hm] at HO c6 HX2 ⊢
                        have HM := hide (day_any m hm6 w2)
                        have HSZ := hide (dayB_size m)
                        generalize dayB m = P at HO HSZ HM
                        obtain ⟨R, hR⟩ : ∃ R, P.extract 0 3 = R := ⟨_, rfl⟩
                        have hsl : ∀ W, (Instr.slice 9 (.string P) none (some (.int .i64 3)) none).run Tryd.prog W = .ok (.string R) W := fun W => hR ▸ run_cut3 (by have := HSZ.out; omega) W
                        have HR3 := hide (show R.size = 3 from by rw [← hR]; exact size_cut3 HSZ.out.1)
                        have HO3 := hide (show o = some (plainS R) from by rw [← hR, plain_cut3]; exact HO.out)
                        have HPL := hide (rplain_any R w2 (by rw [HR3.out]; omega))
                        have HLN := hide (show (plainS R).length ≤ 1000000 from by rw [plainS_len, HR3.out]; omega)
                        clear hR
                        go_wp2_with (first
                          | (go_at_call 59; (with_reducible refine HM.out.mono ?_); rintro e w3 ⟨rfl, rfl⟩)
                          | (go_at_call 57; (with_reducible refine HPL.out.mono ?_); rintro e w3 ⟨A, n, c, rfl, ho2, hb2⟩))
                        go_ret2
                        exact ans_new HB2.out ho2 hb2 HLN.out o HO3.out
                      case false =>
                        have HO := hide (show o = none from by rw [← ho]; simp only [sel, h0, h1, h2, h3, h4, h5, h6, h7, h8, h9, h10]; rfl)
                        clear ho
                        go_wp2_with fail
                        go_ret2
                        exact ans_none HB2.out o HO.out
end Go.Proofs.YtfeflmpdbejhjaaDoor
