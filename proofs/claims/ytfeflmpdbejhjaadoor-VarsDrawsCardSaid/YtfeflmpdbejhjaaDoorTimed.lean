/- vars.timed: what a name of the clock's tells. -/
import Derived.Test.YtfeflmpdbejhjaaDoorTwoV
namespace Go.Proofs.YtfeflmpdbejhjaaDoor
open Go.RowKit
set_option linter.unusedVariables false

/-- The clock's names and what they tell, in the code's order; in the reference's. -/
def clockL (cn : Fin 7 → Nat) : List (List UInt8 × List Int) := [([67, 85, 82, 82, 69, 78, 84, 95, 89, 69, 65, 82], ru (padD (cn 0) 4)), ([67, 85, 82, 82, 69, 78, 84, 95, 89, 69, 65, 82, 95, 83, 72, 79, 82, 84], ru (padD (cn 0 % 100) 2)), ([67, 85, 82, 82, 69, 78, 84, 95, 77, 79, 78, 84, 72], ru (padD (cn 1) 2)), ([67, 85, 82, 82, 69, 78, 84, 95, 68, 65, 84, 69], ru (padD (cn 2) 2)), ([67, 85, 82, 82, 69, 78, 84, 95, 72, 79, 85, 82], ru (padD (cn 3) 2)), ([67, 85, 82, 82, 69, 78, 84, 95, 77, 73, 78, 85, 84, 69], ru (padD (cn 4) 2)), ([67, 85, 82, 82, 69, 78, 84, 95, 83, 69, 67, 79, 78, 68], ru (padD (cn 5) 2)), ([67, 85, 82, 82, 69, 78, 84, 95, 77, 79, 78, 84, 72, 95, 78, 65, 77, 69], plainS (monthB (cn 1 - 1))), ([67, 85, 82, 82, 69, 78, 84, 95, 68, 65, 89, 95, 78, 65, 77, 69], plainS (dayB (cn 6))), ([67, 85, 82, 82, 69, 78, 84, 95, 77, 79, 78, 84, 72, 95, 78, 65, 77, 69, 95, 83, 72, 79, 82, 84], (plainS (monthB (cn 1 - 1))).take 3), ([67, 85, 82, 82, 69, 78, 84, 95, 68, 65, 89, 95, 78, 65, 77, 69, 95, 83, 72, 79, 82, 84], (plainS (dayB (cn 6))).take 3)]
def clockLR (cn : Fin 7 → Nat) : List (List UInt8 × List Int) := [([67, 85, 82, 82, 69, 78, 84, 95, 89, 69, 65, 82], ru (padD (cn 0) 4)), ([67, 85, 82, 82, 69, 78, 84, 95, 89, 69, 65, 82, 95, 83, 72, 79, 82, 84], ru (padD (cn 0 % 100) 2)), ([67, 85, 82, 82, 69, 78, 84, 95, 77, 79, 78, 84, 72], ru (padD (cn 1) 2)), ([67, 85, 82, 82, 69, 78, 84, 95, 68, 65, 84, 69], ru (padD (cn 2) 2)), ([67, 85, 82, 82, 69, 78, 84, 95, 72, 79, 85, 82], ru (padD (cn 3) 2)), ([67, 85, 82, 82, 69, 78, 84, 95, 77, 73, 78, 85, 84, 69], ru (padD (cn 4) 2)), ([67, 85, 82, 82, 69, 78, 84, 95, 83, 69, 67, 79, 78, 68], ru (padD (cn 5) 2)), ([67, 85, 82, 82, 69, 78, 84, 95, 77, 79, 78, 84, 72, 95, 78, 65, 77, 69], plainS (monthB (cn 1 - 1))), ([67, 85, 82, 82, 69, 78, 84, 95, 77, 79, 78, 84, 72, 95, 78, 65, 77, 69, 95, 83, 72, 79, 82, 84], (plainS (monthB (cn 1 - 1))).take 3), ([67, 85, 82, 82, 69, 78, 84, 95, 68, 65, 89, 95, 78, 65, 77, 69], plainS (dayB (cn 6))), ([67, 85, 82, 82, 69, 78, 84, 95, 68, 65, 89, 95, 78, 65, 77, 69, 95, 83, 72, 79, 82, 84], (plainS (dayB (cn 6))).take 3)]
theorem clock_same (cn : Fin 7 → Nat) (S : List UInt8) : sel (clockLR cn) S = sel (clockL cn) S := by
  unfold clockLR clockL
  iterate 8 (refine sel_cons ?_ S; clear S; intro S)
  exact sel_swap (by decide) _ _ _ S
theorem run_cut3 {S : ByteArray} (h : 3 ≤ S.size) (W : World) : (Instr.slice 9 (.string S) none (some (.int .i64 3)) none).run Tryd.prog W = .ok (.string (S.extract 0 3)) W := by
  rw [run_slice_string_h W 9 S Tryd.underlying9 .i64 3 (by omega) (by omega)]
  rfl
theorem asc_cut3 {S : ByteArray} (h : Asc S) : Asc (S.extract 0 3) := fun b hb => h b (by
  have e : (S.extract 0 3).data.toList = S.data.toList.take 3 := by simp
  rw [e] at hb
  exact List.mem_of_mem_take hb)
theorem size_cut3 {S : ByteArray} (h : 3 ≤ S.size) : (S.extract 0 3).size = 3 := by
  rw [ByteArray.size_extract]
  omega
theorem plain_cut3 (S : ByteArray) : plainS (S.extract 0 3) = (plainS S).take 3 := by
  unfold plainS
  have e : (S.extract 0 3).data.toList = S.data.toList.take 3 := by simp
  rw [e, List.map_take]
/-- A clock that may be, as numbers. -/
structure ClockN (cn : Fin 7 → Nat) : Prop where
  c0 : cn 0 ≤ 9999
  c1 : 1 ≤ cn 1 ∧ cn 1 ≤ 12
  c2 : cn 2 ≤ 31
  c3 : cn 3 ≤ 23
  c4 : cn 4 ≤ 59
  c5 : cn 5 ≤ 59
  c6 : cn 6 ≤ 6
/-- A new slice of a constant string's runes. -/
theorem ans_str {w w1 : World} {S : ByteArray} (hb : Below w.heap.size w w1) (hs : S.size ≤ 1000000) (o : Option (List Int)) (ho : o = some (plainS S)) : AnsR w o (.returned (.tuple #[.slice (some ⟨w1.heap.size, 0, none⟩) S.size (capR w1 S.size), .bool true])) (w1.drew.alloc (.cells (rowR w1 S) 21)) := by
  subst ho
  exact ⟨_, _, _, rfl, (own_toRunes S hs w1).runes, by omega, hb.trans ((below_toRunes S w1).mono hb.size)⟩
theorem ans_toR {w w1 w5 : World} {S : ByteArray} (hb : Below w.heap.size w w1) (hb5 : Below w1.heap.size w1 w5) (hs : S.size ≤ 1000000) (v1 v2 : Value) (h1 : v1 = .slice (some ⟨w5.heap.size, 0, none⟩) S.size (capI w5 S.size)) (h2 : v2 = .bool true) (o : Option (List Int)) (ho : o = some (plainS S)) : AnsR w o (.returned (.tuple #[v1, v2])) (toR w5 S) := by
  subst ho h1 h2
  have hb1 := hb.trans (hb5.mono hb.size)
  exact ⟨_, _, _, rfl, (own_toR S hs w5).runes, by omega, hb1.trans ((below_toR S w5).mono hb1.size)⟩
theorem ans_new {w w1 w2 : World} {l : List Int} {A : Option Addr} {n c : Nat} (hb : Below w.heap.size w w1) (ho : Own w2 w1.heap.size A n c l) (hb2 : Below w1.heap.size w1 w2) (hl : l.length ≤ 1000000) (o : Option (List Int)) (e : o = some l) : AnsR w o (.returned (.tuple #[.slice A n c, .bool true])) w2 := by
  subst e
  exact ⟨_, _, _, rfl, ho.runes, by have := ho.len; omega, hb.trans (hb2.mono hb.size)⟩
theorem ans_none {w w1 : World} (hb : Below w.heap.size w w1) (o : Option (List Int)) (e : o = none) : AnsR w o (.returned (.tuple #[.slice none 0 0, .bool false])) w1 := by
  subst e
  exact ⟨_, _, _, rfl, Runes.nil _ _, by omega, hb⟩

set_option maxRecDepth 100000 in
set_option maxHeartbeats 8000000 in
theorem timed_any (cn : Fin 7 → Nat) (hc : ClockN cn) (S : ByteArray) (w : World) (h : Tabs w) : Calls Tryd.prog 45 #[.agg #[.int .i64 ((cn 0 : Nat) : Int), .int .i64 ((cn 1 : Nat) : Int), .int .i64 ((cn 2 : Nat) : Int), .int .i64 ((cn 3 : Nat) : Int), .int .i64 ((cn 4 : Nat) : Int), .int .i64 ((cn 5 : Nat) : Int), .int .i64 ((cn 6 : Nat) : Int)], .string S] w (AnsR w (sel (clockL cn) S.toList)) := by
  obtain ⟨q0, ⟨q1, q1'⟩, q2, q3, q4, q5, q6⟩ := hc
  obtain ⟨o, ho⟩ : ∃ o, sel (clockL cn) S.toList = o := ⟨_, rfl⟩
  obtain ⟨g, hg⟩ : ∃ g, w.heap.size = g := ⟨_, rfl⟩
  have hba := (Below.refl w.heap.size w).alloc (Nat.le_refl _) (.cells #[.int .i64 ((cn 0 : Nat) : Int), .int .i64 ((cn 1 : Nat) : Int), .int .i64 ((cn 2 : Nat) : Int), .int .i64 ((cn 3 : Nat) : Int), .int .i64 ((cn 4 : Nat) : Int), .int .i64 ((cn 5 : Nat) : Int), .int .i64 ((cn 6 : Nat) : Int)] 23)
  have HB := hide hba
  have HT := hide (h.below hba)
  have HX := hide (Box.newAt hg 23 #[.int .i64 ((cn 0 : Nat) : Int), .int .i64 ((cn 1 : Nat) : Int), .int .i64 ((cn 2 : Nat) : Int), .int .i64 ((cn 3 : Nat) : Int), .int .i64 ((cn 4 : Nat) : Int), .int .i64 ((cn 5 : Nat) : Int), .int .i64 ((cn 6 : Nat) : Int)])
  clear h hba
  rw [ho]
  unfold clockL at ho
  go_enter Tryd.func45, Tryd.ntmps45
  go_upto_region 1 with fail
  generalize w.alloc (.cells #[.int .i64 ((cn 0 : Nat) : Int), .int .i64 ((cn 1 : Nat) : Int), .int .i64 ((cn 2 : Nat) : Int), .int .i64 ((cn 3 : Nat) : Int), .int .i64 ((cn 4 : Nat) : Int), .int .i64 ((cn 5 : Nat) : Int), .int .i64 ((cn 6 : Nat) : Int)] 23) = w1 at HB HT HX ⊢
  have c0 := HX.out.cell 0
  have c1 := HX.out.cell 1
  have c2 := HX.out.cell 2
  have c3 := HX.out.cell 3
  have c4 := HX.out.cell 4
  have c5 := HX.out.cell 5
  have c6 := HX.out.cell 6
  dsimp at c0 c1 c2 c3 c4 c5 c6
  cases h0 : (S.toList == [67, 85, 82, 82, 69, 78, 84, 95, 89, 69, 65, 82])
  case true =>
    have HO := hide (show o = some (ru (padD (cn 0) 4)) from by rw [← ho]; simp only [sel, h0]; rfl)
    clear ho
    have HP := hide (show Calls Tryd.prog 41 #[.int .i64 (cn 0 : Nat), .int .i64 10, .int .i64 4] w1 fun e w' => e = .returned (.string ⟨(padD (cn 0) 4).toArray⟩) ∧ Below w1.heap.size w1 w' from padded10_any (cn 0) 4 (by omega) (by omega) w1 HT.out)
    have hsz : (⟨(padD (cn 0) 4).toArray⟩ : ByteArray).size ≤ 1000000 := by rw [ba_size]; have := padD_len (u := cn 0) (least := 4) (by omega) (by omega); omega
    have hcv := fun W => run_toRunes ⟨(padD (cn 0) 4).toArray⟩ (asc_rowD _ _) hsz W
    have HSZ := hide hsz
    rw [← plainS_ru] at HO
    clear hsz
    generalize (⟨(padD (cn 0) 4).toArray⟩ : ByteArray) = P at HP hcv HSZ HO
    go_wp2_with (go_at_call 41; (with_reducible refine HP.out.mono ?_); rintro e w2 ⟨rfl, hb⟩)
    go_ret2
    exact ans_str (HB.out.trans (hb.mono HB.out.size)) HSZ.out o HO.out
  case false =>
    cases h1 : (S.toList == [67, 85, 82, 82, 69, 78, 84, 95, 89, 69, 65, 82, 95, 83, 72, 79, 82, 84])
    case true =>
      have HO := hide (show o = some (ru (padD (cn 0 % 100) 2)) from by rw [← ho]; simp only [sel, h0, h1]; rfl)
      clear ho
      have HP := hide (show Calls Tryd.prog 54 #[.int .i64 (((cn 0 : Nat) : Int) % 100)] w1 (NewR w1 (ru (padD (cn 0 % 100) 2))) from by have h := two_any (cn 0 % 100) (by omega) w1 HT.out; rw [show ((cn 0 % 100 : Nat) : Int) = ((cn 0 : Nat) : Int) % 100 by omega] at h; exact h)
      go_wp2_with (go_at_call 54; (with_reducible refine HP.out.mono ?_); rintro e w2 ⟨A, n, c, rfl, ho2, hb2⟩)
      go_ret2
      exact ans_new HB.out ho2 hb2 (by rw [ru_len]; have := padD_len (u := cn 0 % 100) (least := 2) (by omega) (by omega); omega) o HO.out
    case false =>
      cases h2 : (S.toList == [67, 85, 82, 82, 69, 78, 84, 95, 77, 79, 78, 84, 72])
      case true =>
        have HO := hide (show o = some (ru (padD (cn 1) 2)) from by rw [← ho]; simp only [sel, h0, h1, h2]; rfl)
        clear ho
        have HP := hide (two_any (cn 1) (by omega) w1 HT.out)
        go_wp2_with (go_at_call 54; (with_reducible refine HP.out.mono ?_); rintro e w2 ⟨A, n, c, rfl, ho2, hb2⟩)
        go_ret2
        exact ans_new HB.out ho2 hb2 (by rw [ru_len]; have := padD_len (u := cn 1) (least := 2) (by omega) (by omega); omega) o HO.out
      case false =>
        cases h3 : (S.toList == [67, 85, 82, 82, 69, 78, 84, 95, 68, 65, 84, 69])
        case true =>
          have HO := hide (show o = some (ru (padD (cn 2) 2)) from by rw [← ho]; simp only [sel, h0, h1, h2, h3]; rfl)
          clear ho
          have HP := hide (two_any (cn 2) (by omega) w1 HT.out)
          go_wp2_with (go_at_call 54; (with_reducible refine HP.out.mono ?_); rintro e w2 ⟨A, n, c, rfl, ho2, hb2⟩)
          go_ret2
          exact ans_new HB.out ho2 hb2 (by rw [ru_len]; have := padD_len (u := cn 2) (least := 2) (by omega) (by omega); omega) o HO.out
        case false =>
          cases h4 : (S.toList == [67, 85, 82, 82, 69, 78, 84, 95, 72, 79, 85, 82])
          case true =>
            have HO := hide (show o = some (ru (padD (cn 3) 2)) from by rw [← ho]; simp only [sel, h0, h1, h2, h3, h4]; rfl)
            clear ho
            have HP := hide (two_any (cn 3) (by omega) w1 HT.out)
            go_wp2_with (go_at_call 54; (with_reducible refine HP.out.mono ?_); rintro e w2 ⟨A, n, c, rfl, ho2, hb2⟩)
            go_ret2
            exact ans_new HB.out ho2 hb2 (by rw [ru_len]; have := padD_len (u := cn 3) (least := 2) (by omega) (by omega); omega) o HO.out
          case false =>
            cases h5 : (S.toList == [67, 85, 82, 82, 69, 78, 84, 95, 77, 73, 78, 85, 84, 69])
            case true =>
              have HO := hide (show o = some (ru (padD (cn 4) 2)) from by rw [← ho]; simp only [sel, h0, h1, h2, h3, h4, h5]; rfl)
              clear ho
              have HP := hide (two_any (cn 4) (by omega) w1 HT.out)
              go_wp2_with (go_at_call 54; (with_reducible refine HP.out.mono ?_); rintro e w2 ⟨A, n, c, rfl, ho2, hb2⟩)
              go_ret2
              exact ans_new HB.out ho2 hb2 (by rw [ru_len]; have := padD_len (u := cn 4) (least := 2) (by omega) (by omega); omega) o HO.out
            case false =>
              cases h6 : (S.toList == [67, 85, 82, 82, 69, 78, 84, 95, 83, 69, 67, 79, 78, 68])
              case true =>
                have HO := hide (show o = some (ru (padD (cn 5) 2)) from by rw [← ho]; simp only [sel, h0, h1, h2, h3, h4, h5, h6]; rfl)
                clear ho
                have HP := hide (two_any (cn 5) (by omega) w1 HT.out)
                go_wp2_with (go_at_call 54; (with_reducible refine HP.out.mono ?_); rintro e w2 ⟨A, n, c, rfl, ho2, hb2⟩)
                go_ret2
                exact ans_new HB.out ho2 hb2 (by rw [ru_len]; have := padD_len (u := cn 5) (least := 2) (by omega) (by omega); omega) o HO.out
              case false =>
                cases h7 : (S.toList == [67, 85, 82, 82, 69, 78, 84, 95, 77, 79, 78, 84, 72, 95, 78, 65, 77, 69])
                case true =>
                  have HO := hide (show o = some (plainS (monthB (cn 1 - 1))) from by rw [← ho]; simp only [sel, h0, h1, h2, h3, h4, h5, h6, h7]; rfl)
                  clear ho
                  obtain ⟨m, hm⟩ : ∃ m, cn 1 = m + 1 := ⟨cn 1 - 1, by omega⟩
                  have hm6 : m < 12 := by omega
                  rw [hm] at HO c1 HX ⊢
                  rw [Nat.add_sub_cancel] at HO
                  rw [show ((m + 1 : Nat) : Int) = (m : Int) + 1 by omega] at c1 HX ⊢
                  have hwm : IntKind.i64.wrap (m : Int) = (m : Int) := by rw [IntKind.wrap_i64]; omega
                  have i0 : (0 : Int) ≤ (m : Int) := by omega
                  have i1 : (m : Int) < 12 := by omega
                  have HSZ := hide (monthB_size m)
                  have HAS := hide (monthB_asc m)
                  have HAT := hide (monthCells_at m (by omega))
                  generalize monthB m = P at HO HSZ HAS HAT
                  have hcv := fun W => run_toR P HAS.out (by have := HSZ.out; omega) W
                  go_wp2_with fail
                  go_region_with (
                                                          go_at_call 55
                                                          (with_reducible refine (months_any _).mono ?_)
                                                          rintro e w5 ⟨rfl, hx5, hb5⟩
                                                          have HB5 : Hid (Below w1.heap.size w1 w5) := ⟨hb5.os, hb5.tape, hb5.output, hb5.size, hb5.block⟩
                                                          have k0 : w5.cell? ⟨g, 1, none⟩ = some (.int .i64 ((m : Int) + 1)) := (hb5.cell (p := ⟨g, 1, none⟩) HX.out.lt).trans c1
                                                          have hcell : w5.cell? ⟨w1.heap.size, m, none⟩ = some (.string P) := (hx5.cell m).trans HAT.out
                                                          clear hb5 hx5)
                  all_goals go_wp2_with fail
                  all_goals go_ret2
                  all_goals refine ans_toR HB.out HB5.out ?_ _ _ ?_ ?_ o ?_
                  all_goals first | exact (by have := HSZ.out; omega) | exact HO.out | kernel_rfl
                case false =>
                  cases h8 : (S.toList == [67, 85, 82, 82, 69, 78, 84, 95, 68, 65, 89, 95, 78, 65, 77, 69])
                  case true =>
                    have HO := hide (show o = some (plainS (dayB (cn 6))) from by rw [← ho]; simp only [sel, h0, h1, h2, h3, h4, h5, h6, h7, h8]; rfl)
                    clear ho
                    obtain ⟨m, hm⟩ : ∃ m, cn 6 = m := ⟨_, rfl⟩
                    have hm6 : m < 7 := by omega
                    rw [hm] at HO c6 HX ⊢
                    have i0 : (0 : Int) ≤ (m : Int) := by omega
                    have i1 : (m : Int) < 7 := by omega
                    have HSZ := hide (dayB_size m)
                    have HAS := hide (dayB_asc m)
                    have HAT := hide (dayCells_at m (by omega))
                    generalize dayB m = P at HO HSZ HAS HAT
                    have hcv := fun W => run_toR P HAS.out (by have := HSZ.out; omega) W
                    go_wp2_with fail
                    go_region_with (
                                                            go_at_call 56
                                                            (with_reducible refine (days_any _).mono ?_)
                                                            rintro e w5 ⟨rfl, hx5, hb5⟩
                                                            have HB5 : Hid (Below w1.heap.size w1 w5) := ⟨hb5.os, hb5.tape, hb5.output, hb5.size, hb5.block⟩
                                                            have k0 : w5.cell? ⟨g, 6, none⟩ = some (.int .i64 (m : Int)) := (hb5.cell (p := ⟨g, 6, none⟩) HX.out.lt).trans c6
                                                            have hcell : w5.cell? ⟨w1.heap.size, m, none⟩ = some (.string P) := (hx5.cell m).trans HAT.out
                                                            clear hb5 hx5)
                    all_goals go_wp2_with fail
                    all_goals go_ret2
                    all_goals refine ans_toR HB.out HB5.out ?_ _ _ ?_ ?_ o ?_
                    all_goals first | exact (by have := HSZ.out; omega) | exact HO.out | kernel_rfl
                  case false =>
                    cases h9 : (S.toList == [67, 85, 82, 82, 69, 78, 84, 95, 77, 79, 78, 84, 72, 95, 78, 65, 77, 69, 95, 83, 72, 79, 82, 84])
                    case true =>
                      have HO := hide (show o = some ((plainS (monthB (cn 1 - 1))).take 3) from by rw [← ho]; simp only [sel, h0, h1, h2, h3, h4, h5, h6, h7, h8, h9]; rfl)
                      clear ho
                      obtain ⟨m, hm⟩ : ∃ m, cn 1 = m + 1 := ⟨cn 1 - 1, by omega⟩
                      have hm6 : m < 12 := by omega
                      rw [hm] at HO c1 HX ⊢
                      rw [Nat.add_sub_cancel] at HO
                      rw [show ((m + 1 : Nat) : Int) = (m : Int) + 1 by omega] at c1 HX ⊢
                      have hwm : IntKind.i64.wrap (m : Int) = (m : Int) := by rw [IntKind.wrap_i64]; omega
                      have i0 : (0 : Int) ≤ (m : Int) := by omega
                      have i1 : (m : Int) < 12 := by omega
                      have HSZ := hide (monthB_size m)
                      have HAS := hide (monthB_asc m)
                      have HAT := hide (monthCells_at m (by omega))
                      generalize monthB m = P at HO HSZ HAS HAT
                      obtain ⟨R, hR⟩ : ∃ R, P.extract 0 3 = R := ⟨_, rfl⟩
                      have hsl : ∀ W, (Instr.slice 9 (.string P) none (some (.int .i64 3)) none).run Tryd.prog W = .ok (.string R) W := fun W => hR ▸ run_cut3 (by have := HSZ.out; omega) W
                      have HR3 := hide (show R.size = 3 from by rw [← hR]; exact size_cut3 HSZ.out.1)
                      have HO3 := hide (show o = some (plainS R) from by rw [← hR, plain_cut3]; exact HO.out)
                      have hcv := fun W => run_toR R (by rw [← hR]; exact asc_cut3 HAS.out) (by rw [HR3.out]; omega) W
                      clear hR
                      go_wp2_with fail
                      go_region_with (
                                                              go_at_call 55
                                                              (with_reducible refine (months_any _).mono ?_)
                                                              rintro e w5 ⟨rfl, hx5, hb5⟩
                                                              have HB5 : Hid (Below w1.heap.size w1 w5) := ⟨hb5.os, hb5.tape, hb5.output, hb5.size, hb5.block⟩
                                                              have k0 : w5.cell? ⟨g, 1, none⟩ = some (.int .i64 ((m : Int) + 1)) := (hb5.cell (p := ⟨g, 1, none⟩) HX.out.lt).trans c1
                                                              have hcell : w5.cell? ⟨w1.heap.size, m, none⟩ = some (.string P) := (hx5.cell m).trans HAT.out
                                                              clear hb5 hx5)
                      all_goals go_wp2_with fail
                      all_goals go_ret2
                      all_goals refine ans_toR HB.out HB5.out ?_ _ _ ?_ ?_ o ?_
                      all_goals first | exact (by rw [HR3.out]; omega) | exact HO3.out | kernel_rfl
                    case false =>
                      cases h10 : (S.toList == [67, 85, 82, 82, 69, 78, 84, 95, 68, 65, 89, 95, 78, 65, 77, 69, 95, 83, 72, 79, 82, 84])
                      case true =>
                        have HO := hide (show o = some ((plainS (dayB (cn 6))).take 3) from by rw [← ho]; simp only [sel, h0, h1, h2, h3, h4, h5, h6, h7, h8, h9, h10]; rfl)
                        clear ho
                        obtain ⟨m, hm⟩ : ∃ m, cn 6 = m := ⟨_, rfl⟩
                        have hm6 : m < 7 := by omega
                        rw [hm] at HO c6 HX ⊢
                        have i0 : (0 : Int) ≤ (m : Int) := by omega
                        have i1 : (m : Int) < 7 := by omega
                        have HSZ := hide (dayB_size m)
                        have HAS := hide (dayB_asc m)
                        have HAT := hide (dayCells_at m (by omega))
                        generalize dayB m = P at HO HSZ HAS HAT
                        obtain ⟨R, hR⟩ : ∃ R, P.extract 0 3 = R := ⟨_, rfl⟩
                        have hsl : ∀ W, (Instr.slice 9 (.string P) none (some (.int .i64 3)) none).run Tryd.prog W = .ok (.string R) W := fun W => hR ▸ run_cut3 (by have := HSZ.out; omega) W
                        have HR3 := hide (show R.size = 3 from by rw [← hR]; exact size_cut3 HSZ.out.1)
                        have HO3 := hide (show o = some (plainS R) from by rw [← hR, plain_cut3]; exact HO.out)
                        have hcv := fun W => run_toR R (by rw [← hR]; exact asc_cut3 HAS.out) (by rw [HR3.out]; omega) W
                        clear hR
                        go_wp2_with fail
                        go_region_with (
                                                                go_at_call 56
                                                                (with_reducible refine (days_any _).mono ?_)
                                                                rintro e w5 ⟨rfl, hx5, hb5⟩
                                                                have HB5 : Hid (Below w1.heap.size w1 w5) := ⟨hb5.os, hb5.tape, hb5.output, hb5.size, hb5.block⟩
                                                                have k0 : w5.cell? ⟨g, 6, none⟩ = some (.int .i64 (m : Int)) := (hb5.cell (p := ⟨g, 6, none⟩) HX.out.lt).trans c6
                                                                have hcell : w5.cell? ⟨w1.heap.size, m, none⟩ = some (.string P) := (hx5.cell m).trans HAT.out
                                                                clear hb5 hx5)
                        all_goals go_wp2_with fail
                        all_goals go_ret2
                        all_goals refine ans_toR HB.out HB5.out ?_ _ _ ?_ ?_ o ?_
                        all_goals first | exact (by rw [HR3.out]; omega) | exact HO3.out | kernel_rfl
                      case false =>
                        have HO := hide (show o = none from by rw [← ho]; simp only [sel, h0, h1, h2, h3, h4, h5, h6, h7, h8, h9, h10]; rfl)
                        clear ho
                        go_wp2_with fail
                        go_ret2
                        exact ans_none HB.out o HO.out
end Go.Proofs.YtfeflmpdbejhjaaDoor
