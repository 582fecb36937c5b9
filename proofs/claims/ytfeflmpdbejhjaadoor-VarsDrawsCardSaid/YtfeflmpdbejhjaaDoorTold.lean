/- vars.told: what a name of the texts tells. -/
import Derived.Test.YtfeflmpdbejhjaaDoorClockR
import Derived.Test.YtfeflmpdbejhjaaDoorCatD
namespace Go.Proofs.YtfeflmpdbejhjaaDoor
open Go.RowKit
set_option linter.unusedVariables false

/-- The names of the texts and what they tell, then the clock's; in the code's order; in the reference's. -/
def toldL (v : EnvV) (u : Nat) (cn : Fin 7 → Nat) : List (List UInt8 × List Int) := ([84, 77, 95, 83, 69, 76, 69, 67, 84, 69, 68, 95, 84, 69, 88, 84], v.t 0) :: ([84, 77, 95, 67, 85, 82, 82, 69, 78, 84, 95, 76, 73, 78, 69], v.t 1) :: ([84, 77, 95, 67, 85, 82, 82, 69, 78, 84, 95, 87, 79, 82, 68], v.t 2) :: ([84, 77, 95, 76, 73, 78, 69, 95, 78, 85, 77, 66, 69, 82], ru (padD (u + 1) 1)) :: ([84, 77, 95, 76, 73, 78, 69, 95, 73, 78, 68, 69, 88], ru (padD u 1)) :: ([84, 77, 95, 70, 73, 76, 69, 78, 65, 77, 69], v.t 3) :: ([84, 77, 95, 70, 73, 76, 69, 78, 65, 77, 69, 95, 66, 65, 83, 69], baseS (v.t 3)) :: ([84, 77, 95, 68, 73, 82, 69, 67, 84, 79, 82, 89], v.t 4) :: ([84, 77, 95, 70, 73, 76, 69, 80, 65, 84, 72], v.t 4 ++ [47] ++ v.t 3) :: ([67, 76, 73, 80, 66, 79, 65, 82, 68], v.t 5) :: clockL cn
def toldLR (v : EnvV) (u : Nat) (cn : Fin 7 → Nat) : List (List UInt8 × List Int) := ([84, 77, 95, 83, 69, 76, 69, 67, 84, 69, 68, 95, 84, 69, 88, 84], v.t 0) :: ([84, 77, 95, 67, 85, 82, 82, 69, 78, 84, 95, 76, 73, 78, 69], v.t 1) :: ([84, 77, 95, 67, 85, 82, 82, 69, 78, 84, 95, 87, 79, 82, 68], v.t 2) :: ([84, 77, 95, 76, 73, 78, 69, 95, 73, 78, 68, 69, 88], ru (padD u 1)) :: ([84, 77, 95, 76, 73, 78, 69, 95, 78, 85, 77, 66, 69, 82], ru (padD (u + 1) 1)) :: ([84, 77, 95, 70, 73, 76, 69, 78, 65, 77, 69], v.t 3) :: ([84, 77, 95, 70, 73, 76, 69, 78, 65, 77, 69, 95, 66, 65, 83, 69], baseS (v.t 3)) :: ([84, 77, 95, 68, 73, 82, 69, 67, 84, 79, 82, 89], v.t 4) :: ([84, 77, 95, 70, 73, 76, 69, 80, 65, 84, 72], v.t 4 ++ [47] ++ v.t 3) :: ([67, 76, 73, 80, 66, 79, 65, 82, 68], v.t 5) :: clockL cn
theorem told_same (v : EnvV) (u : Nat) (cn : Fin 7 → Nat) (S : List UInt8) : sel (toldLR v u cn) S = sel (toldL v u cn) S := by
  unfold toldLR toldL
  iterate 3 (refine sel_cons ?_ S; clear S; intro S)
  exact sel_swap (by decide) _ _ _ S
/-- An environment's numbers, where it may be. -/
structure EnvN (e : EnvH) (v : EnvV) (u : Nat) (cn : Fin 7 → Nat) : Prop where
  ix : e.ix = ((u : Nat) : Int)
  uu : u ≤ 9999
  ck : e.ck = fun i => ((cn i : Nat) : Int)
  hc : ClockN cn
  tl : ∀ i, (v.t i).length ≤ 100
  dl : v.d.length ≤ 40
  dd : ∀ x ∈ v.d, 0 ≤ x ∧ x ≤ 16777215
theorem ans_txt {w w1 : World} (hb : Below w.heap.size w w1) {A : Option Addr} {n c : Nat} {l : List Int} (hr : Runes w1 A n l) (hn : n ≤ 35184372088832) (o : Option (List Int)) (ho : o = some l) : AnsR w o (.returned (.tuple #[.slice A n c, .bool true])) w1 := by
  subst ho
  exact ⟨_, _, _, rfl, hr, hn, hb⟩
theorem ans_call {w w1 w2 : World} (hb : Below w.heap.size w w1) {A : Option Addr} {n c : Nat} {o o' : Option (List Int)} (hr : Runes w2 A n (o'.getD [])) (hn : n ≤ 35184372088832) (hb2 : Below w1.heap.size w1 w2) (ho : o = o') : AnsR w o (.returned (.tuple #[.slice A n c, .bool o'.isSome])) w2 := by
  subst ho
  exact ⟨_, _, _, rfl, hr, hn, hb.trans (hb2.mono hb.size)⟩

set_option maxRecDepth 100000 in
set_option maxHeartbeats 8000000 in
theorem told_any (e : EnvH) (v : EnvV) (u : Nat) (cn : Fin 7 → Nat) (S : ByteArray) (w : World) (h : EnvR w e v) (hN : EnvN e v u cn) (hT : Tabs w) : Calls Tryd.prog 25 #[e.v, .string S] w (AnsR w (sel (toldL v u cn) S.toList)) := by
  obtain ⟨hix, hu, hck, hc, htl, hdl, hdd⟩ := hN
  have HTL := hide htl
  obtain ⟨o, ho⟩ : ∃ o, sel (toldL v u cn) S.toList = o := ⟨_, rfl⟩
  obtain ⟨g, hg⟩ : ∃ g, w.heap.size = g := ⟨_, rfl⟩
  have hba := (Below.refl w.heap.size w).alloc (Nat.le_refl _) (.cells #[.slice (e.t 0).A (e.t 0).n (e.t 0).c, .slice (e.t 1).A (e.t 1).n (e.t 1).c, .slice (e.t 2).A (e.t 2).n (e.t 2).c, .slice (e.t 3).A (e.t 3).n (e.t 3).c, .slice (e.t 4).A (e.t 4).n (e.t 4).c, .slice (e.t 5).A (e.t 5).n (e.t 5).c, .int .i64 ((u : Nat) : Int), .int .i64 ((cn 0 : Nat) : Int), .int .i64 ((cn 1 : Nat) : Int), .int .i64 ((cn 2 : Nat) : Int), .int .i64 ((cn 3 : Nat) : Int), .int .i64 ((cn 4 : Nat) : Int), .int .i64 ((cn 5 : Nat) : Int), .int .i64 ((cn 6 : Nat) : Int), .slice e.d.A e.d.n e.d.c] 26)
  have HB := hide hba
  have HT := hide (hT.below hba)
  have HE := hide (h.below hba)
  have HTN := hide h.tn
  have HX := hide (Box.newAt hg 26 #[.slice (e.t 0).A (e.t 0).n (e.t 0).c, .slice (e.t 1).A (e.t 1).n (e.t 1).c, .slice (e.t 2).A (e.t 2).n (e.t 2).c, .slice (e.t 3).A (e.t 3).n (e.t 3).c, .slice (e.t 4).A (e.t 4).n (e.t 4).c, .slice (e.t 5).A (e.t 5).n (e.t 5).c, .int .i64 ((u : Nat) : Int), .int .i64 ((cn 0 : Nat) : Int), .int .i64 ((cn 1 : Nat) : Int), .int .i64 ((cn 2 : Nat) : Int), .int .i64 ((cn 3 : Nat) : Int), .int .i64 ((cn 4 : Nat) : Int), .int .i64 ((cn 5 : Nat) : Int), .int .i64 ((cn 6 : Nat) : Int), .slice e.d.A e.d.n e.d.c])
  have HCK := hide hck
  have HIX := hide hix
  have HCN := hide hc
  rw [ho]
  unfold toldL at ho
  unfold EnvH.v EnvH.cells
  simp only [hck, hix]
  clear hck hix h hdl hdd htl hba hT hc
  go_enter Tryd.func25, Tryd.ntmps25
  go_upto_region 1 with fail
  generalize w.alloc (.cells #[.slice (e.t 0).A (e.t 0).n (e.t 0).c, .slice (e.t 1).A (e.t 1).n (e.t 1).c, .slice (e.t 2).A (e.t 2).n (e.t 2).c, .slice (e.t 3).A (e.t 3).n (e.t 3).c, .slice (e.t 4).A (e.t 4).n (e.t 4).c, .slice (e.t 5).A (e.t 5).n (e.t 5).c, .int .i64 ((u : Nat) : Int), .int .i64 ((cn 0 : Nat) : Int), .int .i64 ((cn 1 : Nat) : Int), .int .i64 ((cn 2 : Nat) : Int), .int .i64 ((cn 3 : Nat) : Int), .int .i64 ((cn 4 : Nat) : Int), .int .i64 ((cn 5 : Nat) : Int), .int .i64 ((cn 6 : Nat) : Int), .slice e.d.A e.d.n e.d.c] 26) = w1 at HB HX HE HT ⊢
  have x0 := HX.out.cell 0
  have x1 := HX.out.cell 1
  have x2 := HX.out.cell 2
  have x3 := HX.out.cell 3
  have x4 := HX.out.cell 4
  have x5 := HX.out.cell 5
  have x6 := HX.out.cell 6
  have x7 := HX.out.cell 7
  have x8 := HX.out.cell 8
  have x9 := HX.out.cell 9
  have x10 := HX.out.cell 10
  have x11 := HX.out.cell 11
  have x12 := HX.out.cell 12
  have x13 := HX.out.cell 13
  have x14 := HX.out.cell 14
  dsimp at x0 x1 x2 x3 x4 x5 x6 x7 x8 x9 x10 x11 x12 x13 x14
  cases h0 : (S.toList == [84, 77, 95, 83, 69, 76, 69, 67, 84, 69, 68, 95, 84, 69, 88, 84])
  case true =>
    have HO := hide (show o = some (v.t 0) from by rw [← ho]; simp only [sel, h0]; rfl)
    clear ho
    go_wp2_with fail
    go_ret2
    exact ans_txt HB.out (HE.out.tx 0) (HTN.out 0).1 o HO.out
  case false =>
    cases h1 : (S.toList == [84, 77, 95, 67, 85, 82, 82, 69, 78, 84, 95, 76, 73, 78, 69])
    case true =>
      have HO := hide (show o = some (v.t 1) from by rw [← ho]; simp only [sel, h0, h1]; rfl)
      clear ho
      go_wp2_with fail
      go_ret2
      exact ans_txt HB.out (HE.out.tx 1) (HTN.out 1).1 o HO.out
    case false =>
      cases h2 : (S.toList == [84, 77, 95, 67, 85, 82, 82, 69, 78, 84, 95, 87, 79, 82, 68])
      case true =>
        have HO := hide (show o = some (v.t 2) from by rw [← ho]; simp only [sel, h0, h1, h2]; rfl)
        clear ho
        go_wp2_with fail
        go_ret2
        exact ans_txt HB.out (HE.out.tx 2) (HTN.out 2).1 o HO.out
      case false =>
        cases h3 : (S.toList == [84, 77, 95, 76, 73, 78, 69, 95, 78, 85, 77, 66, 69, 82])
        case true =>
          have HO := hide (show o = some (ru (padD (u + 1) 1)) from by rw [← ho]; simp only [sel, h0, h1, h2, h3]; rfl)
          clear ho
          have HP := hide (show Calls Tryd.prog 42 #[.int .i64 (((u : Nat) : Int) + 1)] w1 fun e w' => e = .returned (.string ⟨(padD (u + 1) 1).toArray⟩) ∧ Below w1.heap.size w1 w' from itoa_any (u + 1) (by omega) w1 HT.out)
          have hsz : (⟨(padD (u + 1) 1).toArray⟩ : ByteArray).size ≤ 1000000 := by rw [ba_size]; have := padD_len (u := u + 1) (least := 1) (by omega) (by omega); omega
          have hcv := fun W => run_toR ⟨(padD (u + 1) 1).toArray⟩ (asc_rowD _ _) hsz W
          have HSZ := hide hsz
          rw [← plainS_ru] at HO
          clear hsz
          generalize (⟨(padD (u + 1) 1).toArray⟩ : ByteArray) = P at HP hcv HSZ HO
          go_wp2_with (go_at_call 42; (with_reducible refine HP.out.mono ?_); rintro e w2 ⟨rfl, hb⟩)
          go_ret2
          exact ans_toR HB.out hb HSZ.out _ _ rfl rfl o HO.out
        case false =>
          cases h4 : (S.toList == [84, 77, 95, 76, 73, 78, 69, 95, 73, 78, 68, 69, 88])
          case true =>
            have HO := hide (show o = some (ru (padD u 1)) from by rw [← ho]; simp only [sel, h0, h1, h2, h3, h4]; rfl)
            clear ho
            have HP := hide (show Calls Tryd.prog 42 #[.int .i64 (((u : Nat) : Int))] w1 fun e w' => e = .returned (.string ⟨(padD (u) 1).toArray⟩) ∧ Below w1.heap.size w1 w' from itoa_any (u) (by omega) w1 HT.out)
            have hsz : (⟨(padD (u) 1).toArray⟩ : ByteArray).size ≤ 1000000 := by rw [ba_size]; have := padD_len (u := u) (least := 1) (by omega) (by omega); omega
            have hcv := fun W => run_toR ⟨(padD (u) 1).toArray⟩ (asc_rowD _ _) hsz W
            have HSZ := hide hsz
            rw [← plainS_ru] at HO
            clear hsz
            generalize (⟨(padD (u) 1).toArray⟩ : ByteArray) = P at HP hcv HSZ HO
            go_wp2_with (go_at_call 42; (with_reducible refine HP.out.mono ?_); rintro e w2 ⟨rfl, hb⟩)
            go_ret2
            exact ans_toR HB.out hb HSZ.out _ _ rfl rfl o HO.out
          case false =>
            cases h5 : (S.toList == [84, 77, 95, 70, 73, 76, 69, 78, 65, 77, 69])
            case true =>
              have HO := hide (show o = some (v.t 3) from by rw [← ho]; simp only [sel, h0, h1, h2, h3, h4, h5]; rfl)
              clear ho
              go_wp2_with fail
              go_ret2
              exact ans_txt HB.out (HE.out.tx 3) (HTN.out 3).1 o HO.out
            case false =>
              cases h6 : (S.toList == [84, 77, 95, 70, 73, 76, 69, 78, 65, 77, 69, 95, 66, 65, 83, 69])
              case true =>
                have HO := hide (show o = some (baseS (v.t 3)) from by rw [← ho]; simp only [sel, h0, h1, h2, h3, h4, h5, h6]; rfl)
                clear ho
                go_wp2_with (go_at_call 43; (with_reducible refine (base_any _ _ _ _ _ (HE.out.tx 3) (HTN.out 3).1 (HTN.out 3).2).mono ?_); rintro e w2 ⟨k, rfl, hk, hr, rfl⟩)
                go_ret2
                exact ans_txt HB.out hr (by have := (HTN.out 3).1; omega) o HO.out
              case false =>
                cases h7 : (S.toList == [84, 77, 95, 68, 73, 82, 69, 67, 84, 79, 82, 89])
                case true =>
                  have HO := hide (show o = some (v.t 4) from by rw [← ho]; simp only [sel, h0, h1, h2, h3, h4, h5, h6, h7]; rfl)
                  clear ho
                  go_wp2_with fail
                  go_ret2
                  exact ans_txt HB.out (HE.out.tx 4) (HTN.out 4).1 o HO.out
                case false =>
                  cases h8 : (S.toList == [84, 77, 95, 70, 73, 76, 69, 80, 65, 84, 72])
                  case true =>
                    have HO := hide (show o = some (v.t 4 ++ [47] ++ v.t 3) from by rw [← ho]; simp only [sel, h0, h1, h2, h3, h4, h5, h6, h7, h8]; rfl)
                    clear ho
                    obtain ⟨g2, hg2⟩ : ∃ g2, w1.heap.size = g2 := ⟨_, rfl⟩
                    have HB2 := hide (HB.out.alloc HB.out.size (.cells #[.int .i32 47] 21))
                    have HS1 := hide (Runes.news w1 #[.int .i32 47] 21 [47] rfl (W32.one (by omega)))
                    rw [hg2] at HS1
                    have HS0 := hide ((HE.out.tx 4).alloc (.cells #[.int .i32 47] 21))
                    have HS2 := hide ((HE.out.tx 3).alloc (.cells #[.int .i32 47] 21))
                    have hTX : Texts ((w1.alloc (.cells #[.int .i32 47] 21)).alloc (.cells #[.slice (e.t 4).A (e.t 4).n (e.t 4).c, .slice (some ⟨g2, 0, none⟩) 1 1, .slice (e.t 3).A (e.t 3).n (e.t 3).c] 22)) (some ⟨g2 + 1, 0, none⟩) 3 [v.t 4, [47], v.t 3] := by
                      have h := Texts.news3 (d1 := (e.t 4).c) (d2 := 1) (d3 := (e.t 3).c) HS0.out HS1.out HS2.out 22
                      rw [size_al, hg2] at h
                      exact h
                    have HB3 := hide (HB2.out.alloc HB2.out.size (.cells #[.slice (e.t 4).A (e.t 4).n (e.t 4).c, .slice (some ⟨g2, 0, none⟩) 1 1, .slice (e.t 3).A (e.t 3).n (e.t 3).c] 22))
                    have HLN := hide (show ((([v.t 4, [47], v.t 3] : List (List Int)).map List.length).sum) ≤ 35184372088832 from by have h4 := HTL.out 4; have h3 := HTL.out 3; simp; omega)
                    have HLF := hide (show (([v.t 4, [47], v.t 3] : List (List Int)).flatten).length ≤ 1000000 from by have h4 := HTL.out 4; have h3 := HTL.out 3; simp; omega)
                    have HO2 := hide (show o = some ([v.t 4, [47], v.t 3] : List (List Int)).flatten from by rw [HO.out]; simp)
                    clear HO
                    have y3 := (HX.out.alloc (.cells #[.int .i32 47] 21)).cell 3
                    dsimp at y3
                    have hgl : g < w1.heap.size := HX.out.lt
                    have HP := hide (concat_any (some ⟨g2 + 1, 0, none⟩) 3 3 [v.t 4, [47], v.t 3] _ hTX (by omega) HLN.out)
                    clear hTX
                    go_wp2_with (go_at_call 44; (with_reducible refine HP.out.mono ?_); rintro e w2 ⟨A, n, c, rfl, ho2, hb2⟩)
                    go_ret2
                    exact ans_new HB3.out ho2 hb2 HLF.out o HO2.out
                  case false =>
                    cases h9 : (S.toList == [67, 76, 73, 80, 66, 79, 65, 82, 68])
                    case true =>
                      have HO := hide (show o = some (v.t 5) from by rw [← ho]; simp only [sel, h0, h1, h2, h3, h4, h5, h6, h7, h8, h9]; rfl)
                      clear ho
                      go_wp2_with fail
                      go_ret2
                      exact ans_txt HB.out (HE.out.tx 5) (HTN.out 5).1 o HO.out
                    case false =>
                      have HO := hide (show o = sel (clockL cn) S.toList from by rw [← ho]; simp only [sel, h0, h1, h2, h3, h4, h5, h6, h7, h8, h9]; rfl)
                      clear ho
                      have HP := hide (timed_any cn HCN.out S w1 HT.out)
                      go_wp2_with (go_at_call 45; (with_reducible refine HP.out.mono ?_); rintro e w2 ⟨A, n, c, rfl, hr, hn, hb⟩)
                      go_ret2
                      exact ans_call HB.out hr hn hb HO.out
end Go.Proofs.YtfeflmpdbejhjaaDoor
