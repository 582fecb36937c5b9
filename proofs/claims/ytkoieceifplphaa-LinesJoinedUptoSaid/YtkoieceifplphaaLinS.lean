/- Contracts of the reference's Width, Place, Offset, Indent. -/
import Derived.Test.YtkoieceifplphaaLinR
namespace Go.Proofs.Ytkoieceifplphaa
open Go.RowKit
set_option linter.unusedVariables false

set_option maxRecDepth 100000 in
set_option maxHeartbeats 4000000 in
theorem rwidth_any (S : Option Addr) (k d : Nat) (line : Int) (s : List Int) (w : World) (h : Runes w S k s) (hk : k ≤ 35184372088832) (hl : -9223372036854775808 ≤ line ∧ line ≤ 9223372036854775807) :
    Calls Try.prog 56 #[.slice S k d, .int .i64 line] w fun e w' => e = .returned (.tuple #[.int .i64 (widthS s line).1, .int .i64 (widthS s line).2]) ∧ w = w' := by
  have HR := hide h
  have HL := hide h.len
  have hsl := h.len
  have HS := hide (rstart_any S k d line s w h hk hl)
  clear h
  rcases start_cases s line with hno | ⟨a, hln, hst, ha⟩
  · rw [startE_no hno] at HS
    have HE := hide (widthS_no hno)
    rw [HE.out]
    clear hno
    go_enter Try.func56, Try.ntmps56
    go_wp2_with fail
    refine HS.out.mono ?_
    rintro e w' ⟨rfl, rfl⟩
    go_wp2_with fail
    go_ret2
    exact ⟨rfl, rfl⟩
  · rw [startE_yes hln hst] at HS
    have HE := hide (widthS_yes hln hst)
    rw [HE.out]
    have hak : a ≤ k := by omega
    obtain ⟨N, hN⟩ : ∃ N, widS s a = N := ⟨_, rfl⟩
    rw [hN]
    have HIN := hide hN
    clear hst hN HE ha
    go_enter Try.func56, Try.ntmps56
    go_wp2_with fail
    refine HS.out.mono ?_
    rintro e w' ⟨rfl, rfl⟩
    go_wp2_with fail
    go_loop [8] (fun f => ∃ j : Nat, a + j ≤ k ∧ f = .int .i64 j ∧ Hid (j + eolS (s.drop (a + j)) = N)) (fun f => k - (intOf f).toNat)
    case atStart => exact ⟨0, by omega, rfl, by have := HIN.out; unfold widS at this; simpa [Hid] using this⟩
    case round =>
      obtain ⟨j, hjk, rfl, hst⟩ := hrel
      by_cases hlt : a + j < k
      · have hs1 : (a : Int) + (j : Int) < (k : Int) := by omega
        obtain ⟨ab, ao, rfl, hc⟩ := HR.out.at_ (a + j) hlt
        have hs0 : (0 : Int) ≤ (a : Int) + (j : Int) := by omega
        have hs2 : ((a : Int) + (j : Int)).toNat = a + j := by omega
        have HFW := hide (eolS_drop (l := s) (k := a + j) (by rw [HL.out]; exact hlt))
        by_cases hs : nth s (a + j) = 10
        · have e2 : (nth s (a + j) != 10) = false := by simpa using hs
          obtain rfl : N = j := by
            have h1 := hst.out
            rw [HFW.out, if_pos hs] at h1
            exact h1.symm
          clear hs
          go_wp2_with fail
          go_ret2
          exact ⟨rfl, rfl⟩
        · have e2 : (nth s (a + j) != 10) = true := by simpa using hs
          have HP := hide hs
          clear hs
          go_wp2_with fail
          go_round
          case rel => exact ⟨j + 1, by omega, by go_num, by
            have h1 := hst.out
            rw [HFW.out, if_neg HP.out] at h1
            show j + 1 + eolS (s.drop (a + (j + 1))) = N
            rw [show a + (j + 1) = a + j + 1 by omega]
            omega⟩
          case measure => simp [intOf]; omega
      · obtain rfl : N = j := by
          have h1 := hst.out
          rw [eolS_end (by rw [HL.out]; omega)] at h1
          omega
        go_wp2_with fail
        go_ret2
        exact ⟨rfl, rfl⟩

theorem offsetS_no {s : List Int} {line col : Int} (h : line < 0 ∨ startF s 0 line.toNat = none) : offsetS s line col = (0, 2) := by
  unfold offsetS
  rw [span_no h]
  rfl
theorem offsetS_in {s : List Int} {line col : Int} {a : Nat} (hl : 0 ≤ line) (h : startF s 0 line.toNat = some a) (h0 : 0 ≤ col) (h1 : col ≤ widS s a) : offsetS s line col = ((a : Int) + col, 0) := by
  unfold offsetS
  rw [span_yes hl h]
  simp only
  rw [if_pos ⟨trivial, h0, by omega⟩]
theorem offsetS_out {s : List Int} {line col : Int} {a : Nat} (hl : 0 ≤ line) (h : startF s 0 line.toNat = some a) (h0 : col < 0 ∨ (widS s a : Int) < col) : offsetS s line col = (0, 2) := by
  unfold offsetS
  rw [span_yes hl h]
  simp only
  rw [if_neg (fun hh => by omega)]
theorem widS_le {s : List Int} {a : Nat} (h : a ≤ s.length) : a + widS s a ≤ s.length := by
  have := eolS_le (s.drop a)
  rw [List.length_drop] at this
  unfold widS
  omega

set_option maxHeartbeats 2000000 in
theorem roffset_any (S : Option Addr) (k d : Nat) (line col : Int) (s : List Int) (w : World) (h : Runes w S k s) (hk : k ≤ 35184372088832) (hl : -9223372036854775808 ≤ line ∧ line ≤ 9223372036854775807) :
    Calls Try.prog 57 #[.slice S k d, .int .i64 line, .int .i64 col] w fun e w' => e = .returned (.tuple #[.int .i64 (offsetS s line col).1, .int .i64 (offsetS s line col).2]) ∧ w = w' := by
  have HS := hide (rstart_any S k d line s w h hk hl)
  have HW := hide (rwidth_any S k d line s w h hk hl)
  have hsl := h.len
  clear h
  rcases start_cases s line with hno | ⟨a, hln, hst, ha⟩
  · rw [widthS_no hno] at HW
    have HE := hide (offsetS_no (col := col) hno)
    rw [HE.out]
    clear hno
    go_enter Try.func57, Try.ntmps57
    go_wp2_with fail
    refine HW.out.mono ?_
    rintro e w' ⟨rfl, rfl⟩
    go_wp2_with fail
    go_ret2
    exact ⟨rfl, rfl⟩
  · rw [startE_yes hln hst] at HS
    rw [widthS_yes hln hst] at HW
    have hwl := widS_le ha
    by_cases hin : 0 ≤ col ∧ col ≤ widS s a
    · have HE := hide (offsetS_in hln hst hin.1 hin.2)
      rw [HE.out]
      obtain ⟨h1, h2⟩ := hin
      clear hst HE
      generalize widS s a = wd at h2 HW hwl
      go_enter Try.func57, Try.ntmps57
      go_wp2_with fail
      refine HW.out.mono ?_
      rintro e w' ⟨rfl, rfl⟩
      go_wp2_with fail
      refine HS.out.mono ?_
      rintro e w' ⟨rfl, rfl⟩
      go_wp2_with fail
      go_ret2
      exact ⟨rfl, rfl⟩
    · have HE := hide (offsetS_out (col := col) hln hst (by omega))
      rw [HE.out]
      have hgo : col < 0 ∨ (0 ≤ col ∧ (widS s a : Int) < col) := by omega
      clear hin hst HE
      generalize widS s a = wd at hgo HW hwl
      rcases hgo with h1 | ⟨h1, h2⟩
      all_goals go_enter Try.func57, Try.ntmps57
      all_goals go_wp2_with fail
      all_goals refine HW.out.mono ?_
      all_goals rintro e w' ⟨rfl, rfl⟩
      all_goals go_wp2_with fail
      all_goals go_ret2
      all_goals exact ⟨rfl, rfl⟩

set_option maxHeartbeats 2000000 in
theorem rplace_any (S : Option Addr) (k d : Nat) (at_ : Int) (s : List Int) (w : World) (h : Runes w S k s) (hk : k ≤ 35184372088832) (hd : k ≤ d) (hd2 : d ≤ 9223372036854775807) (hat : -9223372036854775808 ≤ at_ ∧ at_ ≤ 9223372036854775807) :
    Calls Try.prog 54 #[.slice S k d, .int .i64 at_] w fun e w' => e = .returned (.tuple #[.int .i64 (placeS s at_).1, .int .i64 (placeS s at_).2.1, .int .i64 (placeS s at_).2.2]) ∧ w = w' := by
  have HL := hide h.len
  by_cases hin : 0 ≤ at_ ∧ at_ ≤ k
  · obtain ⟨a, rfl⟩ := Int.eq_ofNat_of_zero_le hin.1
    have hak : a ≤ k := by omega
    have HP := hide (show placeS s a = ((cntL (s.take a) : Int), (colS (s.take a) : Int), 0) by
      unfold placeS
      rw [HL.out, if_pos ⟨by omega, by omega⟩, Int.toNat_natCast])
    have HR := hide (h.take (m := a) hak)
    have hak' : (a : Int) ≤ (k : Int) := by omega
    have HTK := hide (show ∀ j, j < a → (s.take a).take (j + 1) = (s.take a).take j ++ [nth (s.take a) j] from fun j hj => take_snoc (by rw [List.length_take, HL.out]; omega))
    clear h hin
    generalize s.take a = t at HP HR HTK
    go_enter Try.func54, Try.ntmps54
    go_wp2_with fail
    go_loop [7, 8, 9] (fun l c i => ∃ j : Nat, j ≤ a ∧ i = .int .i64 j ∧ l = .int .i64 (cntL (t.take j)) ∧ c = .int .i64 (colS (t.take j))) (fun _ _ i => a - (intOf i).toNat)
    case atStart => exact ⟨0, Nat.zero_le _, rfl, rfl, rfl⟩
    case round =>
      obtain ⟨j, hj, rfl, rfl, rfl⟩ := hrel
      by_cases hlt : j < a
      · obtain ⟨ab, ao, rfl, hc⟩ := HR.out.at_ j hlt
        have h1 := cntL_le (t.take j)
        have h2 := colS_le (t.take j)
        rw [List.length_take] at h1 h2
        have HC := hide (show cntL (t.take (j + 1)) = cntL (t.take j) + (if nth t j = 10 then 1 else 0) by rw [HTK.out j hlt, cntL_snoc])
        have HD := hide (show colS (t.take (j + 1)) = (if nth t j = 10 then 0 else colS (t.take j) + 1) by rw [HTK.out j hlt, colS_snoc])
        have b1 : cntL (t.take j) ≤ j := by omega
        have b2 : colS (t.take j) ≤ j := by omega
        clear h1 h2
        generalize cntL (t.take j) = cn at b1 HC
        generalize colS (t.take j) = cl at b2 HD
        by_cases hx : nth t j = 10
        · rw [if_pos hx] at HC HD
          rw [hx] at hc
          clear hx
          go_wp2_with fail
          go_round
          case rel => exact ⟨j + 1, by omega, by go_num, by rw [HC.out]; go_num, by rw [HD.out]; rfl⟩
          case measure => simp [intOf]; omega
        · rw [if_neg hx] at HC HD
          have e1 : (nth t j == 10) = false := by simpa using hx
          clear hx
          go_wp2_with fail
          go_round
          case rel => exact ⟨j + 1, by omega, by go_num, by rw [HC.out]; simp, by rw [HD.out]; go_num⟩
          case measure => simp [intOf]; omega
      · obtain rfl : j = a := by omega
        have HE := hide (show t.take j = t from List.take_of_length_le (by rw [HR.out.len]; exact Nat.le_refl _))
        rw [HE.out]
        go_wp2_with fail
        go_ret3
        rw [HP.out]
        exact ⟨rfl, rfl⟩
  · have HP := hide (show placeS s at_ = (0, 0, 2) by unfold placeS; rw [HL.out, if_neg hin])
    have hgo : at_ < 0 ∨ (0 ≤ at_ ∧ (k : Int) < at_) := by omega
    clear h hin
    rcases hgo with hgo | ⟨h1, h2⟩
    all_goals go_enter Try.func54, Try.ntmps54
    all_goals go_wp2_with fail
    all_goals go_ret3
    all_goals rw [HP.out]
    all_goals exact ⟨rfl, rfl⟩

set_option maxRecDepth 100000 in
set_option maxHeartbeats 4000000 in
theorem rindent_any (S : Option Addr) (k d : Nat) (line : Int) (s : List Int) (w : World) (h : Runes w S k s) (hk : k ≤ 35184372088832) (hd : k ≤ d) (hd2 : d ≤ 9223372036854775807) (hl : -9223372036854775808 ≤ line ∧ line ≤ 9223372036854775807) :
    Calls Try.prog 58 #[.slice S k d, .int .i64 line] w (IndR w (indentS s line) (indentE s line)) := by
  have HS := hide (rstart_any S k d line s w h hk hl)
  have HR := hide h
  have HL := hide h.len
  have hsl := h.len
  clear h
  rcases span_ways s line with hno | ⟨a, ha, h1, h2, h3, hln, hst⟩
  · have HN := hide (show indentS s line = [] by unfold indentS; rw [hno]; rfl)
    have HE := hide (show indentE s line = 2 by unfold indentE; rw [hno]; rfl)
    have hse : startE s line = (0, 2) := by unfold startE; rw [hno]; rfl
    rw [hse] at HS
    clear hse
    rw [HN.out, HE.out]
    clear hno
    go_enter Try.func58, Try.ntmps58
    go_wp2_with fail
    refine HS.out.mono ?_
    rintro e w' ⟨rfl, rfl⟩
    go_wp2_with fail
    go_ret2
    exact ⟨none, 0, 0, rfl, Own.nil _ _, Below.refl _ _⟩
  · have hwid := eolS_le (s.drop a)
    rw [List.length_drop] at hwid
    have HN := hide (show indentS s line = (s.drop a).take (indN s a) by unfold indentS; rw [h3, h1]; rfl)
    have HE := hide (show indentE s line = 0 by unfold indentE; rw [h3]; rfl)
    rw [startE_yes hln hst] at HS
    rw [HN.out, HE.out]
    obtain ⟨N, hN⟩ : ∃ N, indN s a = N := ⟨_, rfl⟩
    obtain ⟨wd, hwd⟩ : ∃ wd, widS s a = wd := ⟨_, rfl⟩
    rw [hN]
    have hak : a + wd ≤ k := by unfold widS at hwd; omega
    have hwd10 : a + wd < k → nth s (a + wd) = 10 := fun h => by
      have := eolS_at (l := s.drop a) (by rw [List.length_drop]; unfold widS at hwd; omega)
      rw [nth_drop] at this
      rw [← hwd]
      exact this
    have HWD := hide hwd10
    have HIN := hide hN
    have hNk : a + N ≤ k := by
      have := (blankN_le isBl 40 (s.drop a)).2
      rw [List.length_drop] at this
      unfold indN at hN
      omega
    have HRUN := hide (fun W => run_sub_lh S k d a N (by omega) W)
    clear h1 h2 h3 hN hwd hwd10 HN HE hwid hln hst
    go_enter Try.func58, Try.ntmps58
    go_wp2_with fail
    refine HS.out.mono ?_
    rintro e w' ⟨rfl, rfl⟩
    go_upto_block 0 with fail
    go_cut [8] (fun f wx => f = .int .i64 N ∧ wx = w)
    case first =>
      go_wp2_with fail
      go_loop [8] (fun f => ∃ j : Nat, j ≤ 40 ∧ a + j ≤ k ∧ f = .int .i64 j ∧ Hid (j + blankN isBl (40 - j) (s.drop (a + j)) = N)) (fun f => 40 - (intOf f).toNat)
      case atStart => exact ⟨0, by omega, by omega, rfl, by have := HIN.out; unfold indN at this; simpa [Hid] using this⟩
      case round =>
        obtain ⟨j, hj40, hjw, rfl, hst⟩ := hrel
        by_cases hlt : a + j < k
        · have hs1 : (a : Int) + (j : Int) < (k : Int) := by omega
          by_cases h40 : j < 40
          · have h40' : (j : Int) < 40 := by omega
            obtain ⟨ab, ao, rfl, hc⟩ := HR.out.at_ (a + j) hlt
            have hs0 : (0 : Int) ≤ (a : Int) + (j : Int) := by omega
            have hs2 : ((a : Int) + (j : Int)).toNat = a + j := by omega
            have HBN := hide (blankN_drop (p := isBl) (l := s) (m := 40 - (j + 1)) (k := a + j) (by rw [HL.out]; omega))
            by_cases hs : clsS (nth s (a + j)) = 1
            · have e2 : (clsS (nth s (a + j)) == 1) = true := by simpa using hs
              have HP := hide (show isBl (nth s (a + j)) = true by unfold isBl; simpa using hs)
              clear hs
              go_wp2_with fail
              refine (rclass_any _ _).mono ?_
              rintro e w1 ⟨rfl, rfl⟩
              go_wp2_with fail
              go_round
              case rel => exact ⟨j + 1, by omega, by omega, by go_num, by
                have h1 := hst.out
                rw [show 40 - j = (40 - (j + 1)) + 1 by omega, HBN.out, HP.out, if_pos rfl] at h1
                show j + 1 + blankN isBl (40 - (j + 1)) (s.drop (a + (j + 1))) = N
                rw [show a + (j + 1) = a + j + 1 by omega]
                omega⟩
              case measure => simp [intOf]; omega
            · have e2 : (clsS (nth s (a + j)) == 1) = false := by simpa using hs
              have HP := hide (show isBl (nth s (a + j)) = false by unfold isBl; simpa using hs)
              obtain rfl : N = j := by
                have h1 := hst.out
                rw [show 40 - j = (40 - (j + 1)) + 1 by omega, HBN.out, HP.out] at h1
                simpa using h1.symm
              clear hs
              go_wp2_with fail
              refine (rclass_any _ _).mono ?_
              rintro e w1 ⟨rfl, rfl⟩
              go_wp2_with fail
              go_meet
              exact ⟨rfl, rfl⟩
          · obtain rfl : j = 40 := by omega
            obtain rfl : N = 40 := by
              have h1 := hst.out
              simpa [blankN] using h1.symm
            have h41 : (((40 : Nat) : Int)) = 40 := rfl
            go_wp2_with fail
            go_meet
            exact ⟨rfl, rfl⟩
        · obtain rfl : N = j := by
            have h1 := hst.out
            rw [blankN_end (by rw [HL.out]; omega)] at h1
            omega
          go_wp2_with fail
          go_meet
          exact ⟨rfl, rfl⟩
    case rest =>
      obtain ⟨rfl, rfl⟩ := hcut
      have hrun := HRUN.out wc
      have HMID := hide (HR.out.mid (a := a) (m := N) (c := d) (by omega) hd)
      go_wp2_with (at_builtin
                   refine wpList_app0 rfl (.const (.slice none 0 0)) (.tmp 45) rfl wc.heap.size rfl rfl HMID.out (by omega) (Nat.le_refl _) ?_
                   intro A1 c1 w1 hown1 hb1 _ _)
      go_ret2
      exact ⟨A1, N, c1, rfl, hown1, hb1⟩

end Go.Proofs.Ytkoieceifplphaa
