/- The plain laws and the walks of standishlaw4's LinesBack and LinesParts: they answer true. -/
import Derived.Test.YtkoieceifplphaaKnown4
namespace Go.Proofs.Ytkoieceifplphaa
open Go.RowKit
set_option linter.unusedVariables false

/-- A line begins at a text's beginning, or behind a 10. -/
theorem start_behind {s : List Int} : ∀ {n b : Nat}, startF s 0 n = some b → 0 < b → nth s (b - 1) = 10
  | 0, b, h, hb => by
    rw [startF] at h
    injection h with h
    omega
  | n + 1, b, h, hb => by
    rw [startF_snoc] at h
    cases hn : startF s 0 n with
    | none => rw [hn] at h; cases h
    | some a =>
      rw [hn] at h
      have h' : (if a + eolS (s.drop a) < s.length then some (a + eolS (s.drop a) + 1) else none) = some b := h
      by_cases hlt : a + eolS (s.drop a) < s.length
      · rw [if_pos hlt] at h'
        injection h' with h'
        have := eolS_at (l := s.drop a) (by rw [List.length_drop]; omega)
        rw [nth_drop] at this
        rw [← h', show a + eolS (s.drop a) + 1 - 1 = a + eolS (s.drop a) by omega]
        exact this
      · rw [if_neg hlt] at h'
        cases h'
theorem wid_end {s : List Int} {a : Nat} (h : a + widS s a < s.length) : nth s (a + widS s a) = 10 := by
  have := eolS_at (l := s.drop a) (by rw [List.length_drop]; unfold widS at h; omega)
  rwa [nth_drop] at this
/-- What is told of a place. -/
theorem back_law (s : List Int) (a : Nat) (h : a ≤ s.length) : ∃ b cc wd rr : Nat, placeS s a = ((rr : Int), (cc : Int), 0) ∧ offsetS s rr cc = ((a : Int), 0) ∧ startE s rr = ((b : Int), 0) ∧ widthS s rr = ((wd : Int), 0) ∧ offsetS s rr ((wd : Int) + 1) = (0, 2) ∧
    b + cc = a ∧ cc ≤ wd ∧ b + wd ≤ s.length ∧ rr ≤ s.length ∧ (b + wd < s.length → nth s (b + wd) = 10) ∧ (0 < b → nth s (b - 1) = 10) := by
  obtain ⟨b, h1, h2, h3⟩ := place_law s a h
  have hb : b ≤ s.length := (startF_le s _ 0 b (Nat.zero_le _) h1).2
  have hw := widS_le hb
  have hcn : colS (s.take a) ≤ widS s b := by
    rcases Nat.lt_or_ge (widS s b) (colS (s.take a)) with hlt | hge
    · exact absurd (wid_end (s := s) (a := b) (by omega)) (h3 _ (by omega) (by omega))
    · exact hge
  have hst : startF s 0 ((cntL (s.take a) : Int)).toNat = some b := by rw [Int.toNat_natCast]; exact h1
  have hrr := cntL_le (s.take a)
  rw [List.length_take] at hrr
  refine ⟨b, colS (s.take a), widS s b, cntL (s.take a), ?_, ?_, startE_yes (by omega) hst, widthS_yes (by omega) hst, offsetS_out (by omega) hst (by omega), h2, hcn, hw, by omega, fun h => wid_end h, fun h => start_behind h1 h⟩
  · unfold placeS
    rw [if_pos ⟨by omega, by omega⟩, Int.toNat_natCast]
  · rw [offsetS_in (by omega) hst (by omega) (by omega)]
    congr 1
    omega

set_option maxRecDepth 100000 in
set_option maxHeartbeats 4000000 in
theorem back4_any (S : Option Addr) (k d : Nat) (at_ : Int) (s : List Int) (w : World) (hS : Runes w S k s) (hk : k + 2 ≤ 35184372088832) (hd : k ≤ d) (hd2 : d ≤ 9223372036854775807) :
    Calls Try.prog 9 #[.slice S k d, .int .i64 at_] w fun e w' => e = .returned (.bool true) ∧ Below w.heap.size w w' := by
  have HS := hide hS
  have HL := hide hS.len
  clear hS
  have i1 : idxN at_ (k + 1) < k + 1 := idxN_lt (by omega)
  go_enter Try.func9, Try.ntmps9
  go_wp2_with fail
  refine (index_any at_ ((k : Int) + 1) _ (by omega) (by omega)).mono ?_
  rintro e w' ⟨rfl, rfl⟩
  rw [show ((k : Int) + 1).toNat = k + 1 by omega]
  generalize idxN at_ (k + 1) = a at i1 ⊢
  obtain ⟨b, cc, wd, rr, h1, h2, h3, h4, h5, h6, h7, h8, h9, h10, h11⟩ := back_law s a (by rw [HL.out]; omega)
  rw [HL.out] at h8 h9 h10
  have P := hide (place_any S k d (a : Int) s w HS.out (by omega) hd hd2 (by omega))
  have O := hide (offset_any S k d (rr : Int) (cc : Int) s w HS.out (by omega) hd hd2 (by omega))
  have T := hide (start_any S k d (rr : Int) s w HS.out (by omega) hd hd2 (by omega))
  have W := hide (width_any S k d (rr : Int) s w HS.out (by omega) hd hd2 (by omega))
  have O2 := hide (offset_any S k d (rr : Int) ((wd : Int) + 1) s w HS.out (by omega) hd hd2 (by omega))
  rw [h1] at P
  rw [h2] at O
  rw [h3] at T
  rw [h4] at W
  rw [h5] at O2
  have H10 := hide h10
  have H11 := hide h11
  have e6 : (b : Int) + (cc : Int) = (a : Int) := by omega
  have e7 : (cc : Int) ≤ (wd : Int) := by omega
  clear h1 h2 h3 h4 h5 h10 h11 h6
  go_wp2_with fail
  refine P.out.mono ?_
  rintro e w' ⟨rfl, rfl⟩
  go_wp2_with fail
  refine O.out.mono ?_
  rintro e w' ⟨rfl, rfl⟩
  go_wp2_with fail
  refine T.out.mono ?_
  rintro e w' ⟨rfl, rfl⟩
  go_wp2_with fail
  refine W.out.mono ?_
  rintro e w' ⟨rfl, rfl⟩
  go_wp2_with fail
  refine O2.out.mono ?_
  rintro e w' ⟨rfl, rfl⟩
  clear e6 e7
  rcases Nat.eq_zero_or_pos b with rfl | hpos
  · rcases Nat.lt_or_ge (0 + wd) k with hlt | hge
    · have hs1 : (0 : Int) + (wd : Int) < (k : Int) := by omega
      have hne : ((wd : Int) == (k : Int)) = false := by simp; omega
      obtain ⟨ab, ao, rfl, hc⟩ := HS.out.at_ wd (by omega)
      have h10 := H10.out hlt
      rw [Nat.zero_add] at h10
      rw [h10] at hc
      clear h10
      go_wp2_with fail
      refine (known4_any _).mono ?_
      rintro e w5 ⟨rfl, hb5⟩
      have HB5 := hide hb5
      clear hb5
      go_wp2_with fail
      go_ret
      exact ⟨rfl, HB5.out⟩
    · obtain rfl : wd = k := by omega
      go_wp2_with fail
      refine (known4_any _).mono ?_
      rintro e w5 ⟨rfl, hb5⟩
      have HB5 := hide hb5
      clear hb5
      go_wp2_with fail
      go_ret
      exact ⟨rfl, HB5.out⟩
  · obtain ⟨b', hb'⟩ : ∃ b', b = b' + 1 := ⟨b - 1, by omega⟩
    have e1 : (b : Int) - 1 = (b' : Int) := by omega
    have m0 : (0 : Int) ≤ (b' : Int) := by omega
    have m1 : (b' : Int) < (k : Int) := by omega
    have m2 : ((b : Int) == 0) = false := by simp; omega
    obtain ⟨ab, ao, rfl, hcb⟩ := HS.out.at_ b' (by omega)
    have h11 := H11.out hpos
    rw [show b - 1 = b' by omega] at h11
    rw [h11] at hcb
    clear h11 hb'
    rcases Nat.lt_or_ge (b + wd) k with hlt | hge
    · have hs0 : (0 : Int) ≤ (b : Int) + (wd : Int) := by omega
      have hs1 : (b : Int) + (wd : Int) < (k : Int) := by omega
      have hs2 : ((b : Int) + (wd : Int)).toNat = b + wd := by omega
      have hne : ((b : Int) + (wd : Int) == (k : Int)) = false := by simp; omega
      obtain ⟨ab', ao', hE, hc⟩ := HS.out.at_ (b + wd) (by omega)
      cases hE
      rw [H10.out hlt] at hc
      go_wp2_with fail
      refine (known4_any _).mono ?_
      rintro e w5 ⟨rfl, hb5⟩
      have HB5 := hide hb5
      clear hb5
      go_wp2_with fail
      go_ret
      exact ⟨rfl, HB5.out⟩
    · have hne : ((b : Int) + (wd : Int) == (k : Int)) = true := by simp; omega
      go_wp2_with fail
      refine (known4_any _).mono ?_
      rintro e w5 ⟨rfl, hb5⟩
      have HB5 := hide hb5
      clear hb5
      go_wp2_with fail
      go_ret
      exact ⟨rfl, HB5.out⟩

set_option maxRecDepth 100000 in
set_option maxHeartbeats 4000000 in
theorem parts4_any (S : Option Addr) (k d : Nat) (s : List Int) (w : World) (hS : Runes w S k s) (hd : k ≤ d) (hd2 : d ≤ 9223372036854775807) :
    Calls Try.prog 10 #[.slice S k d] w fun e w' => e = .returned (.bool true) ∧ Below w.heap.size w w' := by
  have HS := hide (hS.take (m := min k 500) (by omega))
  have hkd : min k 500 ≤ d := by omega
  have hk500 : min k 500 ≤ 500 := by omega
  clear hS
  go_enter Try.func10, Try.ntmps10
  go_wp2_with fail
  refine (cut_any S k d 500 _ hd hd2 (by omega)).mono ?_
  rintro e w1 ⟨rfl, rfl⟩
  generalize min k 500 = k1 at HS hkd hk500 ⊢
  generalize s.take k1 = s1 at HS ⊢
  have HL := hide HS.out.len
  have HCN := hide (count_any S k1 d s1 w HS.out (by omega))
  obtain ⟨cn, hcn⟩ : ∃ cn, cntL s1 = cn := ⟨_, rfl⟩
  have hcb : cn ≤ k1 := by have := cntL_le s1; rw [HL.out, hcn] at this; exact this
  rw [hcn] at HCN
  have HC := hide hcn
  clear hcn
  go_wp2_with fail
  refine HCN.out.mono ?_
  rintro e w' ⟨rfl, rfl⟩
  go_wp2_with fail
  go_loop [3, 5] (fun o i => ∃ x a : Nat, x ≤ cn + 1 ∧ i = .int .i64 x ∧ o = .int .i64 a ∧ a ≤ k1 + 1 ∧ Hid ((x ≤ cn → startF s1 0 x = some a) ∧ (x = cn + 1 → a = k1 + 1))) (fun _ i => cn + 1 - (intOf i).toNat)
  case atStart => exact ⟨0, 0, by omega, rfl, rfl, by omega, fun _ => rfl, fun h => by omega⟩
  case round =>
    obtain ⟨x, a, hx, rfl, rfl, ha, hst⟩ := hrel
    by_cases hlt : x < cn + 1
    · have h1 : (x : Int) < (cn : Int) + 1 := by omega
      have h2 : (x : Int) ≤ (k1 : Int) := by omega
      have hf := hst.out.1 (by omega)
      have hfa : a ≤ k1 := by have := (startF_le s1 x 0 a (Nat.zero_le _) hf).2; rw [HL.out] at this; exact this
      have hst' : startF s1 0 ((x : Int)).toNat = some a := by rw [Int.toNat_natCast]; exact hf
      obtain ⟨wd, hwd⟩ : ∃ wd, widS s1 a = wd := ⟨_, rfl⟩
      have hwk : a + wd ≤ k1 := by have := widS_le (s := s1) (a := a) (by rw [HL.out]; exact hfa); rw [HL.out, hwd] at this; exact this
      have T := hide (start_any S k1 d (x : Int) s1 w HS.out (by omega) hkd hd2 (by omega))
      have W := hide (width_any S k1 d (x : Int) s1 w HS.out (by omega) hkd hd2 (by omega))
      rw [startE_yes (by omega) hst'] at T
      rw [widthS_yes (by omega) hst', hwd] at W
      have HF := hide hf
      have HW := hide hwd
      clear hf hst' hwd
      go_wp2_with fail
      refine T.out.mono ?_
      rintro e w' ⟨rfl, rfl⟩
      go_wp2_with fail
      refine W.out.mono ?_
      rintro e w' ⟨rfl, rfl⟩
      go_wp2_with fail
      go_round
      case rel =>
        refine ⟨x + 1, a + wd + 1, by omega, by go_num, by go_num, by omega, fun h => ?_, fun h => ?_⟩
        · have h3 := start_next HF.out
          rw [HW.out, HL.out] at h3
          by_cases h4 : a + wd < k1
          · rw [h3, if_pos h4]
          · exfalso
            obtain ⟨b, h5, _⟩ := start_ok s1 (x + 1) (by rw [HC.out]; omega)
            rw [h3, if_neg h4] at h5
            cases h5
        · have h3 : startF s1 0 (cntL s1) = some a := by rw [HC.out, show cn = x by omega]; exact HF.out
          have h4 := start_last h3
          rw [HW.out, HL.out] at h4
          omega
      case measure => simp [intOf]; omega
    · obtain rfl : x = cn + 1 := by omega
      obtain rfl : a = k1 + 1 := hst.out.2 rfl
      have e1 : (((k1 + 1 : Nat) : Int) == (k1 : Int) + 1) = true := by simp
      have e2 : ¬ (((cn + 1 : Nat) : Int) < (cn : Int) + 1) := by omega
      go_wp2_with fail
      refine (known4_any _).mono ?_
      rintro e w5 ⟨rfl, hb5⟩
      have HB5 := hide hb5
      clear hb5
      go_wp2_with fail
      go_ret
      exact ⟨rfl, HB5.out⟩
end Go.Proofs.Ytkoieceifplphaa
