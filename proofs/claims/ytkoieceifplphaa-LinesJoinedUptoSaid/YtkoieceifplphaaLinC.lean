/- Contracts of layer 4's functions: lines.Count, Start, Offset, Indent. -/
import Derived.Test.YtkoieceifplphaaLin
import Derived.Test.YtkoieceifplphaaSgn
import Derived.Test.YtkoieceifplphaaTextA
namespace Go.Proofs.Ytkoieceifplphaa
open Go.RowKit
set_option linter.unusedVariables false

set_option maxHeartbeats 1000000 in
theorem count_any (S : Option Addr) (k d : Nat) (s : List Int) (w : World) (h : Runes w S k s) (hk : k ≤ 35184372088832) :
    Calls Try.prog 31 #[.slice S k d] w fun e w' => e = .returned (.int .i64 (cntL s + 1)) ∧ w = w' := by
  have HL := hide h.len
  have HR := hide h
  have HTK := hide (show ∀ j, j < k → s.take (j + 1) = s.take j ++ [nth s j] from fun j hj => take_snoc (by rw [HL.out]; exact hj))
  clear h
  go_enter Try.func31, Try.ntmps31
  go_wp2_with fail
  go_loop [3, 8] (fun n i => ∃ j : Nat, j ≤ k ∧ i = .int .i64 j ∧ n = .int .i64 ((cntL (s.take j) : Int) + 1)) (fun _ i => k - (intOf i).toNat)
  case atStart => exact ⟨0, Nat.zero_le _, rfl, rfl⟩
  case round =>
    obtain ⟨j, hj, rfl, rfl⟩ := hrel
    by_cases hlt : j < k
    · obtain ⟨ab, ao, rfl, hc⟩ := HR.out.at_ j hlt
      have h1 := cntL_le (s.take j)
      rw [List.length_take] at h1
      have HC := hide (show cntL (s.take (j + 1)) = cntL (s.take j) + (if nth s j = 10 then 1 else 0) by rw [HTK.out j hlt, cntL_snoc])
      have b1 : cntL (s.take j) ≤ j := by omega
      clear h1
      generalize cntL (s.take j) = cn at b1 HC
      by_cases hx : nth s j = 10
      · rw [if_pos hx] at HC
        rw [hx] at hc
        clear hx
        go_wp2_with fail
        go_round
        case rel => exact ⟨j + 1, by omega, by go_num, by rw [HC.out]; go_num⟩
        case measure => simp [intOf]; omega
      · rw [if_neg hx] at HC
        have e1 : (nth s j == 10) = false := by simpa using hx
        clear hx
        go_wp2_with fail
        go_round
        case rel => exact ⟨j + 1, by omega, by go_num, by rw [HC.out]; simp⟩
        case measure => simp [intOf]; omega
    · obtain rfl : j = k := by omega
      have HE := hide (show s.take j = s from List.take_of_length_le (by rw [HL.out]; exact Nat.le_refl _))
      rw [HE.out]
      go_wp2_with fail
      go_ret
      exact ⟨rfl, rfl⟩

set_option maxHeartbeats 1000000 in
theorem rcount_any (S : Option Addr) (k d : Nat) (s : List Int) (w : World) (h : Runes w S k s) (hk : k ≤ 35184372088832) :
    Calls Try.prog 24 #[.slice S k d] w fun e w' => e = .returned (.int .i64 (cntL s + 1)) ∧ w = w' := by
  have HL := hide h.len
  have HR := hide h
  have HTK := hide (show ∀ j, j < k → s.take (j + 1) = s.take j ++ [nth s j] from fun j hj => take_snoc (by rw [HL.out]; exact hj))
  clear h
  go_enter Try.func24, Try.ntmps24
  go_wp2_with fail
  go_loop [3, 4] (fun n i => ∃ j : Nat, j ≤ k ∧ i = .int .i64 j ∧ n = .int .i64 ((cntL (s.take j) : Int) + 1)) (fun _ i => k - (intOf i).toNat)
  case atStart => exact ⟨0, Nat.zero_le _, rfl, rfl⟩
  case round =>
    obtain ⟨j, hj, rfl, rfl⟩ := hrel
    by_cases hlt : j < k
    · obtain ⟨ab, ao, rfl, hc⟩ := HR.out.at_ j hlt
      have h1 := cntL_le (s.take j)
      rw [List.length_take] at h1
      have HC := hide (show cntL (s.take (j + 1)) = cntL (s.take j) + (if nth s j = 10 then 1 else 0) by rw [HTK.out j hlt, cntL_snoc])
      have b1 : cntL (s.take j) ≤ j := by omega
      clear h1
      generalize cntL (s.take j) = cn at b1 HC
      by_cases hx : nth s j = 10
      · rw [if_pos hx] at HC
        rw [hx] at hc
        clear hx
        go_wp2_with fail
        go_round
        case rel => exact ⟨j + 1, by omega, by go_num, by rw [HC.out]; go_num⟩
        case measure => simp [intOf]; omega
      · rw [if_neg hx] at HC
        have e1 : (nth s j == 10) = false := by simpa using hx
        clear hx
        go_wp2_with fail
        go_round
        case rel => exact ⟨j + 1, by omega, by go_num, by rw [HC.out]; simp⟩
        case measure => simp [intOf]; omega
    · obtain rfl : j = k := by omega
      have HE := hide (show s.take j = s from List.take_of_length_le (by rw [HL.out]; exact Nat.le_refl _))
      rw [HE.out]
      go_wp2_with fail
      go_ret
      exact ⟨rfl, rfl⟩

/-- Where a line begins; an error's number. -/
def startE (s : List Int) (line : Int) : Int × Int := if (spanS s line).2.2 then ((spanS s line).1, 0) else (0, 2)
def offsetS (s : List Int) (line col : Int) : Int × Int := if (spanS s line).2.2 = true ∧ 0 ≤ col ∧ col ≤ (spanS s line).2.1 - (spanS s line).1 then ((spanS s line).1 + col, 0) else (0, 2)

set_option maxHeartbeats 2000000 in
theorem start_any (S : Option Addr) (k d : Nat) (line : Int) (s : List Int) (w : World) (h : Runes w S k s) (hk : k ≤ 35184372088832) (hd : k ≤ d) (hd2 : d ≤ 9223372036854775807) (hl : -9223372036854775808 ≤ line ∧ line ≤ 9223372036854775807) :
    Calls Try.prog 29 #[.slice S k d, .int .i64 line] w fun e w' => e = .returned (.tuple #[.int .i64 (startE s line).1, .int .i64 (startE s line).2]) ∧ w = w' := by
  have hb := spanS_bd (line := line) h.len
  have HS := hide (span_any S k d line s w h hk hd hd2 hl)
  have HW := hide (show startE s line = if (spanS s line).2.2 then ((spanS s line).1, 0) else (0, 2) from rfl)
  clear h
  generalize (spanS s line).1 = f at hb HS HW
  generalize (spanS s line).2.1 = t at hb HS HW
  generalize (spanS s line).2.2 = ok at HS HW
  cases ok
  all_goals go_enter Try.func29, Try.ntmps29
  all_goals go_wp2_with fail
  all_goals refine HS.out.mono ?_
  all_goals rintro e w' ⟨rfl, rfl⟩
  all_goals go_wp2_with fail
  all_goals go_ret2
  all_goals rw [HW.out]
  all_goals exact ⟨rfl, rfl⟩

set_option maxHeartbeats 2000000 in
theorem offset_any (S : Option Addr) (k d : Nat) (line col : Int) (s : List Int) (w : World) (h : Runes w S k s) (hk : k ≤ 35184372088832) (hd : k ≤ d) (hd2 : d ≤ 9223372036854775807) (hl : -9223372036854775808 ≤ line ∧ line ≤ 9223372036854775807) :
    Calls Try.prog 28 #[.slice S k d, .int .i64 line, .int .i64 col] w fun e w' => e = .returned (.tuple #[.int .i64 (offsetS s line col).1, .int .i64 (offsetS s line col).2]) ∧ w = w' := by
  have hb := spanS_bd (line := line) h.len
  have HS := hide (span_any S k d line s w h hk hd hd2 hl)
  have HW := hide (show offsetS s line col = if (spanS s line).2.2 = true ∧ 0 ≤ col ∧ col ≤ (spanS s line).2.1 - (spanS s line).1 then ((spanS s line).1 + col, 0) else (0, 2) from rfl)
  clear h
  generalize (spanS s line).1 = f at hb HS HW
  generalize (spanS s line).2.1 = t at hb HS HW
  generalize (spanS s line).2.2 = ok at HS HW
  cases ok
  · go_enter Try.func28, Try.ntmps28
    go_wp2_with fail
    refine HS.out.mono ?_
    rintro e w' ⟨rfl, rfl⟩
    go_wp2_with fail
    go_ret2
    rw [HW.out]
    exact ⟨rfl, rfl⟩
  · by_cases hin : 0 ≤ col ∧ col ≤ t - f
    · have HE := hide (show offsetS s line col = (f + col, 0) by rw [HW.out, if_pos ⟨rfl, hin⟩])
      obtain ⟨h1, h2⟩ := hin
      go_enter Try.func28, Try.ntmps28
      go_wp2_with fail
      refine HS.out.mono ?_
      rintro e w' ⟨rfl, rfl⟩
      go_wp2_with fail
      go_ret2
      rw [HE.out]
      exact ⟨rfl, rfl⟩
    · have HE := hide (show offsetS s line col = (0, 2) by rw [HW.out, if_neg (fun h => hin h.2)])
      have hgo : col < 0 ∨ (0 ≤ col ∧ t - f < col) := by omega
      clear hin
      rcases hgo with h1 | ⟨h1, h2⟩
      all_goals go_enter Try.func28, Try.ntmps28
      all_goals go_wp2_with fail
      all_goals refine HS.out.mono ?_
      all_goals rintro e w' ⟨rfl, rfl⟩
      all_goals go_wp2_with fail
      all_goals go_ret2
      all_goals rw [HE.out]
      all_goals exact ⟨rfl, rfl⟩

/-- A line's blanks ahead. -/
def isBl (x : Int) : Bool := decide (clsS x = 1)
def indN (s : List Int) (f : Nat) : Nat := blankN isBl 40 (s.drop f)
def indentS (s : List Int) (line : Int) : List Int := if (spanS s line).2.2 then (s.drop (spanS s line).1.toNat).take (indN s (spanS s line).1.toNat) else []
def indentE (s : List Int) (line : Int) : Int := if (spanS s line).2.2 then 0 else 2
theorem blankN_le (p : Int → Bool) : ∀ (m : Nat) (l : List Int), blankN p m l ≤ m ∧ blankN p m l ≤ l.length
  | 0, l => by simp [blankN]
  | m + 1, [] => by simp [blankN]
  | m + 1, x :: l => by
    rw [blankN, List.length_cons]
    have := blankN_le p m l
    split <;> omega
theorem blankN_drop {p : Int → Bool} {l : List Int} {m k : Nat} (h : k < l.length) : blankN p (m + 1) (l.drop k) = if p (nth l k) then blankN p m (l.drop (k + 1)) + 1 else 0 := by
  rw [List.drop_eq_getElem_cons h, nth_eq h]
  rfl
theorem blankN_end {p : Int → Bool} {l : List Int} {m k : Nat} (h : l.length ≤ k) : blankN p m (l.drop k) = 0 := by
  rw [List.drop_of_length_le h]
  cases m <;> rfl
end Go.Proofs.Ytkoieceifplphaa
