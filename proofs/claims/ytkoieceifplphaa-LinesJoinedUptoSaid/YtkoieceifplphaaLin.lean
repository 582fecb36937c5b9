/- Contracts of layer 4's inner functions: slices.Index at 10, lines.span, lines.Place, lines.Width. -/
import Derived.Test.YtkoieceifplphaaBase
import Derived.Test.YtkoieceifplphaaLinP
import Derived.OwnWalk
namespace Go.Proofs.Ytkoieceifplphaa
open Go.RowKit
set_option linter.unusedVariables false

/-- The first 10's place, or -1. -/
def idx10 (l : List Int) : Int := if eolS l < l.length then (eolS l : Int) else -1

set_option maxHeartbeats 1000000 in
theorem index10_any (A : Option Addr) (n c : Nat) (l : List Int) (w : World) (h : Runes w A n l) (hn : n ≤ 9223372036854775807) :
    Calls Try.prog 71 #[.slice A n c, .int .i32 10] w fun e w' => e = .returned (.int .i64 (idx10 l)) ∧ w = w' := by
  have HL := hide h.len
  go_enter Try.func71, Try.ntmps71
  go_wp2_with fail
  go_loop [8] (fun i => ∃ k : Nat, k ≤ n ∧ i = .int .i64 k ∧ Hid (∀ j, j < k → nth l j ≠ 10)) (fun i => n - (intOf i).toNat)
  case atStart => exact ⟨0, Nat.zero_le _, rfl, fun j hj => absurd hj (by omega)⟩
  case round =>
    obtain ⟨k, hk, rfl, hj⟩ := hrel
    by_cases hlt : k < n
    · obtain ⟨ab, ao, rfl, hc⟩ := h.at_ k hlt
      by_cases hs : nth l k = 10
      · have HE := hide (show idx10 l = (k : Int) by
          have he := eolS_eq hj.out (by rw [HL.out]; omega) (.inr hs)
          unfold idx10
          rw [he, if_pos (by rw [HL.out]; exact hlt)])
        rw [hs] at hc
        clear hs
        go_wp2_with fail
        go_ret
        exact ⟨retI HE.out.symm, rfl⟩
      · have HS := hide hs
        have e1 : ((10 : Int) == nth l k) = false := by simp; omega
        clear hs
        go_wp2_with fail
        go_round
        case rel => exact ⟨k + 1, by omega, by go_num, fun j h' => (by
          rcases Nat.lt_succ_iff_lt_or_eq.1 h' with h1 | h1
          · exact hj.out j h1
          · rw [h1]; exact HS.out)⟩
        case measure => simp [intOf]; omega
    · obtain rfl : k = n := by omega
      have HE := hide (show idx10 l = -1 by
        have he := eolS_eq hj.out (by rw [HL.out]; exact Nat.le_refl _) (.inl HL.out.symm)
        unfold idx10
        rw [he, if_neg (by rw [HL.out]; omega)])
      go_wp2_with fail
      go_ret
      exact ⟨retI HE.out.symm, rfl⟩

/-- A line's first place, the place behind it, and whether there is one. -/
def spanS (s : List Int) (line : Int) : Int × Int × Bool :=
  match startF s 0 line.toNat with
  | none => (0, 0, false)
  | some a => (a, (a : Int) + (widS s a : Int), decide (0 ≤ line))

set_option maxHeartbeats 2000000 in
theorem span_any (S : Option Addr) (k d : Nat) (line : Int) (s : List Int) (w : World) (h : Runes w S k s) (hk : k ≤ 35184372088832) (hd : k ≤ d) (hd2 : d ≤ 9223372036854775807) (hl : -9223372036854775808 ≤ line ∧ line ≤ 9223372036854775807) :
    Calls Try.prog 60 #[.slice S k d, .int .i64 line] w fun e w' => e = .returned (.tuple #[.int .i64 (spanS s line).1, .int .i64 (spanS s line).2.1, .bool (spanS s line).2.2]) ∧ w = w' := by
  have HL := hide h.len
  have HR := hide h
  have HIX := hide (fun (a : Nat) (ha : a ≤ k) W (hW : W = w) => index10_any (sub S d a) (k - a) (d - a) (s.drop a) W (hW ▸ (h.sub ha hd)) (by omega))
  clear h
  go_enter Try.func60, Try.ntmps60
  go_wp2_with fail
  go_loop [1, 4] (fun z f => ∃ (x : Int) (a : Nat), z = .int .i64 x ∧ f = .int .i64 a ∧ a ≤ k ∧ (-9223372036854775808 ≤ x ∧ x ≤ 9223372036854775807) ∧ Hid (startF s a x.toNat = startF s 0 line.toNat ∧ decide (0 ≤ x) = decide (0 ≤ line))) (fun z _ => (intOf z).toNat)
  case atStart => exact ⟨line, 0, rfl, rfl, Nat.zero_le _, hl, rfl, rfl⟩
  case round =>
    obtain ⟨x, a, rfl, rfl, ha, hx, hst⟩ := hrel
    have hsl := run_sub_l S k d a ha
    have HI := hide (HIX.out a ha)
    have hle := eolS_le (s.drop a)
    rw [List.length_drop, HL.out] at hle
    have HDL := hide (show (s.drop a).length = k - a by rw [List.length_drop, HL.out])
    by_cases hx0 : 0 < x
    · obtain ⟨y, rfl⟩ : ∃ y : Nat, x = (y : Int) + 1 := ⟨(x - 1).toNat, by omega⟩
      have HSF := hide (show startF s a ((y : Int) + 1).toNat = if a + eolS (s.drop a) < s.length then startF s (a + eolS (s.drop a) + 1) y else none by
        rw [show ((y : Int) + 1).toNat = y + 1 by omega]
        rfl)
      by_cases hlt : eolS (s.drop a) < k - a
      · have HE := hide (show idx10 (s.drop a) = (eolS (s.drop a) : Int) by unfold idx10; rw [HDL.out, if_pos hlt])
        rw [HE.out] at HI
        generalize eolS (s.drop a) = e at hlt hle HI HSF
        go_wp2_with fail
        refine (HI.out _ rfl).mono ?_
        rintro e' w' ⟨rfl, rfl⟩
        go_wp2_with fail
        go_round
        case rel => exact ⟨(y : Int), a + e + 1, by go_num, by go_num, by omega, by omega, by
          have h1 := HSF.out
          rw [if_pos (by rw [HL.out]; omega)] at h1
          exact ⟨by rw [show ((y : Int)).toNat = y from Int.toNat_natCast y]; exact h1.symm.trans hst.out.1, by rw [← hst.out.2]; rw [decide_eq_decide]; omega⟩⟩
        case measure => simp [intOf]
      · have HE := hide (show idx10 (s.drop a) = -1 by unfold idx10; rw [HDL.out, if_neg hlt])
        rw [HE.out] at HI
        have HSP := hide (show spanS s line = (0, 0, false) by
          unfold spanS
          rw [← hst.out.1, HSF.out, if_neg (by rw [HL.out]; omega)])
        clear hle
        go_wp2_with fail
        refine (HI.out _ rfl).mono ?_
        rintro e' w' ⟨rfl, rfl⟩
        go_wp2_with fail
        go_ret3
        rw [HSP.out]
        exact ⟨rfl, rfl⟩
    · have HSP := hide (show spanS s line = ((a : Int), (a : Int) + (eolS (s.drop a) : Int), decide (0 ≤ x)) by
        unfold spanS
        rw [← hst.out.1, show x.toNat = 0 by omega, ← hst.out.2]
        rfl)
      have hxz : (x == 0) = decide (0 ≤ x) := by
        rw [Bool.eq_iff_iff]
        simp
        omega
      have HXZ := hide hxz
      clear hxz
      by_cases hlt : eolS (s.drop a) < k - a
      · have HE := hide (show idx10 (s.drop a) = (eolS (s.drop a) : Int) by unfold idx10; rw [HDL.out, if_pos hlt])
        rw [HE.out] at HI
        generalize eolS (s.drop a) = e at hlt hle HI HSP
        go_wp2_with fail
        refine (HI.out _ rfl).mono ?_
        rintro e' w' ⟨rfl, rfl⟩
        go_wp2_with fail
        go_ret3
        rw [HSP.out]
        exact ⟨by simp [HXZ.out], rfl⟩
      · have HE := hide (show idx10 (s.drop a) = -1 by unfold idx10; rw [HDL.out, if_neg hlt])
        rw [HE.out] at HI
        have hek : eolS (s.drop a) = k - a := by omega
        rw [hek] at HSP
        clear hek hle
        go_wp2_with fail
        refine (HI.out _ rfl).mono ?_
        rintro e' w' ⟨rfl, rfl⟩
        go_wp2_with fail
        go_ret3
        rw [HSP.out]
        refine ⟨?_, rfl⟩
        have e2 : ((k - a : Nat) : Int) = (k : Int) - (a : Int) := by omega
        simp [HXZ.out, e2]

/-- The line and the column of a place; an error's number. -/
def placeS (s : List Int) (at_ : Int) : Int × Int × Int :=
  if 0 ≤ at_ ∧ at_ ≤ s.length then ((cntL (s.take at_.toNat) : Int), (colS (s.take at_.toNat) : Int), 0) else (0, 0, 2)
theorem colS_le : ∀ (l : List Int), colS l ≤ l.length := fun l => by
  unfold colS
  suffices ∀ (l : List Int) (c : Nat), l.foldl (fun c x => if x = 10 then 0 else c + 1) c ≤ c + l.length by
    have := this l 0
    omega
  intro l
  induction l with
  | nil => intro c; simp
  | cons x l ih =>
    intro c
    rw [List.foldl_cons, List.length_cons]
    by_cases hx : x = 10
    · rw [if_pos hx]
      have := ih 0
      omega
    · rw [if_neg hx]
      have := ih (c + 1)
      omega
theorem cntL_le (l : List Int) : cntL l ≤ l.length := List.length_filter_le _ _

set_option maxHeartbeats 2000000 in
theorem place_any (S : Option Addr) (k d : Nat) (at_ : Int) (s : List Int) (w : World) (h : Runes w S k s) (hk : k ≤ 35184372088832) (hd : k ≤ d) (hd2 : d ≤ 9223372036854775807) (hat : -9223372036854775808 ≤ at_ ∧ at_ ≤ 9223372036854775807) :
    Calls Try.prog 27 #[.slice S k d, .int .i64 at_] w fun e w' => e = .returned (.tuple #[.int .i64 (placeS s at_).1, .int .i64 (placeS s at_).2.1, .int .i64 (placeS s at_).2.2]) ∧ w = w' := by
  have HL := hide h.len
  by_cases hin : 0 ≤ at_ ∧ at_ ≤ k
  · obtain ⟨a, rfl⟩ := Int.eq_ofNat_of_zero_le hin.1
    have hak : a ≤ k := by omega
    have HP := hide (show placeS s a = ((cntL (s.take a) : Int), (colS (s.take a) : Int), 0) by
      unfold placeS
      rw [HL.out, if_pos ⟨by omega, by omega⟩, Int.toNat_natCast])
    have HR := hide (h.take (m := a) hak)
    have hsl := run_sub_h S k d a (by omega)
    have HTK := hide (show ∀ j, j < a → (s.take a).take (j + 1) = (s.take a).take j ++ [nth (s.take a) j] from fun j hj => take_snoc (by rw [List.length_take, HL.out]; omega))
    clear h hin
    generalize s.take a = t at HP HR HTK
    go_enter Try.func27, Try.ntmps27
    go_wp2_with fail
    go_loop [4, 5, 21] (fun l c i => ∃ j : Nat, j ≤ a ∧ i = .int .i64 j ∧ l = .int .i64 (cntL (t.take j)) ∧ c = .int .i64 (colS (t.take j))) (fun _ _ i => a - (intOf i).toNat)
    case atStart => exact ⟨0, Nat.zero_le _, rfl, rfl, rfl⟩
    case round =>
      obtain ⟨j, hj, rfl, rfl, rfl⟩ := hrel
      by_cases hlt : j < a
      · obtain ⟨ab, ao, rfl, hc⟩ := HR.out.at_ j hlt
        have h1 := cntL_le (t.take j)
        have h2 := colS_le (t.take j)
        rw [List.length_take] at h1 h2
        have HC := hide (show cntL (t.take (j + 1)) = cntL (t.take j) + (if nth t j = 10 then 1 else 0) by rw [HTK.out j hlt, cntL_snoc])
        have HD := hide (show colS (t.take (j + 1)) = (if nth t j = 10 then 0 else colS (t.take j) + 1) by rw [HTK.out j hlt, colS_snoc])
        have b1 : cntL (t.take j) ≤ j := by omega
        have b2 : colS (t.take j) ≤ j := by omega
        clear h1 h2
        generalize cntL (t.take j) = cn at b1 HC
        generalize colS (t.take j) = cl at b2 HD
        by_cases hx : nth t j = 10
        · rw [if_pos hx] at HC HD
          rw [hx] at hc
          clear hx
          go_wp2_with fail
          go_round
          case rel => exact ⟨j + 1, by omega, by go_num, by rw [HC.out]; go_num, by rw [HD.out]; rfl⟩
          case measure => simp [intOf]; omega
        · rw [if_neg hx] at HC HD
          have e1 : (nth t j == 10) = false := by simpa using hx
          clear hx
          go_wp2_with fail
          go_round
          case rel => exact ⟨j + 1, by omega, by go_num, by rw [HC.out]; simp, by rw [HD.out]; go_num⟩
          case measure => simp [intOf]; omega
      · obtain rfl : j = a := by omega
        have HE := hide (show t.take j = t from List.take_of_length_le (by rw [HR.out.len]; exact Nat.le_refl _))
        rw [HE.out]
        go_wp2_with fail
        go_ret3
        rw [HP.out]
        exact ⟨rfl, rfl⟩
  · have HP := hide (show placeS s at_ = (0, 0, 2) by unfold placeS; rw [HL.out, if_neg hin])
    have hgo : at_ < 0 ∨ (0 ≤ at_ ∧ (k : Int) < at_) := by omega
    clear h hin
    rcases hgo with hgo | ⟨h1, h2⟩
    all_goals go_enter Try.func27, Try.ntmps27
    all_goals go_wp2_with fail
    all_goals go_ret3
    all_goals rw [HP.out]
    all_goals exact ⟨rfl, rfl⟩

/-- A line's width; an error's number. -/
def widthS (s : List Int) (line : Int) : Int × Int := if (spanS s line).2.2 then ((spanS s line).2.1 - (spanS s line).1, 0) else (0, 2)
theorem spanS_bd {s : List Int} {line : Int} {k : Nat} (h : s.length = k) : 0 ≤ (spanS s line).1 ∧ (spanS s line).1 ≤ (spanS s line).2.1 ∧ (spanS s line).2.1 ≤ k := by
  unfold spanS
  cases he : startF s 0 line.toNat with
  | none => simp
  | some a =>
    have h1 := (startF_le s _ 0 a (Nat.zero_le _) he).2
    have h2 := eolS_le (s.drop a)
    rw [List.length_drop] at h2
    unfold widS
    simp
    omega

set_option maxHeartbeats 2000000 in
theorem width_any (S : Option Addr) (k d : Nat) (line : Int) (s : List Int) (w : World) (h : Runes w S k s) (hk : k ≤ 35184372088832) (hd : k ≤ d) (hd2 : d ≤ 9223372036854775807) (hl : -9223372036854775808 ≤ line ∧ line ≤ 9223372036854775807) :
    Calls Try.prog 30 #[.slice S k d, .int .i64 line] w fun e w' => e = .returned (.tuple #[.int .i64 (widthS s line).1, .int .i64 (widthS s line).2]) ∧ w = w' := by
  have hb := spanS_bd (line := line) h.len
  have HS := hide (span_any S k d line s w h hk hd hd2 hl)
  have HW := hide (show widthS s line = if (spanS s line).2.2 then ((spanS s line).2.1 - (spanS s line).1, 0) else (0, 2) from rfl)
  clear h
  generalize (spanS s line).1 = f at hb HS HW
  generalize (spanS s line).2.1 = t at hb HS HW
  generalize (spanS s line).2.2 = ok at HS HW
  cases ok
  all_goals go_enter Try.func30, Try.ntmps30
  all_goals go_wp2_with fail
  all_goals refine HS.out.mono ?_
  all_goals rintro e w' ⟨rfl, rfl⟩
  all_goals go_wp2_with fail
  all_goals go_ret2
  all_goals rw [HW.out]
  all_goals exact ⟨rfl, rfl⟩
end Go.Proofs.Ytkoieceifplphaa
