/- Contracts of lines.Indent and of the reference's Start, Width, Place, Offset, Indent. -/
import Derived.Test.YtkoieceifplphaaLinC
import Derived.Deep.CutBlock
import Derived.Deep.DeepCutAuto
namespace Go.Proofs.Ytkoieceifplphaa
open Go.RowKit
set_option linter.unusedVariables false

theorem eolS_drop {l : List Int} {k : Nat} (h : k < l.length) : eolS (l.drop k) = if nth l k = 10 then 0 else eolS (l.drop (k + 1)) + 1 := by
  rw [List.drop_eq_getElem_cons h, nth_eq h]
  rfl
theorem eolS_end {l : List Int} {k : Nat} (h : l.length ≤ k) : eolS (l.drop k) = 0 := by
  rw [List.drop_of_length_le h]
  rfl

/-- A text and an error's number are handed back; the text is new. -/
def IndR (w : World) (l : List Int) (er : Int) (e : Ending) (w' : World) : Prop :=
  ∃ A n c, e = .returned (.tuple #[.slice A n c, .int .i64 er]) ∧ Own w' w.heap.size A n c l ∧ Below w.heap.size w w'

theorem isBl_10 : isBl 10 = false := by decide
/-- What span tells of a line. -/
theorem span_ways (s : List Int) (line : Int) : (spanS s line).2.2 = false ∨ ∃ a : Nat, a ≤ s.length ∧ (spanS s line).1 = a ∧ (spanS s line).2.1 = (a : Int) + (widS s a : Int) ∧ (spanS s line).2.2 = true ∧ 0 ≤ line ∧ startF s 0 line.toNat = some a := by
  unfold spanS
  cases he : startF s 0 line.toNat with
  | none => exact .inl rfl
  | some a =>
    by_cases hl : 0 ≤ line
    · exact .inr ⟨a, (startF_le s _ 0 a (Nat.zero_le _) he).2, rfl, rfl, by simp [hl], hl, rfl⟩
    · left
      simp
      omega
theorem span_no {s : List Int} {line : Int} (h : line < 0 ∨ startF s 0 line.toNat = none) : (spanS s line).2.2 = false := by
  unfold spanS
  rcases h with h | h
  · cases startF s 0 line.toNat with
    | none => rfl
    | some a => simp; omega
  · rw [h]
theorem span_yes {s : List Int} {line : Int} {a : Nat} (hl : 0 ≤ line) (h : startF s 0 line.toNat = some a) : spanS s line = ((a : Int), (a : Int) + (widS s a : Int), true) := by
  unfold spanS
  rw [h]
  simp [hl]

set_option maxRecDepth 100000 in
set_option maxHeartbeats 4000000 in
theorem indent_any (S : Option Addr) (k d : Nat) (line : Int) (s : List Int) (w : World) (h : Runes w S k s) (hk : k ≤ 35184372088832) (hd : k ≤ d) (hd2 : d ≤ 9223372036854775807) (hl : -9223372036854775808 ≤ line ∧ line ≤ 9223372036854775807) :
    Calls Try.prog 33 #[.slice S k d, .int .i64 line] w (IndR w (indentS s line) (indentE s line)) := by
  have HS := hide (span_any S k d line s w h hk hd hd2 hl)
  have HR := hide h
  have HL := hide h.len
  have hsl := h.len
  clear h
  rcases span_ways s line with hno | ⟨a, ha, h1, h2, h3, _, _⟩
  · have HN := hide (show indentS s line = [] by unfold indentS; rw [hno]; rfl)
    have HE := hide (show indentE s line = 2 by unfold indentE; rw [hno]; rfl)
    rw [hno] at HS
    rw [HN.out, HE.out]
    clear hno
    go_enter Try.func33, Try.ntmps33
    go_wp2_with fail
    refine HS.out.mono ?_
    rintro e w' ⟨rfl, rfl⟩
    go_wp2_with fail
    go_ret2
    exact ⟨none, 0, 0, rfl, Own.nil _ _, Below.refl _ _⟩
  · have hwid := eolS_le (s.drop a)
    rw [List.length_drop] at hwid
    have HN := hide (show indentS s line = (s.drop a).take (indN s a) by unfold indentS; rw [h3, h1]; rfl)
    have HE := hide (show indentE s line = 0 by unfold indentE; rw [h3]; rfl)
    rw [h1, h2, h3] at HS
    rw [HN.out, HE.out]
    obtain ⟨N, hN⟩ : ∃ N, indN s a = N := ⟨_, rfl⟩
    obtain ⟨wd, hwd⟩ : ∃ wd, widS s a = wd := ⟨_, rfl⟩
    rw [hN]
    rw [hwd] at HS
    have hak : a + wd ≤ k := by unfold widS at hwd; omega
    have hwd10 : a + wd < k → nth s (a + wd) = 10 := fun h => by
      have := eolS_at (l := s.drop a) (by rw [List.length_drop]; unfold widS at hwd; omega)
      rw [nth_drop] at this
      rw [← hwd]
      exact this
    have HWD := hide hwd10
    have HIN := hide hN
    have hNk : a + N ≤ k := by
      have := (blankN_le isBl 40 (s.drop a)).2
      rw [List.length_drop] at this
      unfold indN at hN
      omega
    have HRUN := hide (fun W => run_sub_lh S k d a N (by omega) W)
    clear h1 h2 h3 hN hwd hwd10 HN HE hwid
    go_enter Try.func33, Try.ntmps33
    go_wp2_with fail
    refine HS.out.mono ?_
    rintro e w' ⟨rfl, rfl⟩
    go_upto_block 0 with fail
    go_cut [9] (fun f wx => f = .int .i64 N ∧ wx = w)
    case first =>
      go_wp2_with fail
      go_loop [9] (fun f => ∃ j : Nat, j ≤ 40 ∧ j ≤ wd ∧ f = .int .i64 j ∧ Hid (j + blankN isBl (40 - j) (s.drop (a + j)) = N)) (fun f => 40 - (intOf f).toNat)
      case atStart => exact ⟨0, by omega, by omega, rfl, by have := HIN.out; unfold indN at this; simpa [Hid] using this⟩
      case round =>
        obtain ⟨j, hj40, hjw, rfl, hst⟩ := hrel
        by_cases h40 : j < 40
        · have h40' : (j : Int) < 40 := by omega
          by_cases hlt : j < wd
          · have hlt' : (j : Int) < ((a : Int) + (wd : Int)) - (a : Int) := by omega
            obtain ⟨ab, ao, rfl, hc⟩ := HR.out.at_ (a + j) (by omega)
            have hs0 : (0 : Int) ≤ (a : Int) + (j : Int) := by omega
            have hs1 : (a : Int) + (j : Int) < (k : Int) := by omega
            have hs2 : ((a : Int) + (j : Int)).toNat = a + j := by omega
            have HBN := hide (blankN_drop (p := isBl) (l := s) (m := 40 - (j + 1)) (k := a + j) (by rw [HL.out]; omega))
            by_cases hs : clsS (nth s (a + j)) = 1
            · have e2 : (clsS (nth s (a + j)) == 1) = true := by simpa using hs
              have HP := hide (show isBl (nth s (a + j)) = true by unfold isBl; simpa using hs)
              clear hs
              go_wp2_with fail
              refine (class_any _ _).mono ?_
              rintro e w1 ⟨rfl, rfl⟩
              go_wp2_with fail
              go_round
              case rel => exact ⟨j + 1, by omega, by omega, by go_num, by
                have h1 := hst.out
                rw [show 40 - j = (40 - (j + 1)) + 1 by omega, HBN.out, HP.out, if_pos rfl] at h1
                show j + 1 + blankN isBl (40 - (j + 1)) (s.drop (a + (j + 1))) = N
                rw [show a + (j + 1) = a + j + 1 by omega]
                omega⟩
              case measure => simp [intOf]; omega
            · have e2 : (clsS (nth s (a + j)) == 1) = false := by simpa using hs
              have HP := hide (show isBl (nth s (a + j)) = false by unfold isBl; simpa using hs)
              obtain rfl : N = j := by
                have h1 := hst.out
                rw [show 40 - j = (40 - (j + 1)) + 1 by omega, HBN.out, HP.out] at h1
                simpa using h1.symm
              clear hs
              go_wp2_with fail
              refine (class_any _ _).mono ?_
              rintro e w1 ⟨rfl, rfl⟩
              go_wp2_with fail
              go_meet
              exact ⟨rfl, rfl⟩
          · obtain rfl : j = wd := by omega
            obtain rfl : N = j := by
              have h1 := hst.out
              by_cases hak2 : a + j < k
              · rw [show 40 - j = (40 - (j + 1)) + 1 by omega, blankN_drop (by rw [HL.out]; omega), HWD.out hak2, isBl_10] at h1
                simpa using h1.symm
              · rw [blankN_end (by rw [HL.out]; omega)] at h1
                omega
            go_wp2_with fail
            go_meet
            exact ⟨rfl, rfl⟩
        · obtain rfl : j = 40 := by omega
          obtain rfl : N = 40 := by
            have h1 := hst.out
            simpa [blankN] using h1.symm
          have h41 : (((40 : Nat) : Int)) = 40 := rfl
          go_wp2_with fail
          go_meet
          exact ⟨rfl, rfl⟩
    case rest =>
      obtain ⟨rfl, rfl⟩ := hcut
      have hrun := HRUN.out wc
      have HMID := hide (HR.out.mid (a := a) (m := N) (c := d) (by omega) hd)
      have HCL := hide (clone_any (sub S d a) N (d - a) ((s.drop a).take N) wc HMID.out (by omega))
      go_wp2_with fail
      refine HCL.out.mono ?_
      rintro e w1 ⟨A, n, c, rfl, ho, hb⟩
      have HO := hide ho
      have HB := hide hb
      clear ho hb
      go_wp2_with fail
      go_ret2
      exact ⟨A, n, c, rfl, HO.out, HB.out⟩
end Go.Proofs.Ytkoieceifplphaa
