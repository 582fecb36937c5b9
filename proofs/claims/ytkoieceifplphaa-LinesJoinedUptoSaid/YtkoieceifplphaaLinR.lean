/- Contracts of the reference's Start, Width, Place, Offset, Indent. -/
import Derived.Test.YtkoieceifplphaaLinI
namespace Go.Proofs.Ytkoieceifplphaa
open Go.RowKit
set_option linter.unusedVariables false

theorem startE_no {s : List Int} {line : Int} (h : line < 0 ∨ startF s 0 line.toNat = none) : startE s line = (0, 2) := by
  unfold startE
  rw [span_no h]
  rfl
theorem startE_yes {s : List Int} {line : Int} {a : Nat} (hl : 0 ≤ line) (h : startF s 0 line.toNat = some a) : startE s line = ((a : Int), 0) := by
  unfold startE
  rw [span_yes hl h]
  rfl
theorem widthS_no {s : List Int} {line : Int} (h : line < 0 ∨ startF s 0 line.toNat = none) : widthS s line = (0, 2) := by
  unfold widthS
  rw [span_no h]
  rfl
theorem widthS_yes {s : List Int} {line : Int} {a : Nat} (hl : 0 ≤ line) (h : startF s 0 line.toNat = some a) : widthS s line = ((widS s a : Int), 0) := by
  unfold widthS
  rw [span_yes hl h]
  simp
  omega
theorem start_cases (s : List Int) (line : Int) : (line < 0 ∨ startF s 0 line.toNat = none) ∨ ∃ a : Nat, 0 ≤ line ∧ startF s 0 line.toNat = some a ∧ a ≤ s.length := by
  by_cases hl : line < 0
  · exact .inl (.inl hl)
  · cases he : startF s 0 line.toNat with
    | none => exact .inl (.inr rfl)
    | some a => exact .inr ⟨a, by omega, rfl, (startF_le s _ 0 a (Nat.zero_le _) he).2⟩

set_option maxRecDepth 100000 in
set_option maxHeartbeats 4000000 in
theorem rstart_any (S : Option Addr) (k d : Nat) (line : Int) (s : List Int) (w : World) (h : Runes w S k s) (hk : k ≤ 35184372088832) (hl : -9223372036854775808 ≤ line ∧ line ≤ 9223372036854775807) :
    Calls Try.prog 55 #[.slice S k d, .int .i64 line] w fun e w' => e = .returned (.tuple #[.int .i64 (startE s line).1, .int .i64 (startE s line).2]) ∧ w = w' := by
  have HR := hide h
  have HL := hide h.len
  clear h
  by_cases hneg : line < 0
  · have HE := hide (startE_no (s := s) (.inl hneg))
    rw [HE.out]
    go_enter Try.func55, Try.ntmps55
    go_wp2_with fail
    go_ret2
    exact ⟨rfl, rfl⟩
  · have hge : 0 ≤ line := by omega
    obtain ⟨st, hst⟩ : ∃ st, startF s 0 line.toNat = st := ⟨_, rfl⟩
    obtain ⟨z, hz⟩ : ∃ z, startE s line = z := ⟨_, rfl⟩
    have HZN := hide (show st = none → z = (0, 2) from fun h => by rw [← hz]; exact startE_no (.inr (hst.trans h)))
    have HZS := hide (show ∀ a : Nat, st = some a → z = ((a : Int), 0) from fun a h => by rw [← hz]; exact startE_yes hge (hst.trans h))
    rw [hz]
    have HST := hide hst
    clear hz hst hneg
    go_enter Try.func55, Try.ntmps55
    go_wp2_with fail
    go_loop [1, 6] (fun l f => ∃ x a : Nat, l = .int .i64 x ∧ f = .int .i64 a ∧ a ≤ k ∧ (x : Int) ≤ 9223372036854775807 ∧ Hid (startF s a x = st)) (fun l _ => (intOf l).toNat)
    case atStart => exact ⟨line.toNat, 0, by rw [Int.toNat_of_nonneg hge], rfl, Nat.zero_le _, by omega, HST.out⟩
    case round =>
      obtain ⟨x, a, rfl, rfl, hak, hxb, hrec⟩ := hrel
      rcases Nat.eq_zero_or_pos x with rfl | hpos
      · have HF := hide (HZS.out a hrec.out.symm)
        go_wp2_with fail
        go_ret2
        rw [HF.out]
        exact ⟨rfl, rfl⟩
      · obtain ⟨y, rfl⟩ : ∃ y, x = y + 1 := ⟨x - 1, by omega⟩
        have hy0 : (0 : Int) < ((y + 1 : Nat) : Int) := by omega
        have e1 : (((y + 1 : Nat) : Int)) - 1 = (y : Int) := by omega
        obtain ⟨E, hE⟩ : ∃ E, a + eolS (s.drop a) = E := ⟨_, rfl⟩
        have hEk : E ≤ k := by
          have := eolS_le (s.drop a)
          rw [List.length_drop, HL.out] at this
          omega
        have HSF := hide (show startF s a (y + 1) = if E < k then startF s (E + 1) y else none by rw [← HL.out, ← hE]; rfl)
        have HEH := hide hE
        clear hE
        go_upto_block 2 with fail
        go_cut [6] (fun f wx => f = .int .i64 E ∧ wx = w)
        case first =>
          go_wp2_with fail
          go_loop [6] (fun f => ∃ b : Nat, b ≤ k ∧ f = .int .i64 b ∧ Hid (b + eolS (s.drop b) = E)) (fun f => k - (intOf f).toNat)
          case atStart => exact ⟨a, hak, rfl, HEH.out⟩
          case round =>
            obtain ⟨b, hbk, rfl, hst⟩ := hrel
            by_cases hlt : b < k
            · obtain ⟨ab', ao', rfl, hc⟩ := HR.out.at_ b hlt
              have h1 : (0 : Int) ≤ (b : Int) := by omega
              have h2 : (b : Int) < (k : Int) := by omega
              have HFW := hide (eolS_drop (l := s) (k := b) (by rw [HL.out]; exact hlt))
              by_cases hs : nth s b = 10
              · have e2 : (nth s b != 10) = false := by simpa using hs
                obtain rfl : E = b := by
                  have h1 := hst.out
                  rw [HFW.out, if_pos hs] at h1
                  exact h1.symm
                clear hs
                go_wp2_with fail
                go_meet
                exact ⟨rfl, rfl⟩
              · have e2 : (nth s b != 10) = true := by simpa using hs
                have HP := hide hs
                clear hs
                go_wp2_with fail
                go_round
                case rel => exact ⟨b + 1, by omega, by go_num, by
                  have h1 := hst.out
                  rw [HFW.out, if_neg HP.out] at h1
                  show b + 1 + eolS (s.drop (b + 1)) = E
                  omega⟩
                case measure => simp [intOf]; omega
            · obtain rfl : E = b := by
                have h1 := hst.out
                rw [eolS_end (by rw [HL.out]; omega)] at h1
                omega
              go_wp2_with fail
              go_meet
              exact ⟨rfl, rfl⟩
        case rest =>
          obtain ⟨rfl, rfl⟩ := hcut
          by_cases hlt : E < k
          · have e3 : ((E : Int) == (k : Int)) = false := by simp; omega
            go_wp2_with fail
            go_round
            case rel => exact ⟨y, E + 1, rfl, by go_num, by omega, by omega, by
              have h1 := hrec.out
              rw [HSF.out, if_pos hlt] at h1
              exact h1⟩
            case measure => simp [intOf]
          · obtain rfl : E = k := by omega
            have HF := hide (HZN.out (by rw [← hrec.out, HSF.out, if_neg hlt]))
            go_wp2_with fail
            go_ret2
            rw [HF.out]
            exact ⟨rfl, rfl⟩
end Go.Proofs.Ytkoieceifplphaa
