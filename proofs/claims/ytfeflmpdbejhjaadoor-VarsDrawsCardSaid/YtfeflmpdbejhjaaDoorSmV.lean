/- Small functions of layer 16: the reference's Plain, a file's name up to its last point (both sides), the months' and days' names (both sides). -/
import Derived.Test.YtfeflmpdbejhjaaDoorRefE
namespace Go.Proofs.YtfeflmpdbejhjaaDoor
open Go.RowKit
set_option linter.unusedVariables false

set_option maxHeartbeats 1000000 in
theorem rplain_any (s : ByteArray) (w : World) (hs : s.size ≤ 1000000) : Calls Tryd.prog 57 #[.string s] w (NewR w (plainS s)) := by
  go_enter Tryd.func57, Tryd.ntmps57
  go_wp2_with fail
  go_loopw [3, 4] (fun o i wr => ∃ (A : Option Addr) (k cap : Nat), o = .slice A k cap ∧ i = .int .i64 k ∧ k ≤ s.size ∧ Own wr w.heap.size A k cap ((plainS s).take k) ∧ Hid (Below w.heap.size w wr)) (fun _ i _ => s.size - (intOf i).toNat)
  case atStart => exact ⟨none, 0, 0, rfl, rfl, Nat.zero_le _, Own.nil _ _, Below.refl _ _⟩
  case round =>
    obtain ⟨A, k, cap, rfl, rfl, hk, hown, hb⟩ := hrel
    have HO := hide hown
    have hsz := hb.out.size
    clear hown
    by_cases hlt : k < s.size
    · have h0 : (0 : Int) ≤ (k : Int) := by omega
      have h0' : (k : Int) < (s.size : Int) := by omega
      have HX := hide (plainS_at hlt)
      have HTK := hide (take_snoc (l := plainS s) (k := k) (by rw [plainS_len]; exact hlt))
      have h8 := (s[k]).toNat_lt
      have hw := u8_32 s[k]
      go_wp2_with (at_builtin
                   refine wpList_app rfl (.tmp 11) (.tmp 16) rfl w.heap.size rfl (HO.out.alloc _) rfl (Runes.news _ _ _ [(s[k].toNat : Int)] rfl (W32.one (by omega))) (by simp; omega) (by simp; omega) ?_
                   intro A3 c3 w3 ho3 hg3 hb3 hbk _)
      have HO3 := hide ho3
      have HB3 := hide ((hb.out.alloc hsz (.cells #[.int .i32 (s[k].toNat : Int)] 21)).trans hb3)
      clear ho3 hg3 hb3 hbk
      go_roundw
      case rel => exact ⟨A3, k + 1, c3, rfl, by first | rfl | go_num, by omega, by
        rw [HTK.out, HX.out]; exact HO3.out, HB3.out⟩
      case measure => simp [intOf]; omega
    · obtain rfl : k = s.size := by omega
      have HE := hide (show (plainS s).take s.size = plainS s from List.take_of_length_le (by rw [plainS_len]; exact Nat.le_refl _))
      rw [HE.out] at HO
      go_wp2_with fail
      go_ret
      exact ⟨A, _, cap, rfl, HO.out, hb.out⟩


/-- A file's name up to its last point. -/
def baseGo (l : List Int) : Nat → List Int
  | 0 => l
  | i + 1 => if nth l (i + 1) = 46 then l.take (i + 1) else baseGo l i
def baseS (l : List Int) : List Int := baseGo l (l.length - 1)

set_option maxRecDepth 100000 in
set_option maxHeartbeats 1000000 in
theorem base_any (A : Option Addr) (n c : Nat) (l : List Int) (w : World) (h : Runes w A n l) (hn : n ≤ 35184372088832) (hc : n ≤ c) :
    Calls Tryd.prog 43 #[.slice A n c] w fun e w' => ∃ k, e = .returned (.slice A k c) ∧ k ≤ n ∧ Runes w A k (baseS l) ∧ w = w' := by
  have HL := hide h.len
  have H := hide h
  clear h
  go_enter Tryd.func43, Tryd.ntmps43
  rcases Nat.eq_zero_or_pos n with rfl | hn0
  · have hl : l = [] := List.eq_nil_of_length_eq_zero HL.out
    subst hl
    go_wp2_with fail
    go_loop [3] (fun s => s = .int .i64 (-1)) (fun _ => 0)
    case atStart => rfl
    case round =>
      subst hrel
      go_wp2_with fail
      go_ret
      exact ⟨0, rfl, by simp, H.out, rfl⟩
  · go_wp2_with fail
    go_loop [3] (fun s => ∃ i : Nat, i < n ∧ s = .int .i64 (i : Int) ∧ Hid (baseGo l i = baseS l)) (fun s => (intOf s).toNat)
    case atStart => exact ⟨n - 1, by omega, by rw [show ((n - 1 : Nat) : Int) = (n : Int) - 1 by omega], by unfold Hid baseS; rw [HL.out]⟩
    case round =>
      obtain ⟨i, hi, rfl, HG⟩ := hrel
      rcases i with _ | i
      · go_wp2_with fail
        go_ret
        refine ⟨n, rfl, Nat.le_refl _, ?_, rfl⟩
        rw [← HG.out]
        exact H.out
      · obtain ⟨ab, ao, rfl, hcell⟩ := H.out.at_ (i + 1) hi
        have h0 : (0 : Int) < ((i + 1 : Nat) : Int) := by omega
        have h1 : (0 : Int) ≤ ((i + 1 : Nat) : Int) := by omega
        have h2 : ((i + 1 : Nat) : Int) < (n : Int) := by omega
        have e1 : ((i + 1 : Nat) : Int) - 1 = (i : Int) := by omega
        have hsl : ∀ W, (Instr.slice 22 (.slice (some ⟨ab, ao, none⟩) n c) none (some (.int .i64 ((i + 1 : Nat) : Int))) none).run Tryd.prog W = .ok (.slice (some ⟨ab, ao, none⟩) (i + 1) c) W := fun W => run_sub_h _ n c (i + 1) (by omega) W
        have HG2 := hide (show baseS l = if nth l (i + 1) = 46 then l.take (i + 1) else baseGo l i from HG.out.symm)
        clear HG
        by_cases h46 : nth l (i + 1) = 46
        · rw [h46] at hcell
          have HT := hide (show Runes w (some ⟨ab, ao, none⟩) (i + 1) (baseS l) from by
            rw [HG2.out, if_pos h46]
            exact H.out.take (by omega))
          clear h46
          generalize (i + 1) = k at h0 h1 h2 hcell hsl HT hi ⊢
          go_wp2_with fail
          go_ret
          exact ⟨k, rfl, by omega, HT.out, rfl⟩
        · have HE := hide (show baseGo l i = baseS l from by rw [HG2.out, if_neg h46])
          have hb : (nth l (i + 1) == 46) = false := by simpa using h46
          obtain ⟨k, hk⟩ : ∃ k, i + 1 = k := ⟨_, rfl⟩
          rw [hk] at h0 h1 h2 hcell hsl hb e1 ⊢
          clear HG2 h46
          go_wp2_with fail
          go_round
          case rel => exact ⟨i, by omega, rfl, HE.out⟩
          case measure => simp [intOf]; omega

set_option maxRecDepth 100000 in
set_option maxHeartbeats 1000000 in
theorem rbase_any (A : Option Addr) (n c : Nat) (l : List Int) (w : World) (h : Runes w A n l) (hn : n ≤ 35184372088832) (hc : n ≤ c) :
    Calls Tryd.prog 46 #[.slice A n c] w fun e w' => ∃ k, e = .returned (.slice A k c) ∧ k ≤ n ∧ Runes w A k (baseS l) ∧ w = w' := by
  have HL := hide h.len
  have H := hide h
  clear h
  go_enter Tryd.func46, Tryd.ntmps46
  rcases Nat.eq_zero_or_pos n with rfl | hn0
  · have hl : l = [] := List.eq_nil_of_length_eq_zero HL.out
    subst hl
    go_wp2_with fail
    go_loop [3] (fun s => s = .int .i64 (-1)) (fun _ => 0)
    case atStart => rfl
    case round =>
      subst hrel
      go_wp2_with fail
      go_ret
      exact ⟨0, rfl, by simp, H.out, rfl⟩
  · go_wp2_with fail
    go_loop [3] (fun s => ∃ i : Nat, i < n ∧ s = .int .i64 (i : Int) ∧ Hid (baseGo l i = baseS l)) (fun s => (intOf s).toNat)
    case atStart => exact ⟨n - 1, by omega, by rw [show ((n - 1 : Nat) : Int) = (n : Int) - 1 by omega], by unfold Hid baseS; rw [HL.out]⟩
    case round =>
      obtain ⟨i, hi, rfl, HG⟩ := hrel
      rcases i with _ | i
      · go_wp2_with fail
        go_ret
        refine ⟨n, rfl, Nat.le_refl _, ?_, rfl⟩
        rw [← HG.out]
        exact H.out
      · obtain ⟨ab, ao, rfl, hcell⟩ := H.out.at_ (i + 1) hi
        have h0 : (0 : Int) < ((i + 1 : Nat) : Int) := by omega
        have h1 : (0 : Int) ≤ ((i + 1 : Nat) : Int) := by omega
        have h2 : ((i + 1 : Nat) : Int) < (n : Int) := by omega
        have e1 : ((i + 1 : Nat) : Int) - 1 = (i : Int) := by omega
        have hsl : ∀ W, (Instr.slice 22 (.slice (some ⟨ab, ao, none⟩) n c) none (some (.int .i64 ((i + 1 : Nat) : Int))) none).run Tryd.prog W = .ok (.slice (some ⟨ab, ao, none⟩) (i + 1) c) W := fun W => run_sub_h _ n c (i + 1) (by omega) W
        have HG2 := hide (show baseS l = if nth l (i + 1) = 46 then l.take (i + 1) else baseGo l i from HG.out.symm)
        clear HG
        by_cases h46 : nth l (i + 1) = 46
        · rw [h46] at hcell
          have HT := hide (show Runes w (some ⟨ab, ao, none⟩) (i + 1) (baseS l) from by
            rw [HG2.out, if_pos h46]
            exact H.out.take (by omega))
          clear h46
          generalize (i + 1) = k at h0 h1 h2 hcell hsl HT hi ⊢
          go_wp2_with fail
          go_ret
          exact ⟨k, rfl, by omega, HT.out, rfl⟩
        · have HE := hide (show baseGo l i = baseS l from by rw [HG2.out, if_neg h46])
          have hb : (nth l (i + 1) == 46) = false := by simpa using h46
          obtain ⟨k, hk⟩ : ∃ k, i + 1 = k := ⟨_, rfl⟩
          rw [hk] at h0 h1 h2 hcell hsl hb e1 ⊢
          clear HG2 h46
          go_wp2_with fail
          go_round
          case rel => exact ⟨i, by omega, rfl, HE.out⟩
          case measure => simp [intOf]; omega

/-- The months' names; the days' names. -/
def monthB : Nat → ByteArray
  | 0 => ⟨#[74, 97, 110, 117, 97, 114, 121]⟩
  | 1 => ⟨#[70, 101, 98, 114, 117, 97, 114, 121]⟩
  | 2 => ⟨#[77, 97, 114, 99, 104]⟩
  | 3 => ⟨#[65, 112, 114, 105, 108]⟩
  | 4 => ⟨#[77, 97, 121]⟩
  | 5 => ⟨#[74, 117, 110, 101]⟩
  | 6 => ⟨#[74, 117, 108, 121]⟩
  | 7 => ⟨#[65, 117, 103, 117, 115, 116]⟩
  | 8 => ⟨#[83, 101, 112, 116, 101, 109, 98, 101, 114]⟩
  | 9 => ⟨#[79, 99, 116, 111, 98, 101, 114]⟩
  | 10 => ⟨#[78, 111, 118, 101, 109, 98, 101, 114]⟩
  | _ => ⟨#[68, 101, 99, 101, 109, 98, 101, 114]⟩
def dayB : Nat → ByteArray
  | 0 => ⟨#[83, 117, 110, 100, 97, 121]⟩
  | 1 => ⟨#[77, 111, 110, 100, 97, 121]⟩
  | 2 => ⟨#[84, 117, 101, 115, 100, 97, 121]⟩
  | 3 => ⟨#[87, 101, 100, 110, 101, 115, 100, 97, 121]⟩
  | 4 => ⟨#[84, 104, 117, 114, 115, 100, 97, 121]⟩
  | 5 => ⟨#[70, 114, 105, 100, 97, 121]⟩
  | _ => ⟨#[83, 97, 116, 117, 114, 100, 97, 121]⟩
theorem monthB_asc (k : Nat) : Asc (monthB k) := by
  unfold monthB
  split <;> exact Asc.of (by decide)
theorem monthB_size (k : Nat) : 3 ≤ (monthB k).size ∧ (monthB k).size ≤ 20 := by
  unfold monthB
  split <;> exact ⟨by decide, by decide⟩
theorem dayB_asc (k : Nat) : Asc (dayB k) := by
  unfold dayB
  split <;> exact Asc.of (by decide)
theorem dayB_size (k : Nat) : 3 ≤ (dayB k).size ∧ (dayB k).size ≤ 20 := by
  unfold dayB
  split <;> exact ⟨by decide, by decide⟩

def monthCells : Array Value := #[.string ⟨#[74, 97, 110, 117, 97, 114, 121]⟩, .string ⟨#[70, 101, 98, 114, 117, 97, 114, 121]⟩, .string ⟨#[77, 97, 114, 99, 104]⟩, .string ⟨#[65, 112, 114, 105, 108]⟩, .string ⟨#[77, 97, 121]⟩, .string ⟨#[74, 117, 110, 101]⟩, .string ⟨#[74, 117, 108, 121]⟩, .string ⟨#[65, 117, 103, 117, 115, 116]⟩, .string ⟨#[83, 101, 112, 116, 101, 109, 98, 101, 114]⟩, .string ⟨#[79, 99, 116, 111, 98, 101, 114]⟩, .string ⟨#[78, 111, 118, 101, 109, 98, 101, 114]⟩, .string ⟨#[68, 101, 99, 101, 109, 98, 101, 114]⟩]
theorem monthCells_at (k : Nat) (h : k < 12) : monthCells[k]? = some (.string (monthB k)) := by
  have hk2 : k = 0 ∨ k = 1 ∨ k = 2 ∨ k = 3 ∨ k = 4 ∨ k = 5 ∨ k = 6 ∨ k = 7 ∨ k = 8 ∨ k = 9 ∨ k = 10 ∨ k = 11 := by omega
  rcases hk2 with rfl | rfl | rfl | rfl | rfl | rfl | rfl | rfl | rfl | rfl | rfl | rfl <;> rfl
set_option maxRecDepth 100000 in
theorem months_any (w : World) : Calls Tryd.prog 55 #[] w fun e w' => e = .returned (.slice (some ⟨w.heap.size, 0, none⟩) 12 12) ∧ Box w' w.heap.size 9 monthCells ∧ Below w.heap.size w w' := by
  have HX := hide (Box.new w 9 monthCells)
  have HB := hide (show Below w.heap.size w (w.alloc (.cells monthCells 9)) from (Below.refl _ _).alloc (Nat.le_refl _) _)
  unfold monthCells at HX HB ⊢
  go_enter Tryd.func55, Tryd.ntmps55
  go_wp2_with fail
  go_ret
  exact ⟨rfl, HX.out, HB.out⟩

def dayCells : Array Value := #[.string ⟨#[83, 117, 110, 100, 97, 121]⟩, .string ⟨#[77, 111, 110, 100, 97, 121]⟩, .string ⟨#[84, 117, 101, 115, 100, 97, 121]⟩, .string ⟨#[87, 101, 100, 110, 101, 115, 100, 97, 121]⟩, .string ⟨#[84, 104, 117, 114, 115, 100, 97, 121]⟩, .string ⟨#[70, 114, 105, 100, 97, 121]⟩, .string ⟨#[83, 97, 116, 117, 114, 100, 97, 121]⟩]
theorem dayCells_at (k : Nat) (h : k < 7) : dayCells[k]? = some (.string (dayB k)) := by
  have hk2 : k = 0 ∨ k = 1 ∨ k = 2 ∨ k = 3 ∨ k = 4 ∨ k = 5 ∨ k = 6 := by omega
  rcases hk2 with rfl | rfl | rfl | rfl | rfl | rfl | rfl <;> rfl
set_option maxRecDepth 100000 in
theorem days_any (w : World) : Calls Tryd.prog 56 #[] w fun e w' => e = .returned (.slice (some ⟨w.heap.size, 0, none⟩) 7 7) ∧ Box w' w.heap.size 9 dayCells ∧ Below w.heap.size w w' := by
  have HX := hide (Box.new w 9 dayCells)
  have HB := hide (show Below w.heap.size w (w.alloc (.cells dayCells 9)) from (Below.refl _ _).alloc (Nat.le_refl _) _)
  unfold dayCells at HX HB ⊢
  go_enter Tryd.func56, Tryd.ntmps56
  go_wp2_with fail
  go_ret
  exact ⟨rfl, HX.out, HB.out⟩

theorem month_index0 (W : World) : (Instr.index 75 (.agg monthCells) (.int .i64 ((0 : Nat) : Int))).run Tryd.prog W = .ok (.string (monthB 0)) W := by kernel_rfl
theorem month_index1 (W : World) : (Instr.index 75 (.agg monthCells) (.int .i64 ((1 : Nat) : Int))).run Tryd.prog W = .ok (.string (monthB 1)) W := by kernel_rfl
theorem month_index2 (W : World) : (Instr.index 75 (.agg monthCells) (.int .i64 ((2 : Nat) : Int))).run Tryd.prog W = .ok (.string (monthB 2)) W := by kernel_rfl
theorem month_index3 (W : World) : (Instr.index 75 (.agg monthCells) (.int .i64 ((3 : Nat) : Int))).run Tryd.prog W = .ok (.string (monthB 3)) W := by kernel_rfl
theorem month_index4 (W : World) : (Instr.index 75 (.agg monthCells) (.int .i64 ((4 : Nat) : Int))).run Tryd.prog W = .ok (.string (monthB 4)) W := by kernel_rfl
theorem month_index5 (W : World) : (Instr.index 75 (.agg monthCells) (.int .i64 ((5 : Nat) : Int))).run Tryd.prog W = .ok (.string (monthB 5)) W := by kernel_rfl
theorem month_index6 (W : World) : (Instr.index 75 (.agg monthCells) (.int .i64 ((6 : Nat) : Int))).run Tryd.prog W = .ok (.string (monthB 6)) W := by kernel_rfl
theorem month_index7 (W : World) : (Instr.index 75 (.agg monthCells) (.int .i64 ((7 : Nat) : Int))).run Tryd.prog W = .ok (.string (monthB 7)) W := by kernel_rfl
theorem month_index8 (W : World) : (Instr.index 75 (.agg monthCells) (.int .i64 ((8 : Nat) : Int))).run Tryd.prog W = .ok (.string (monthB 8)) W := by kernel_rfl
theorem month_index9 (W : World) : (Instr.index 75 (.agg monthCells) (.int .i64 ((9 : Nat) : Int))).run Tryd.prog W = .ok (.string (monthB 9)) W := by kernel_rfl
theorem month_index10 (W : World) : (Instr.index 75 (.agg monthCells) (.int .i64 ((10 : Nat) : Int))).run Tryd.prog W = .ok (.string (monthB 10)) W := by kernel_rfl
theorem month_index11 (W : World) : (Instr.index 75 (.agg monthCells) (.int .i64 ((11 : Nat) : Int))).run Tryd.prog W = .ok (.string (monthB 11)) W := by kernel_rfl
theorem month_index (k : Nat) (hk : k < 12) (W : World) : (Instr.index 75 (.agg monthCells) (.int .i64 (k : Int))).run Tryd.prog W = .ok (.string (monthB k)) W := by
  have hk2 : k = 0 ∨ k = 1 ∨ k = 2 ∨ k = 3 ∨ k = 4 ∨ k = 5 ∨ k = 6 ∨ k = 7 ∨ k = 8 ∨ k = 9 ∨ k = 10 ∨ k = 11 := by omega
  rcases hk2 with rfl | rfl | rfl | rfl | rfl | rfl | rfl | rfl | rfl | rfl | rfl | rfl
  · exact month_index0 W
  · exact month_index1 W
  · exact month_index2 W
  · exact month_index3 W
  · exact month_index4 W
  · exact month_index5 W
  · exact month_index6 W
  · exact month_index7 W
  · exact month_index8 W
  · exact month_index9 W
  · exact month_index10 W
  · exact month_index11 W
set_option maxRecDepth 100000 in
set_option maxHeartbeats 1000000 in
theorem month_any (k : Nat) (hk : k < 12) (w : World) : Calls Tryd.prog 58 #[.int .i64 (((k + 1 : Nat) : Int))] w fun e w' => e = .returned (.string (monthB k)) ∧ w = w' := by
  have hidx := month_index k hk
  have e1 : ((k + 1 : Nat) : Int) - 1 = (k : Int) := by omega
  unfold monthCells at hidx
  go_enter Tryd.func58, Tryd.ntmps58
  go_wp2_with fail
  go_ret
  exact ⟨rfl, rfl⟩

theorem day_index0 (W : World) : (Instr.index 76 (.agg dayCells) (.int .i64 ((0 : Nat) : Int))).run Tryd.prog W = .ok (.string (dayB 0)) W := by kernel_rfl
theorem day_index1 (W : World) : (Instr.index 76 (.agg dayCells) (.int .i64 ((1 : Nat) : Int))).run Tryd.prog W = .ok (.string (dayB 1)) W := by kernel_rfl
theorem day_index2 (W : World) : (Instr.index 76 (.agg dayCells) (.int .i64 ((2 : Nat) : Int))).run Tryd.prog W = .ok (.string (dayB 2)) W := by kernel_rfl
theorem day_index3 (W : World) : (Instr.index 76 (.agg dayCells) (.int .i64 ((3 : Nat) : Int))).run Tryd.prog W = .ok (.string (dayB 3)) W := by kernel_rfl
theorem day_index4 (W : World) : (Instr.index 76 (.agg dayCells) (.int .i64 ((4 : Nat) : Int))).run Tryd.prog W = .ok (.string (dayB 4)) W := by kernel_rfl
theorem day_index5 (W : World) : (Instr.index 76 (.agg dayCells) (.int .i64 ((5 : Nat) : Int))).run Tryd.prog W = .ok (.string (dayB 5)) W := by kernel_rfl
theorem day_index6 (W : World) : (Instr.index 76 (.agg dayCells) (.int .i64 ((6 : Nat) : Int))).run Tryd.prog W = .ok (.string (dayB 6)) W := by kernel_rfl
theorem day_index (k : Nat) (hk : k < 7) (W : World) : (Instr.index 76 (.agg dayCells) (.int .i64 (k : Int))).run Tryd.prog W = .ok (.string (dayB k)) W := by
  have hk2 : k = 0 ∨ k = 1 ∨ k = 2 ∨ k = 3 ∨ k = 4 ∨ k = 5 ∨ k = 6 := by omega
  rcases hk2 with rfl | rfl | rfl | rfl | rfl | rfl | rfl
  · exact day_index0 W
  · exact day_index1 W
  · exact day_index2 W
  · exact day_index3 W
  · exact day_index4 W
  · exact day_index5 W
  · exact day_index6 W
set_option maxRecDepth 100000 in
set_option maxHeartbeats 1000000 in
theorem day_any (k : Nat) (hk : k < 7) (w : World) : Calls Tryd.prog 59 #[.int .i64 ((k : Int))] w fun e w' => e = .returned (.string (dayB k)) ∧ w = w' := by
  have hidx := day_index k hk
  have e1 : ((k + 1 : Nat) : Int) - 1 = (k : Int) := by omega
  unfold dayCells at hidx
  go_enter Tryd.func59, Tryd.ntmps59
  go_wp2_with fail
  go_ret
  exact ⟨rfl, rfl⟩
end Go.Proofs.YtfeflmpdbejhjaaDoor
