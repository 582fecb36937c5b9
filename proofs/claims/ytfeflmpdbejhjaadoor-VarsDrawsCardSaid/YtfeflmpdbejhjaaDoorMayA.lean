/- May of an environment, its parts: in, short; Go's IndexFunc and ContainsFunc at ints; a draw that is none; the clock. -/
import Derived.Test.YtfeflmpdbejhjaaDoorEnvA
namespace Go.Proofs.YtfeflmpdbejhjaaDoor
open Go.RowKit
set_option linter.unusedVariables false

def inB (n a b : Int) : Bool := decide (a ≤ n) && decide (n ≤ b)
def shortS (l : List Int) : Bool := decide (l.length ≤ 100) && mayS l
theorem in_any (n a b : Int) (w : World) : Calls Tryd.prog 37 #[.int .i64 n, .int .i64 a, .int .i64 b] w fun e w' => e = .returned (.bool (inB n a b)) ∧ w = w' := by
  go_enter Tryd.func37, Tryd.ntmps37
  go_wp2
  all_goals go_ret
  all_goals refine ⟨retB ?_, rfl⟩
  all_goals rw [Bool.eq_iff_iff]; simp [inB]; try omega
theorem short_any (A : Option Addr) (n c : Nat) (l : List Int) (w : World) (h : Runes w A n l) (hn : n ≤ 35184372088832) :
    Calls Tryd.prog 36 #[.slice A n c] w fun e w' => e = .returned (.bool (shortS l)) ∧ w = w' := by
  have HL := hide h.len
  have hM := hide (refMay_any A n c l w h (by omega))
  clear h
  go_enter Tryd.func36, Tryd.ntmps36
  by_cases hs : n ≤ 100
  · have hs2 : (n : Int) ≤ 100 := by omega
    have HR := hide (show mayS l = shortS l from by unfold shortS; rw [HL.out, decide_eq_true hs, Bool.true_and])
    clear hs
    go_wp2_with (go_at_call 49; (with_reducible refine hM.out.mono ?_); rintro e w' ⟨rfl, rfl⟩)
    go_ret
    exact ⟨retB HR.out, rfl⟩
  · have hs2 : ¬ (n : Int) ≤ 100 := by omega
    have HR := hide (show shortS l = false from by unfold shortS; rw [HL.out, decide_eq_false hs, Bool.false_and])
    clear hs
    go_wp2_with fail
    go_ret
    exact ⟨retB HR.out.symm, rfl⟩

set_option maxHeartbeats 400000 in
theorem indexInt_any (g : FuncId) (eg : ∀ args w, (callFunc g args).run Tryd.prog w = .ok (.enter g args) w) (p : Int → Bool) (hg : ∀ (r : Int) (w : World), Calls Tryd.prog g #[.int .i64 r] w fun e w' => e = .returned (.bool (p r)) ∧ w = w')
    (A : Option Addr) (n c : Nat) (l : List Int) (w : World) (h : IntsR w A n l) (hn : n ≤ 9223372036854775807) :
    Calls Tryd.prog 48 #[.slice A n c, .func (.func g) #[] #[]] w fun e w' => e = .returned (.int .i64 (idxF p l)) ∧ w = w' := by
  have HL := hide h.len
  have HG := hide hg
  clear hg
  go_enter Tryd.func48, Tryd.ntmps48
  go_wp2_with fail
  go_loop [5, 8] (fun _ i => ∃ k : Nat, k ≤ n ∧ i = .int .i64 k ∧ Hid (∀ j, j < k → p (nth l j) = false)) (fun _ i => n - (intOf i).toNat)
  case atStart => exact ⟨0, Nat.zero_le _, rfl, fun j hj => absurd hj (by omega)⟩
  case round =>
    obtain ⟨k, hk, rfl, hj⟩ := hrel
    by_cases hlt : k < n
    · obtain ⟨ab, ao, rfl, hc⟩ := h.at_ k hlt
      cases hs : p (nth l k)
      · have HS := hide hs
        go_wp2_with fail
        refine (HG.out _ _).mono ?_
        rintro e w' ⟨rfl, rfl⟩
        go_wp2
        go_round
        case rel => exact ⟨k + 1, by omega, by go_num, fun j h' => (by
          rcases Nat.lt_succ_iff_lt_or_eq.1 h' with h1 | h1
          · exact hj.out j h1
          · rw [h1]; exact HS.out)⟩
        case measure => simp [intOf]; omega
      · have HS := hide hs
        go_wp2_with fail
        refine (HG.out _ _).mono ?_
        rintro e w' ⟨rfl, rfl⟩
        go_wp2
        go_ret
        exact ⟨retI (idxF_at (by rw [HL.out]; exact hlt) HS.out hj.out).symm, rfl⟩
    · go_wp2
      go_ret
      exact ⟨retI (idxF_no (fun j h' => hj.out j (by have := HL.out; omega))).symm, rfl⟩


set_option maxHeartbeats 400000 in
theorem containsInt_any (g : FuncId) (eg : ∀ args w, (callFunc g args).run Tryd.prog w = .ok (.enter g args) w) (p : Int → Bool) (hg : ∀ (r : Int) (w : World), Calls Tryd.prog g #[.int .i64 r] w fun e w' => e = .returned (.bool (p r)) ∧ w = w')
    (A : Option Addr) (n c : Nat) (l : List Int) (w : World) (h : IntsR w A n l) (hn : n ≤ 9223372036854775807) :
    Calls Tryd.prog 33 #[.slice A n c, .func (.func g) #[] #[]] w fun e w' => e = .returned (.bool (l.any p)) ∧ w = w' := by
  have HG := hide hg
  clear hg
  have hi : (decide (0 ≤ idxF p l)) = l.any p := by
    cases hf : l.findIdx? p with
    | none =>
      have : l.any p = false := by
        rw [List.findIdx?_eq_none_iff] at hf
        rw [List.any_eq_false]
        intro x hx
        simp [hf x hx]
      rw [this]; simp [idxF, hf]
    | some i =>
      have : l.any p = true := by
        rw [List.findIdx?_eq_some_iff_getElem] at hf
        obtain ⟨h1, h2, _⟩ := hf
        rw [List.any_eq_true]
        exact ⟨_, List.getElem_mem h1, h2⟩
      rw [this]; simp [idxF, hf]
  have HI := hide hi
  clear hi
  go_enter Tryd.func33, Tryd.ntmps33
  go_wp2_with fail
  refine (indexInt_any g eg p HG.out A n c l w h hn).mono ?_
  rintro e w' ⟨rfl, rfl⟩
  go_wp2
  all_goals go_ret
  all_goals first | exact ⟨retB HI.out, rfl⟩ | exact ⟨retB (by rw [← HI.out]; simp; omega), rfl⟩


theorem bad_any (r : Int) (w : World) : Calls Tryd.prog 34 #[.int .i64 r] w fun e w' => e = .returned (.bool (!inB r 0 16777215)) ∧ w = w' := by
  go_enter Tryd.func34, Tryd.ntmps34
  go_wp2
  all_goals go_ret
  all_goals refine ⟨retB ?_, rfl⟩
  all_goals rw [Bool.eq_iff_iff]; simp [inB]; try omega

theorem size_al (w : World) (o : Obj) : (w.alloc o).heap.size = w.heap.size + 1 := Array.size_push ..
def clockOk (ck : Fin 7 → Int) : Bool := inB (ck 0) 0 9999 && inB (ck 1) 1 12 && inB (ck 2) 1 31 && inB (ck 3) 0 23 && inB (ck 4) 0 59 && inB (ck 5) 0 59 && inB (ck 6) 0 6
def inK (ck : Fin 7 → Int) : Nat → Bool
  | 0 => inB (ck 0) 0 9999
  | 1 => inB (ck 1) 1 12
  | 2 => inB (ck 2) 1 31
  | 3 => inB (ck 3) 0 23
  | 4 => inB (ck 4) 0 59
  | 5 => inB (ck 5) 0 59
  | 6 => inB (ck 6) 0 6
  | _ => true

set_option maxRecDepth 100000 in
set_option maxHeartbeats 4000000 in
theorem clock_any (ck : Fin 7 → Int) (w : World) : Calls Tryd.prog 35 #[.agg #[.int .i64 (ck 0), .int .i64 (ck 1), .int .i64 (ck 2), .int .i64 (ck 3), .int .i64 (ck 4), .int .i64 (ck 5), .int .i64 (ck 6)]] w fun e w' => e = .returned (.bool (clockOk ck)) ∧ Below w.heap.size w w' := by
  obtain ⟨g, hg⟩ : ∃ g, w.heap.size = g := ⟨_, rfl⟩
  go_enter Tryd.func35, Tryd.ntmps35
  go_wp2_with fail
  have HL := hide (show Box (((w.alloc (.cells #[.int .i64 (ck 0), .int .i64 (ck 1), .int .i64 (ck 2), .int .i64 (ck 3), .int .i64 (ck 4), .int .i64 (ck 5), .int .i64 (ck 6)] 23)).alloc (.cells #[.int .i64 0, .int .i64 1, .int .i64 1, .int .i64 0, .int .i64 0, .int .i64 0, .int .i64 0] 23)).alloc (.cells #[.int .i64 9999, .int .i64 12, .int .i64 31, .int .i64 23, .int .i64 59, .int .i64 59, .int .i64 6] 23)) (g + 1) 23 #[.int .i64 0, .int .i64 1, .int .i64 1, .int .i64 0, .int .i64 0, .int .i64 0, .int .i64 0] from (Box.newAt (by rw [size_al, hg]) _ _).alloc _)
  have HH := hide (show Box (((w.alloc (.cells #[.int .i64 (ck 0), .int .i64 (ck 1), .int .i64 (ck 2), .int .i64 (ck 3), .int .i64 (ck 4), .int .i64 (ck 5), .int .i64 (ck 6)] 23)).alloc (.cells #[.int .i64 0, .int .i64 1, .int .i64 1, .int .i64 0, .int .i64 0, .int .i64 0, .int .i64 0] 23)).alloc (.cells #[.int .i64 9999, .int .i64 12, .int .i64 31, .int .i64 23, .int .i64 59, .int .i64 59, .int .i64 6] 23)) (g + 1 + 1) 23 #[.int .i64 9999, .int .i64 12, .int .i64 31, .int .i64 23, .int .i64 59, .int .i64 59, .int .i64 6] from Box.newAt (by rw [size_al, size_al, hg]) _ _)
  have HB := hide (show Below g w (((w.alloc (.cells #[.int .i64 (ck 0), .int .i64 (ck 1), .int .i64 (ck 2), .int .i64 (ck 3), .int .i64 (ck 4), .int .i64 (ck 5), .int .i64 (ck 6)] 23)).alloc (.cells #[.int .i64 0, .int .i64 1, .int .i64 1, .int .i64 0, .int .i64 0, .int .i64 0, .int .i64 0] 23)).alloc (.cells #[.int .i64 9999, .int .i64 12, .int .i64 31, .int .i64 23, .int .i64 59, .int .i64 59, .int .i64 6] 23)) from (((Below.refl g w).alloc (by omega) _).alloc (by rw [size_al]; omega) _).alloc (by rw [size_al, size_al]; omega) _)
  generalize ((w.alloc (.cells #[.int .i64 (ck 0), .int .i64 (ck 1), .int .i64 (ck 2), .int .i64 (ck 3), .int .i64 (ck 4), .int .i64 (ck 5), .int .i64 (ck 6)] 23)).alloc (.cells #[.int .i64 0, .int .i64 1, .int .i64 1, .int .i64 0, .int .i64 0, .int .i64 0, .int .i64 0] 23)).alloc (.cells #[.int .i64 9999, .int .i64 12, .int .i64 31, .int .i64 23, .int .i64 59, .int .i64 59, .int .i64 6] 23) = w3 at HL HH HB ⊢
  have l0 := HL.out.cell 0
  have m0 := HH.out.cell 0
  have l1 := HL.out.cell 1
  have m1 := HH.out.cell 1
  have l2 := HL.out.cell 2
  have m2 := HH.out.cell 2
  have l3 := HL.out.cell 3
  have m3 := HH.out.cell 3
  have l4 := HL.out.cell 4
  have m4 := HH.out.cell 4
  have l5 := HL.out.cell 5
  have m5 := HH.out.cell 5
  have l6 := HL.out.cell 6
  have m6 := HH.out.cell 6
  dsimp at l0 l1 l2 l3 l4 l5 l6 m0 m1 m2 m3 m4 m5 m6
  go_loop [5, 6, 10] (fun _ _ s => ∃ i : Nat, i ≤ 7 ∧ s = .int .i64 (i : Int) ∧ Hid (∀ j, j < i → inK ck j = true)) (fun _ _ s => 7 - (intOf s).toNat)
  case atStart => exact ⟨0, by omega, rfl, fun j hj => absurd hj (by omega)⟩
  case round =>
    obtain ⟨i, hi, rfl, HK⟩ := hrel
    have hi7 : i = 0 ∨ i = 1 ∨ i = 2 ∨ i = 3 ∨ i = 4 ∨ i = 5 ∨ i = 6 ∨ i = 7 := by omega
    rcases hi7 with rfl | rfl | rfl | rfl | rfl | rfl | rfl | rfl
    · obtain ⟨c, hc⟩ : ∃ c, ck 0 = c := ⟨_, rfl⟩
      have hidx : ∀ W, (Instr.index 23 (.agg #[.int .i64 (ck 0), .int .i64 (ck 1), .int .i64 (ck 2), .int .i64 (ck 3), .int .i64 (ck 4), .int .i64 (ck 5), .int .i64 (ck 6)]) (.int .i64 0)).run Tryd.prog W = .ok (.int .i64 (ck 0)) W := fun W => by kernel_rfl
      by_cases h1 : c < 0
      · have HR := hide (show clockOk ck = false from by unfold clockOk inB; rw [hc]; simp; omega)
        rw [hc] at hidx
        go_wp2_with fail
        go_ret
        exact ⟨retB HR.out.symm, by first | exact HB.out | (rw [hg]; exact HB.out)⟩
      · by_cases h2 : 9999 < c
        · have HR := hide (show clockOk ck = false from by unfold clockOk inB; rw [hc]; simp; omega)
          rw [hc] at hidx
          go_wp2_with fail
          go_ret
          exact ⟨retB HR.out.symm, by first | exact HB.out | (rw [hg]; exact HB.out)⟩
        · have HN := hide (show ∀ j, j < 1 → inK ck j = true from fun j hj => by
            rcases Nat.lt_succ_iff_lt_or_eq.1 hj with h | h
            · exact HK.out j h
            · subst h
              show inB (ck 0) 0 9999 = true
              unfold inB
              rw [hc]
              simp
              omega)
          rw [hc] at hidx
          go_wp2_with fail
          go_round
          case rel => exact ⟨1, by omega, rfl, HN.out⟩
          case measure => simp [intOf]
    · obtain ⟨c, hc⟩ : ∃ c, ck 1 = c := ⟨_, rfl⟩
      have hidx : ∀ W, (Instr.index 23 (.agg #[.int .i64 (ck 0), .int .i64 (ck 1), .int .i64 (ck 2), .int .i64 (ck 3), .int .i64 (ck 4), .int .i64 (ck 5), .int .i64 (ck 6)]) (.int .i64 1)).run Tryd.prog W = .ok (.int .i64 (ck 1)) W := fun W => by kernel_rfl
      by_cases h1 : c < 1
      · have HR := hide (show clockOk ck = false from by unfold clockOk inB; rw [hc]; simp; omega)
        rw [hc] at hidx
        go_wp2_with fail
        go_ret
        exact ⟨retB HR.out.symm, by first | exact HB.out | (rw [hg]; exact HB.out)⟩
      · by_cases h2 : 12 < c
        · have HR := hide (show clockOk ck = false from by unfold clockOk inB; rw [hc]; simp; omega)
          rw [hc] at hidx
          go_wp2_with fail
          go_ret
          exact ⟨retB HR.out.symm, by first | exact HB.out | (rw [hg]; exact HB.out)⟩
        · have HN := hide (show ∀ j, j < 2 → inK ck j = true from fun j hj => by
            rcases Nat.lt_succ_iff_lt_or_eq.1 hj with h | h
            · exact HK.out j h
            · subst h
              show inB (ck 1) 1 12 = true
              unfold inB
              rw [hc]
              simp
              omega)
          rw [hc] at hidx
          go_wp2_with fail
          go_round
          case rel => exact ⟨2, by omega, rfl, HN.out⟩
          case measure => simp [intOf]
    · obtain ⟨c, hc⟩ : ∃ c, ck 2 = c := ⟨_, rfl⟩
      have hidx : ∀ W, (Instr.index 23 (.agg #[.int .i64 (ck 0), .int .i64 (ck 1), .int .i64 (ck 2), .int .i64 (ck 3), .int .i64 (ck 4), .int .i64 (ck 5), .int .i64 (ck 6)]) (.int .i64 2)).run Tryd.prog W = .ok (.int .i64 (ck 2)) W := fun W => by kernel_rfl
      by_cases h1 : c < 1
      · have HR := hide (show clockOk ck = false from by unfold clockOk inB; rw [hc]; simp; omega)
        rw [hc] at hidx
        go_wp2_with fail
        go_ret
        exact ⟨retB HR.out.symm, by first | exact HB.out | (rw [hg]; exact HB.out)⟩
      · by_cases h2 : 31 < c
        · have HR := hide (show clockOk ck = false from by unfold clockOk inB; rw [hc]; simp; omega)
          rw [hc] at hidx
          go_wp2_with fail
          go_ret
          exact ⟨retB HR.out.symm, by first | exact HB.out | (rw [hg]; exact HB.out)⟩
        · have HN := hide (show ∀ j, j < 3 → inK ck j = true from fun j hj => by
            rcases Nat.lt_succ_iff_lt_or_eq.1 hj with h | h
            · exact HK.out j h
            · subst h
              show inB (ck 2) 1 31 = true
              unfold inB
              rw [hc]
              simp
              omega)
          rw [hc] at hidx
          go_wp2_with fail
          go_round
          case rel => exact ⟨3, by omega, rfl, HN.out⟩
          case measure => simp [intOf]
    · obtain ⟨c, hc⟩ : ∃ c, ck 3 = c := ⟨_, rfl⟩
      have hidx : ∀ W, (Instr.index 23 (.agg #[.int .i64 (ck 0), .int .i64 (ck 1), .int .i64 (ck 2), .int .i64 (ck 3), .int .i64 (ck 4), .int .i64 (ck 5), .int .i64 (ck 6)]) (.int .i64 3)).run Tryd.prog W = .ok (.int .i64 (ck 3)) W := fun W => by kernel_rfl
      by_cases h1 : c < 0
      · have HR := hide (show clockOk ck = false from by unfold clockOk inB; rw [hc]; simp; omega)
        rw [hc] at hidx
        go_wp2_with fail
        go_ret
        exact ⟨retB HR.out.symm, by first | exact HB.out | (rw [hg]; exact HB.out)⟩
      · by_cases h2 : 23 < c
        · have HR := hide (show clockOk ck = false from by unfold clockOk inB; rw [hc]; simp; omega)
          rw [hc] at hidx
          go_wp2_with fail
          go_ret
          exact ⟨retB HR.out.symm, by first | exact HB.out | (rw [hg]; exact HB.out)⟩
        · have HN := hide (show ∀ j, j < 4 → inK ck j = true from fun j hj => by
            rcases Nat.lt_succ_iff_lt_or_eq.1 hj with h | h
            · exact HK.out j h
            · subst h
              show inB (ck 3) 0 23 = true
              unfold inB
              rw [hc]
              simp
              omega)
          rw [hc] at hidx
          go_wp2_with fail
          go_round
          case rel => exact ⟨4, by omega, rfl, HN.out⟩
          case measure => simp [intOf]
    · obtain ⟨c, hc⟩ : ∃ c, ck 4 = c := ⟨_, rfl⟩
      have hidx : ∀ W, (Instr.index 23 (.agg #[.int .i64 (ck 0), .int .i64 (ck 1), .int .i64 (ck 2), .int .i64 (ck 3), .int .i64 (ck 4), .int .i64 (ck 5), .int .i64 (ck 6)]) (.int .i64 4)).run Tryd.prog W = .ok (.int .i64 (ck 4)) W := fun W => by kernel_rfl
      by_cases h1 : c < 0
      · have HR := hide (show clockOk ck = false from by unfold clockOk inB; rw [hc]; simp; omega)
        rw [hc] at hidx
        go_wp2_with fail
        go_ret
        exact ⟨retB HR.out.symm, by first | exact HB.out | (rw [hg]; exact HB.out)⟩
      · by_cases h2 : 59 < c
        · have HR := hide (show clockOk ck = false from by unfold clockOk inB; rw [hc]; simp; omega)
          rw [hc] at hidx
          go_wp2_with fail
          go_ret
          exact ⟨retB HR.out.symm, by first | exact HB.out | (rw [hg]; exact HB.out)⟩
        · have HN := hide (show ∀ j, j < 5 → inK ck j = true from fun j hj => by
            rcases Nat.lt_succ_iff_lt_or_eq.1 hj with h | h
            · exact HK.out j h
            · subst h
              show inB (ck 4) 0 59 = true
              unfold inB
              rw [hc]
              simp
              omega)
          rw [hc] at hidx
          go_wp2_with fail
          go_round
          case rel => exact ⟨5, by omega, rfl, HN.out⟩
          case measure => simp [intOf]
    · obtain ⟨c, hc⟩ : ∃ c, ck 5 = c := ⟨_, rfl⟩
      have hidx : ∀ W, (Instr.index 23 (.agg #[.int .i64 (ck 0), .int .i64 (ck 1), .int .i64 (ck 2), .int .i64 (ck 3), .int .i64 (ck 4), .int .i64 (ck 5), .int .i64 (ck 6)]) (.int .i64 5)).run Tryd.prog W = .ok (.int .i64 (ck 5)) W := fun W => by kernel_rfl
      by_cases h1 : c < 0
      · have HR := hide (show clockOk ck = false from by unfold clockOk inB; rw [hc]; simp; omega)
        rw [hc] at hidx
        go_wp2_with fail
        go_ret
        exact ⟨retB HR.out.symm, by first | exact HB.out | (rw [hg]; exact HB.out)⟩
      · by_cases h2 : 59 < c
        · have HR := hide (show clockOk ck = false from by unfold clockOk inB; rw [hc]; simp; omega)
          rw [hc] at hidx
          go_wp2_with fail
          go_ret
          exact ⟨retB HR.out.symm, by first | exact HB.out | (rw [hg]; exact HB.out)⟩
        · have HN := hide (show ∀ j, j < 6 → inK ck j = true from fun j hj => by
            rcases Nat.lt_succ_iff_lt_or_eq.1 hj with h | h
            · exact HK.out j h
            · subst h
              show inB (ck 5) 0 59 = true
              unfold inB
              rw [hc]
              simp
              omega)
          rw [hc] at hidx
          go_wp2_with fail
          go_round
          case rel => exact ⟨6, by omega, rfl, HN.out⟩
          case measure => simp [intOf]
    · obtain ⟨c, hc⟩ : ∃ c, ck 6 = c := ⟨_, rfl⟩
      have hidx : ∀ W, (Instr.index 23 (.agg #[.int .i64 (ck 0), .int .i64 (ck 1), .int .i64 (ck 2), .int .i64 (ck 3), .int .i64 (ck 4), .int .i64 (ck 5), .int .i64 (ck 6)]) (.int .i64 6)).run Tryd.prog W = .ok (.int .i64 (ck 6)) W := fun W => by kernel_rfl
      by_cases h1 : c < 0
      · have HR := hide (show clockOk ck = false from by unfold clockOk inB; rw [hc]; simp; omega)
        rw [hc] at hidx
        go_wp2_with fail
        go_ret
        exact ⟨retB HR.out.symm, by first | exact HB.out | (rw [hg]; exact HB.out)⟩
      · by_cases h2 : 6 < c
        · have HR := hide (show clockOk ck = false from by unfold clockOk inB; rw [hc]; simp; omega)
          rw [hc] at hidx
          go_wp2_with fail
          go_ret
          exact ⟨retB HR.out.symm, by first | exact HB.out | (rw [hg]; exact HB.out)⟩
        · have HN := hide (show ∀ j, j < 7 → inK ck j = true from fun j hj => by
            rcases Nat.lt_succ_iff_lt_or_eq.1 hj with h | h
            · exact HK.out j h
            · subst h
              show inB (ck 6) 0 6 = true
              unfold inB
              rw [hc]
              simp
              omega)
          rw [hc] at hidx
          go_wp2_with fail
          go_round
          case rel => exact ⟨7, by omega, rfl, HN.out⟩
          case measure => simp [intOf]
    · have HR := hide (show clockOk ck = true from by
        have q0 : inB (ck 0) 0 9999 = true := HK.out 0 (by omega)
        have q1 : inB (ck 1) 1 12 = true := HK.out 1 (by omega)
        have q2 : inB (ck 2) 1 31 = true := HK.out 2 (by omega)
        have q3 : inB (ck 3) 0 23 = true := HK.out 3 (by omega)
        have q4 : inB (ck 4) 0 59 = true := HK.out 4 (by omega)
        have q5 : inB (ck 5) 0 59 = true := HK.out 5 (by omega)
        have q6 : inB (ck 6) 0 6 = true := HK.out 6 (by omega)
        unfold clockOk
        rw [q0, q1, q2, q3, q4, q5, q6]
        rfl)
      go_wp2_with fail
      go_ret
      exact ⟨retB HR.out.symm, by first | exact HB.out | (rw [hg]; exact HB.out)⟩
end Go.Proofs.YtfeflmpdbejhjaaDoor
