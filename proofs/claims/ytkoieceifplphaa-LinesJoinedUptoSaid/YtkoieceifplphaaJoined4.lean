/- The plain law and the walk of standishlaw4.LinesJoined: it answers true. -/
import Derived.Test.YtkoieceifplphaaKnown4
import Derived.Test.YtkoieceifplphaaJoin
namespace Go.Proofs.Ytkoieceifplphaa
open Go.RowKit
set_option linter.unusedVariables false

theorem blankN_take (p : Int → Bool) : ∀ (m : Nat) (l : List Int) (n : Nat), n ≤ l.length → (n = l.length ∨ p (nth l n) = false) → blankN p m (l.take n) = blankN p m l
  | 0, l, n, _, _ => rfl
  | m + 1, [], n, _, _ => by simp
  | m + 1, x :: l, 0, h, h2 => by
    rcases h2 with h2 | h2
    · simp at h2
    · have h3 : p x = false := h2
      simp [blankN, h3]
  | m + 1, x :: l, n + 1, h, h2 => by
    rw [List.take_succ_cons, blankN, blankN, blankN_take p m l n (by simpa using h) (by
      rcases h2 with h2 | h2
      · left; simpa using h2
      · right; exact h2)]
theorem joined_law {t : List Int} {k a : Nat} (h : startF t 0 k = some a) :
    startE t k = ((a : Int), 0) ∧ widthS t k = ((widS t a : Int), 0) ∧ a + widS t a ≤ t.length ∧ indentE t k = 0 ∧ indentE ((t.drop a).take (widS t a)) 0 = 0 ∧ indentS ((t.drop a).take (widS t a)) 0 = indentS t k ∧ (indentS t k).length ≤ 40 := by
  have ha := (startF_le t _ 0 a (Nat.zero_le _) h).2
  have hw := widS_le ha
  have h' : startF t 0 ((k : Int)).toNat = some a := by rw [Int.toNat_natCast]; exact h
  have e1 : spanS t k = _ := span_yes (by omega) h'
  have e2 : spanS ((t.drop a).take (widS t a)) 0 = _ := span_yes (a := 0) (by omega) rfl
  have hin : indN ((t.drop a).take (widS t a)) 0 = indN t a := by
    unfold indN
    rw [List.drop_zero]
    refine blankN_take isBl 40 _ _ (by rw [List.length_drop]; omega) ?_
    rw [List.length_drop, nth_drop]
    by_cases hlt : a + widS t a < t.length
    · right
      have := eolS_at (l := t.drop a) (by rw [List.length_drop]; unfold widS at hlt; omega)
      rw [nth_drop] at this
      have h10 : nth t (a + widS t a) = 10 := this
      rw [h10]
      rfl
    · left
      omega
  have hle : indN t a ≤ widS t a := by
    rw [← hin]
    have := (blankN_le isBl 40 (((t.drop a).take (widS t a)).drop 0)).2
    unfold indN
    rw [List.length_drop, List.length_take] at this
    omega
  refine ⟨startE_yes (by omega) h', widthS_yes (by omega) h', hw, ?_, ?_, ?_, ?_⟩
  · unfold indentE
    rw [e1]
    rfl
  · unfold indentE
    rw [e2]
    rfl
  · unfold indentS
    rw [e1, e2]
    simp only [if_true, Int.toNat_natCast]
    rw [hin, List.drop_zero, List.take_take, Nat.min_eq_left hle]
  · unfold indentS
    rw [e1]
    simp only [if_true]
    rw [List.length_take]
    have := (blankN_le isBl 40 (t.drop a)).1
    rw [Int.toNat_natCast]
    unfold indN
    omega

set_option maxRecDepth 100000 in
set_option maxHeartbeats 4000000 in
theorem joined4_any (A B : Option Addr) (na ca nb cb : Nat) (line : Int) (a b : List Int) (w : World) (hA : Runes w A na a) (hB : Runes w B nb b) (ha : na ≤ 1048576) (hb : nb ≤ 1048576) :
    Calls Try.prog 11 #[.slice A na ca, .slice B nb cb, .int .i64 line] w fun e w' => e = .returned (.bool true) ∧ Below w.heap.size w w' := by
  have HA := hide hA
  have HB := hide hB
  clear hA hB
  go_enter Try.func11, Try.ntmps11
  go_wp2_with fail
  refine (join_any A B na ca nb cb a b _ HA.out HB.out (by omega)).mono ?_
  rintro e w1 ⟨T, nt, ct, rfl, ho1, hb1⟩
  have hlt := ho1.len
  rw [List.length_append, HA.out.len, HB.out.len] at hlt
  have HT := hide ho1.runes
  have hct := ho1.cap
  have HB1 := hide hb1
  have HA1 := hide (HA.out.below hb1)
  have HBB1 := hide (HB.out.below hb1)
  have hca := cntL_le a
  have hcb := cntL_le b
  rw [HA.out.len] at hca
  rw [HB.out.len] at hcb
  clear ho1 hb1
  have C1 := hide (count_any T nt ct (a ++ b) w1 HT.out (by omega))
  have C2 := hide (count_any A na ca a w1 HA1.out (by omega))
  have C3 := hide (count_any B nb cb b w1 HBB1.out (by omega))
  have hcc : (cntL (a ++ b) : Int) = (cntL a : Int) + (cntL b : Int) := by rw [cntL_app]; simp
  have hix : idxN line (cntL (a ++ b) + 1) ≤ cntL (a ++ b) := by have := idxN_lt (k := line) (n := cntL (a ++ b) + 1) (by omega); omega
  obtain ⟨f, hf, _⟩ := start_ok (a ++ b) _ hix
  have HF := hide hf
  have hct2 := cntL_le (a ++ b)
  rw [HT.out.len] at hct2
  have IX := hide (index_any line ((cntL (a ++ b) : Int) + 1) w1 (by omega) (by omega))
  rw [show (((cntL (a ++ b) : Int) + 1)).toNat = cntL (a ++ b) + 1 by omega] at IX
  rw [hcc] at C1 IX
  generalize idxN line (cntL (a ++ b) + 1) = ix at IX HF hix
  generalize cntL (a ++ b) = ct3 at hix hct2 hcc
  generalize cntL a = x1 at C1 C2 IX hca hcc
  generalize cntL b = x2 at C1 C3 IX hcb hcc
  have HTL := HT.out.len
  generalize a ++ b = t at HT C1 HF HTL
  obtain ⟨h1, h2, h3, h4, h5, h6, h7⟩ := joined_law HF.out
  rw [HTL] at h3
  have T1 := hide (start_any T nt ct (ix : Int) t w1 HT.out (by omega) hct.1 hct.2 (by omega))
  have W1 := hide (width_any T nt ct (ix : Int) t w1 HT.out (by omega) hct.1 hct.2 (by omega))
  have I1 := hide (indent_any T nt ct (ix : Int) t w1 HT.out (by omega) hct.1 hct.2 (by omega))
  rw [h1] at T1
  rw [h2] at W1
  rw [h4] at I1
  generalize hwd : widS t f = wd at h3 W1 h5 h6
  have HMID := hide (HT.out.mid (a := f) (m := wd) (c := ct) (by omega) hct.1)
  have I2 := hide (fun W (hb : Below w1.heap.size w1 W) => indent_any (sub T ct f) wd (ct - f) 0 ((t.drop f).take wd) W (HMID.out.below hb) (by omega) (by omega) (by omega) (by omega))
  rw [h5, h6] at I2
  generalize indentS t ix = il at I1 I2 h7
  have HRUN := hide (fun W => run_sub_lh T nt ct f wd (by omega) W)
  clear h1 h2 h4 h5 h6 hwd hlt HTL hcc
  go_wp2_with fail
  refine C1.out.mono ?_
  rintro e w' ⟨rfl, rfl⟩
  go_wp2_with fail
  refine C2.out.mono ?_
  rintro e w' ⟨rfl, rfl⟩
  go_wp2_with fail
  refine C3.out.mono ?_
  rintro e w' ⟨rfl, rfl⟩
  have hsum : ((x1 : Int) + (x2 : Int) + 1 != (x1 : Int) + 1 + ((x2 : Int) + 1) - 1) = false := by simp; omega
  have hsum2 : ((x1 : Int) + 1 + ((x2 : Int) + 1) - 1) = (x1 : Int) + (x2 : Int) + 1 := by omega
  go_wp2_with fail
  refine C1.out.mono ?_
  rintro e w' ⟨rfl, rfl⟩
  clear hsum hsum2
  go_wp2_with fail
  refine IX.out.mono ?_
  rintro e w' ⟨rfl, rfl⟩
  go_wp2_with fail
  refine T1.out.mono ?_
  rintro e w' ⟨rfl, rfl⟩
  go_wp2_with fail
  refine W1.out.mono ?_
  rintro e w' ⟨rfl, rfl⟩
  go_wp2_with fail
  refine I1.out.mono ?_
  rintro e w2 ⟨A1, n1, d1, rfl, ho1, hb1⟩
  have hn1 : n1 ≤ 40 := by rw [← ho1.len]; exact h7
  have HO1 := hide ho1.runes
  have HB2 := hide hb1
  clear ho1 hb1
  have hrun := HRUN.out w2
  go_wp2_with fail
  refine (I2.out _ HB2.out).mono ?_
  rintro e w3 ⟨A2, n2, d2, rfl, ho2, hb2⟩
  obtain rfl : n2 = n1 := by rw [← ho2.len, HO1.out.len]
  have HO2 := hide ho2.runes
  have HO12 := hide (HO1.out.below hb2)
  have HB3 := hide (HB2.out.trans (hb2.mono HB2.out.size))
  clear ho2 hb2
  go_wp2_with fail
  refine (refSame_any A1 A2 n2 d1 n2 d2 il il _ HO12.out HO2.out (by omega) (by omega)).mono ?_
  rintro e w4 ⟨rfl, q, rfl⟩
  rw [show sameS il il = true by simp [sameS]]
  have HB4 := hide (belowD HB3.out q)
  have hn1' : (n2 : Int) ≤ 40 := by omega
  go_wp2_with fail
  refine (known4_any _).mono ?_
  rintro e w5 ⟨rfl, hb5⟩
  have HB5 := hide (HB4.out.trans (hb5.mono HB4.out.size))
  clear hb5
  go_wp2_with fail
  go_ret
  exact ⟨rfl, HB1.out.trans (HB5.out.mono HB1.out.size)⟩
end Go.Proofs.Ytkoieceifplphaa
