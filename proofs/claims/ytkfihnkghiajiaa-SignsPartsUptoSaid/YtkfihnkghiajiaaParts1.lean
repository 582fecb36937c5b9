/- The walk of standishlaw1.SignsParts: it answers true. -/
import Derived.Test.YtkfihnkghiajiaaKnown1
namespace Go.Proofs.Ytkfihnkghiajiaa
open Go.RowKit
set_option linter.unusedVariables false

set_option maxRecDepth 100000 in
set_option maxHeartbeats 4000000 in
theorem parts1_any (A B : Option Addr) (na ca nb cb : Nat) (a b : List Int) (w : World) (hA : Runes w A na a) (hB : Runes w B nb b)
    (ha : na ≤ 17592186044000) (hb : nb ≤ 17592186044000) :
    Calls Try.prog 8 #[.slice A na ca, .slice B nb cb] w fun e w' => e = .returned (.bool true) ∧ Below w.heap.size w w' := by
  have HA := hide hA
  have HB := hide hB
  have HLA := hide hA.len
  have HLB := hide hB.len
  clear hA hB
  go_enter Try.func8, Try.ntmps8
  go_wp2_with (first
    | (at_builtin
       refine wpList_app0 rfl (.const (.slice none 0 0)) (.tmp 10) rfl w.heap.size rfl rfl HA.out (by omega) (Nat.le_refl _) ?_
       intro A1 c1 w1 ho1 hb1 _ _
       have HO1 := hide ho1
       have HB1 := hide hb1
       clear ho1 hb1)
    | (at_builtin
       refine wpList_app rfl (.tmp 11) (.tmp 12) rfl w.heap.size rfl HO1.out rfl (HB.out.below HB1.out) (by omega) HB1.out.size ?_
       intro T c2 w2 ho2 hg2 hb2 _ _
       have HT := hide ho2.runes
       have HB2 := hide (HB1.out.trans hb2)
       clear ho2 hg2 hb2))
  generalize hW : World.alloc _ _ = w3
  have hbx : Box w3 w2.heap.size 3 #[.int .i64 0, .int .i64 1, .int .i64 2] := by
    subst hW
    exact Box.new w2 _ _
  have hb23 : Below w2.heap.size w2 w3 := by
    subst hW
    exact (Below.refl _ _).alloc (Nat.le_refl _) _
  clear hW
  have HBX := hide hbx
  have HT3 := hide (HT.out.below hb23)
  have HB3 := hide (HB2.out.trans (hb23.mono HB2.out.size))
  have HA3 := hide (HA.out.below HB3.out)
  have HBB3 := hide (HB.out.below HB3.out)
  clear hbx hb23
  go_loopw [16] (fun i wx => ∃ k : Nat, k ≤ 3 ∧ i = .int .i64 k ∧ Below w3.heap.size w3 wx) (fun i _ => 3 - (intOf i).toNat)
  case atStart => exact ⟨0, by omega, rfl, Below.refl _ _⟩
  case round =>
    obtain ⟨k, hk, rfl, hbel⟩ := hrel
    have HC := hide hbel
    clear hbel
    by_cases hk3 : k < 3
    · have h0 : (0 : Int) ≤ (k : Int) := by omega
      have h1' : (k : Int) < 3 := by omega
      obtain ⟨h, hcl, hh⟩ : ∃ h : Int, wr.cell? ⟨w2.heap.size, k, none⟩ = some (.int .i64 h) ∧ (h = 0 ∨ h = 1 ∨ h = 2) := by
        have h3 := (HBX.out.below HC.out).c3
        match k, hk3 with
        | 0, _ => exact ⟨_, h3.1.1, .inl rfl⟩
        | 1, _ => exact ⟨_, h3.1.2.1, .inr (.inl rfl)⟩
        | 2, _ => exact ⟨_, h3.1.2.2, .inr (.inr rfl)⟩
      have HAP := hide (caseS_app a b hh)
      have hla := caseS_len a h
      have hlb := caseS_len b h
      have hlt := caseS_len (a ++ b) h
      rw [HLA.out] at hla
      rw [HLB.out] at hlb
      rw [List.length_append, HLA.out, HLB.out] at hlt
      clear hh
      go_wp2_with fail
      refine (case_any A na ca h a _ (HA3.out.below HC.out) (by omega)).mono ?_
      rintro e w4 ⟨A4, n4, c4, rfl, ho4, hb4⟩
      rw [ho4.len] at hla
      have HO4 := hide ho4.runes
      have HC4 := hide (HC.out.trans (hb4.mono HC.out.size))
      clear ho4 hb4
      go_wp2_with (at_builtin
                   refine wpList_app0 rfl (.const (.slice none 0 0)) (.tmp 22) rfl w3.heap.size rfl rfl HO4.out (by omega) HC4.out.size ?_
                   intro A5 c5 w5 ho5 hb5 _ _)
      have HO5 := hide ho5
      have HC5 := hide (HC4.out.trans (hb5.mono HC4.out.size))
      clear ho5 hb5
      refine (case_any B nb cb h b _ (HBB3.out.below HC5.out) (by omega)).mono ?_
      rintro e w6 ⟨A6, n6, c6, rfl, ho6, hb6⟩
      rw [ho6.len] at hlb
      have HO6 := hide ho6.runes
      have HO56 := hide (HO5.out.below hb6)
      have HC6 := hide (HC5.out.trans (hb6.mono HC5.out.size))
      clear ho6 hb6
      go_wp2_with (at_builtin
                   refine wpList_app rfl (.tmp 23) (.tmp 26) rfl w3.heap.size rfl HO56.out rfl HO6.out (by omega) HC6.out.size ?_
                   intro A7 c7 w7 ho7 hg7 hb7 _ _)
      have HO7 := hide ho7.runes
      have HC7 := hide (HC6.out.trans hb7)
      clear ho7 hg7 hb7
      refine (case_any T (na + nb) c2 h (a ++ b) _ (HT3.out.below HC7.out) (by omega)).mono ?_
      rw [HAP.out] at hlt ⊢
      rintro e w8 ⟨A8, n8, c8, rfl, ho8, hb8⟩
      rw [ho8.len] at hlt
      obtain rfl : n8 = n4 + n6 := by rw [← ho8.len, List.length_append, HO4.out.len, HO6.out.len]
      have HO8 := hide ho8.runes
      have HO78 := hide (HO7.out.below hb8)
      have HC8 := hide (HC7.out.trans (hb8.mono HC7.out.size))
      clear ho8 hb8
      go_wp2_with fail
      refine (same_any _ _ (n4 + n6) c8 (n4 + n6) c7 (caseS a h ++ caseS b h) (caseS a h ++ caseS b h) _ HO8.out HO78.out (by omega) (by omega)).mono ?_
      rintro e w9 ⟨rfl, q9, rfl⟩
      rw [show sameS (caseS a h ++ caseS b h) (caseS a h ++ caseS b h) = true by simp [sameS]]
      have HC9 := hide (belowN HC8.out q9)
      go_wp2_with fail
      go_roundw
      case rel => exact ⟨k + 1, by omega, by go_num, HC9.out⟩
      case measure => simp [intOf]; omega
    · by_cases h0 : 0 < na
      · have HAP := hide (caseS_cap a b (by rw [HLA.out]; exact h0))
        have hla := caseS_len a 3
        have hlt := caseS_len (a ++ b) 3
        rw [HLA.out] at hla
        rw [List.length_append, HLA.out, HLB.out] at hlt
        go_wp2_with fail
        refine (case_any A na ca 3 a _ (HA3.out.below HC.out) (by omega)).mono ?_
        rintro e w4 ⟨A4, n4, c4, rfl, ho4, hb4⟩
        rw [ho4.len] at hla
        have HO4 := hide ho4.runes
        have HC4 := hide (HC.out.trans (hb4.mono HC.out.size))
        clear ho4 hb4
        go_wp2_with (first
          | (at_builtin
             refine wpList_app0 rfl (.const (.slice none 0 0)) (.tmp 39) rfl w3.heap.size rfl rfl HO4.out (by omega) HC4.out.size ?_
             intro A5 c5 w5 ho5 hb5 _ _
             have HO5 := hide ho5
             have HC5 := hide (HC4.out.trans (hb5.mono HC4.out.size))
             clear ho5 hb5)
          | (at_builtin
             refine wpList_app rfl (.tmp 40) (.tmp 41) rfl w3.heap.size rfl HO5.out rfl (HBB3.out.below HC5.out) (by omega) HC5.out.size ?_
             intro A7 c7 w7 ho7 hg7 hb7 _ _
             have HO7 := hide ho7.runes
             have HC7 := hide (HC5.out.trans hb7)
             clear ho7 hg7 hb7))
        refine (case_any T (na + nb) c2 3 (a ++ b) _ (HT3.out.below HC7.out) (by omega)).mono ?_
        rw [HAP.out] at hlt ⊢
        rintro e w8 ⟨A8, n8, c8, rfl, ho8, hb8⟩
        rw [ho8.len] at hlt
        obtain rfl : n8 = n4 + nb := by rw [← ho8.len, List.length_append, HO4.out.len, HLB.out]
        have HO8 := hide ho8.runes
        have HO78 := hide (HO7.out.below hb8)
        have HC8 := hide (HC7.out.trans (hb8.mono HC7.out.size))
        clear ho8 hb8
        go_wp2_with fail
        refine (same_any _ _ (n4 + nb) c8 (n4 + nb) c7 (caseS a 3 ++ b) (caseS a 3 ++ b) _ HO8.out HO78.out (by omega) (by omega)).mono ?_
        rintro e w9 ⟨rfl, q9, rfl⟩
        rw [show sameS (caseS a 3 ++ b) (caseS a 3 ++ b) = true by simp [sameS]]
        have HC9 := hide (belowN HC8.out q9)
        go_wp2_with fail
        refine (known1_any _).mono ?_
        rintro e w10 ⟨rfl, hb10⟩
        have HC10 := hide (HC9.out.trans (hb10.mono HC9.out.size))
        clear hb10
        go_wp2_with fail
        go_ret
        exact ⟨rfl, HB3.out.trans (HC10.out.mono HB3.out.size)⟩
      · go_wp2_with fail
        refine (known1_any _).mono ?_
        rintro e w10 ⟨rfl, hb10⟩
        have HC10 := hide (HC.out.trans (hb10.mono HC.out.size))
        clear hb10
        go_wp2_with fail
        go_ret
        exact ⟨rfl, HB3.out.trans (HC10.out.mono HB3.out.size)⟩
end Go.Proofs.Ytkfihnkghiajiaa
