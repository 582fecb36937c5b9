/- RegsBounds, walked: texts around the greatest length, an arbitrary element. -/
import Derived.Test.YthmchmpicncgdaaKnown26
import Derived.Test.YthmchmpicncgdaaMake
namespace Go.Proofs.Ythmchmpicncgdaa
open Go.RowKit Go.Maps Go.MapKept Go.ChangeMaps Go.Shelf
set_option linter.unusedVariables false

theorem mayS_zeros (n : Nat) : mayS (List.replicate n 0) = true := by
  unfold mayS
  rw [List.all_eq_true]
  intro x hx
  obtain ⟨_, rfl⟩ := List.mem_replicate.1 hx
  rfl
section
variable {M : Int → Option Rg} {r : Int} {t y : List Int} {q p : Bool}
theorem setX_small (hc : capN r = false) : setX M r (t, q) = (t, q) := by unfold setX; rw [if_neg (by simp [hc])]
theorem setX_more (hc : capN r = true) (hM : M (ownN r) = some (y, p)) : setX M r (t, q) = (joinT y p t q, p || q) := by unfold setX; rw [if_pos hc, hM]
theorem setE_ok (ho : okN r) (hm : mayS t = true) (hl : t.length ≤ 1000) (hx : (setX M r (t, q)).1.length ≤ 1000) : setE M r (t, q) = 0 := by
  unfold setE
  rw [if_neg (by simpa using ho), if_neg (by simp [hm]), if_neg (by dsimp only; omega), if_neg (by omega)]
theorem setE_full (ho : okN r) (hm : mayS t = true) (hl : 1000 < t.length ∨ 1000 < (setX M r (t, q)).1.length) : setE M r (t, q) = 3 := by
  unfold setE
  rw [if_neg (by simpa using ho), if_neg (by simp [hm])]
  by_cases h : 1000 < t.length
  · rw [if_pos h]
  · rw [if_neg h, if_pos (by omega)]
theorem setE_form (ho : okN r) (hm : mayS t = false) : setE M r (t, q) = 1 := by
  unfold setE
  rw [if_neg (by simpa using ho), if_pos hm]
theorem setM_ok (h : setE M r (t, q) = 0) : setM M r (t, q) = updR (updR M (ownN r) (setX M r (t, q))) 0 (setX M r (t, q)) := by unfold setM; rw [if_pos h]
theorem setM_no (h : setE M r (t, q) ≠ 0) : setM M r (t, q) = M := by unfold setM; rw [if_neg h]
/-- What Set lays under another name is not seen at s. -/
theorem setM_at {s : Int} (h0 : s ≠ 0) (h1 : s ≠ ownN r) : setM M r (t, q) s = M s := by
  unfold setM
  split
  · unfold updR
    rw [if_neg h0, if_neg h1]
  · rfl
theorem setM_own (h : setE M r (t, q) = 0) (h0 : ownN r ≠ 0) : setM M r (t, q) (ownN r) = some (setX M r (t, q)) := by
  rw [setM_ok h]
  unfold updR
  rw [if_neg h0, if_pos rfl]
end

set_option maxRecDepth 100000 in
set_option maxHeartbeats 4000000 in
theorem bounds26 (a r : Int) (w : World) (hr : -2147483648 ≤ r ∧ r ≤ 2147483647) : Calls Try.prog 5 #[.int .i64 a, .int .i32 r] w fun e w' => e = .returned (.bool true) ∧ Below w.heap.size w w' := by
  have hK : idxN a 1001 ≤ 1000 := by have := idxN_lt (k := a) (n := 1001) (by omega); omega
  have HI := hide (index_any a 1001 w (by omega) (by omega))
  rw [show (1001 : Int).toNat = 1001 from rfl] at HI
  generalize idxN a 1001 = K at HI hK
  obtain ⟨m, hm⟩ : ∃ m, m = 1000 - K := ⟨_, rfl⟩
  have HM := hide hm
  have HK := hide hK
  have e1 : IntKind.i64.wrap (1000 - (K : Int)) = (m : Int) := by rw [IntWalk.i64_in _ (by omega)]; omega
  have e2 : IntKind.i64.wrap ((K : Int) + 1) = ((K + 1 : Nat) : Int) := by rw [IntWalk.i64_in _ (by omega)]; omega
  obtain ⟨K1, hK1⟩ : ∃ K1, K1 = K + 1 := ⟨_, rfl⟩
  rw [← hK1] at e2
  have HK1 := hide hK1
  obtain ⟨Z0, hZ0⟩ : ∃ Z : Array Value, Z = (cells32 (List.replicate m 0)).toArray := ⟨_, rfl⟩
  obtain ⟨Z1, hZ1⟩ : ∃ Z : Array Value, Z = (cells32 (List.replicate K1 0)).toArray := ⟨_, rfl⟩
  obtain ⟨Z2, hZ2⟩ : ∃ Z : Array Value, Z = (cells32 (List.replicate 1001 0)).toArray := ⟨_, rfl⟩
  obtain ⟨Z3, hZ3⟩ : ∃ Z : Array Value, Z = (cells32 (List.replicate K 0)).toArray := ⟨_, rfl⟩
  have m0 : ∀ W, (Instr.makeSlice 27 (.int .i64 (m : Int)) (.int .i64 (m : Int))).run Try.prog W = .ok (.slice (some ⟨W.heap.size, 0, none⟩) m m) (W.alloc (.cells Z0 21)) := fun W => by rw [hZ0]; exact run_make32 m (by omega) W
  have m1 : ∀ W, (Instr.makeSlice 27 (.int .i64 (K1 : Int)) (.int .i64 (K1 : Int))).run Try.prog W = .ok (.slice (some ⟨W.heap.size, 0, none⟩) K1 K1) (W.alloc (.cells Z1 21)) := fun W => by rw [hZ1]; exact run_make32 K1 (by omega) W
  have m2 : ∀ W, (Instr.makeSlice 27 (.int .i64 1001) (.int .i64 1001)).run Try.prog W = .ok (.slice (some ⟨W.heap.size, 0, none⟩) 1001 1001) (W.alloc (.cells Z2 21)) := fun W => by rw [hZ2]; exact run_make32 1001 (by omega) W
  have m3 : ∀ W, (Instr.makeSlice 27 (.int .i64 (K : Int)) (.int .i64 (K : Int))).run Try.prog W = .ok (.slice (some ⟨W.heap.size, 0, none⟩) K K) (W.alloc (.cells Z3 21)) := fun W => by rw [hZ3]; exact run_make32 K (by omega) W
  have R0 := hide (fun W => made_runes m W)
  have R1 := hide (fun W => made_runes K1 W)
  have R2 := hide (fun W => made_runes 1001 W)
  have R3 := hide (fun W => made_runes K W)
  rw [← hZ0] at R0
  rw [← hZ1] at R1
  rw [← hZ2] at R2
  rw [← hZ3] at R3
  -- what each Set answers
  have E1 : setE kM0 113 (List.replicate m 0, false) = 0 := setE_ok (by decide) (mayS_zeros m) (by simp; omega) (by rw [setX_small (by decide)]; simp; omega)
  obtain ⟨M1, hM1⟩ : ∃ M, M = setM kM0 113 (List.replicate m 0, false) := ⟨_, rfl⟩
  have Q1 : M1 113 = some (List.replicate m 0, false) := by
    rw [hM1]
    have := setM_own E1 (by decide)
    rwa [setX_small (by decide), show ownN 113 = 113 by decide] at this
  have B1 : M1 98 = none := by rw [hM1, setM_at (by decide) (by decide)]; rfl
  have C1 : M1 99 = none := by rw [hM1, setM_at (by decide) (by decide)]; rfl
  have E2 : setE M1 81 (List.replicate K1 0, false) = 3 := setE_full (by decide) (mayS_zeros _) (.inr (by rw [setX_more (by decide) (show M1 (ownN 81) = _ from Q1)]; simp [joinT]; omega))
  have E3 : setE M1 98 (List.replicate 1001 0, false) = 3 := setE_full (by decide) (mayS_zeros _) (.inl (by simp))
  have E4 : setE M1 99 ([r], false) = if isS r then 0 else 1 := by
    have hms : mayS [r] = isS r := by simp [mayS]
    cases hs : isS r
    · exact setE_form (by decide) (by rw [hms, hs])
    · exact setE_ok (by decide) (by rw [hms, hs]) (by simp) (by rw [setX_small (by decide)]; simp)
  have N2 : setM M1 81 (List.replicate K1 0, false) = M1 := setM_no (by rw [E2]; omega)
  have N3 : setM M1 98 (List.replicate 1001 0, false) = M1 := setM_no (by rw [E3]; omega)
  obtain ⟨M2, hM2⟩ : ∃ M, M = setM M1 99 ([r], false) := ⟨_, rfl⟩
  have Q2 : M2 113 = some (List.replicate m 0, false) := by rw [hM2, setM_at (by decide) (by decide)]; exact Q1
  have B2 : M2 98 = none := by rw [hM2, setM_at (by decide) (by decide)]; exact B1
  have E5 : setE M2 81 (List.replicate K 0, false) = 0 := setE_ok (by decide) (mayS_zeros _) (by simp; omega) (by rw [setX_more (by decide) (show M2 (ownN 81) = _ from Q2)]; simp [joinT]; omega)
  have X1 : getX M2 113 = (List.replicate m 0, false) := by unfold getX; rw [if_pos (by decide), show ownN 113 = 113 by decide, Q2]; rfl
  have X2 : getB M2 113 = true := by unfold getB; rw [if_pos (by decide), show ownN 113 = 113 by decide, Q2]; rfl
  have X3 : getX M2 98 = ([], false) := by unfold getX; rw [if_pos (by decide), show ownN 98 = 98 by decide, B2]; rfl
  have X4 : getB M2 98 = false := by unfold getB; rw [if_pos (by decide), show ownN 98 = 98 by decide, B2]; rfl
  have HE1 := hide (And.intro E1 hM1)
  have HE2 := hide (And.intro E2 N2)
  have HE3 := hide (And.intro E3 N3)
  have HE4 := hide (And.intro E4 hM2)
  have HE5 := hide E5
  have HX := hide (And.intro X1 (And.intro X2 (And.intro X3 X4)))
  have HR := hide hr
  clear hm hK hK1 hZ0 hZ1 hZ2 hZ3 E1 hM1 E2 N2 E3 N3 E4 hM2 E5 X1 X2 X3 X4 Q1 B1 C1 Q2 B2 hr
  go_enter Try.func5, Try.ntmps5
  go_wp2_with fail
  refine HI.out.mono ?_
  rintro e w0 ⟨rfl, rfl⟩
  go_wp2_with fail
  refine (rnew_any _).mono ?_
  rintro e w1 ⟨p, b, rfl, hm, hp, hb, hbe⟩
  have HS1 := hide (show St w w1 p b 0 kM0 from ⟨hm, hp, hb, hbe⟩)
  clear hm hp hb hbe HI
  go_wp2_with fail
  have HC1 := hide ((HS1.out.on ((Below.refl w1.heap.size w1).alloc (Nat.le_refl _) (.cells Z0 21))).set 113 (q := false) (c := m) (R0.out w1) (by have := HM.out; omega) (by omega))
  rw [HE1.out.1, ← HE1.out.2] at HC1
  refine HC1.out.mono ?_
  rintro e w2 ⟨rfl, -, n2, hn2, hs2⟩
  have HS2 := hide hs2
  clear hs2 HC1 HS1
  go_wp2_with fail
  have HC2 := hide ((HS2.out.on ((Below.refl w2.heap.size w2).alloc (Nat.le_refl _) (.cells Z1 21))).set 81 (q := false) (c := K1) (R1.out w2) (by have := HK1.out; have := HK.out; omega) (by omega))
  rw [HE2.out.1, HE2.out.2] at HC2
  refine HC2.out.mono ?_
  rintro e w3 ⟨rfl, -, n3, hn3, hs3⟩
  have HS3 := hide hs3
  clear hs3 HC2 HS2
  go_wp2_with fail
  have HC3 := hide ((HS3.out.on ((Below.refl w3.heap.size w3).alloc (Nat.le_refl _) (.cells Z2 21))).set 98 (q := false) (c := 1001) (R2.out w3) (by omega) (by omega))
  rw [HE3.out.1, HE3.out.2] at HC3
  refine HC3.out.mono ?_
  rintro e w4 ⟨rfl, -, n4, hn4, hs4⟩
  have HS4 := hide hs4
  clear hs4 HC3 HS3
  go_wp2_with fail
  have HC4 := hide ((HS4.out.on ((Below.refl w4.heap.size w4).alloc (Nat.le_refl _) (.cells #[.int .i32 r] 21))).set 99 (q := false) (c := 1) (Runes.news w4 #[.int .i32 r] 21 [r] rfl (W32.one HR.out)) (by simp) (by omega))
  rw [HE4.out.1, ← HE4.out.2] at HC4
  have HSG := hide (fun W => sign_any r W)
  cases hs : isS r
  all_goals
    rw [hs] at HC4 HSG
    simp only [if_true, if_false, Bool.false_eq_true] at HC4
    refine HC4.out.mono ?_
    rintro e w5 ⟨rfl, -, n5, hn5, hs5⟩
    have HS5 := hide hs5
    clear hs5 HC4 HS4 hs
    go_wp2_with fail
    refine (HSG.out _).mono ?_
    rintro e w6 ⟨rfl, rfl⟩
    go_wp2_with fail
    refine (HS5.out.get 113 HX.out.1 HX.out.2.1).mono ?_
    rintro e w7 ⟨A7, k7, c7, rfl, ho7, hs7, hb7⟩
    have hk7 : k7 = m := by rw [← ho7.len]; simp
    subst hk7
    have hb8 := (Below.refl w7.heap.size w7).alloc (Nat.le_refl _) (.cells #[.slice A7 k7 c7, .bool false] 29)
    have HS8 := hide (hs7.on hb8)
    have HX8 := hide (Box.new w7 29 #[.slice A7 k7 c7, .bool false])
    clear ho7 hs7 hb7 hb8 HS5
    go_wp2_with fail
    generalize w7.alloc (.cells #[.slice A7 k7 c7, .bool false] 29) = w8 at HS8 HX8 ⊢
    generalize w7.heap.size = g7 at HX8 ⊢
    refine (HS8.out.get 98 HX.out.2.2.1 HX.out.2.2.2).mono ?_
    rintro e w9 ⟨A9, k9, c9, rfl, ho9, hs9, hb9⟩
    have hb10 := (Below.refl w9.heap.size w9).alloc (Nat.le_refl _) (.cells #[.slice A9 k9 c9, .bool false] 29)
    have HS10 := hide (hs9.on hb10)
    have HX10 := hide ((HX8.out.below hb9).below hb10)
    clear ho9 hs9 hb9 hb10 HS8 HX8
    obtain ⟨⟨x0, x1⟩, -⟩ := HX10.out.c2
    go_wp2_with fail
    have hz10 : (w9.alloc (.cells #[.slice A9 k9 c9, .bool false] 29)).heap.size = w9.heap.size + 1 := by simp
    generalize w9.alloc (.cells #[.slice A9 k9 c9, .bool false] 29) = w10 at HS10 HX10 hz10 x0 x1 ⊢
    have hr3 := R3.out w10
    rw [hz10] at hr3
    have HC5 := hide ((HS10.out.on ((Below.refl w10.heap.size w10).alloc (Nat.le_refl _) (.cells Z3 21))).set 81 (q := false) (c := K) hr3 (by have := HK.out; omega) (by omega))
    rw [HE5.out] at HC5
    refine HC5.out.mono ?_
    rintro e w11 ⟨rfl, -, n11, hn11, hs11⟩
    have HS11 := hide hs11
    clear hs11 HC5 HS10 hr3 x0 x1 hz10
    go_wp2_with fail
    refine (known_any w11).mono ?_
    rintro e w12 ⟨rfl, hb12⟩
    have HB := hide (HS11.out.on hb12).below
    clear hb12 HS11
    go_wp2_with fail
    go_ret
    exact ⟨rfl, HB.out⟩
end Go.Proofs.Ythmchmpicncgdaa
