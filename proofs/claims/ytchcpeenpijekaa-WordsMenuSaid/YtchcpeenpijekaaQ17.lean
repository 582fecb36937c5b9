/- Pieces, joined: SrtJ. -/
import Derived.Test.YtchcpeenpijekaaQ13
import Derived.Test.YtchcpeenpijekaaQ15
import Derived.Test.YtchcpeenpijekaaQ16

/- Go's sort of runes, walked: pdqsortOrdered; slices.Sort sorts. -/
namespace Go.Proofs.Ytchcpeenpijekaa
open Go.RowKit
set_option linter.unusedVariables false

theorem Asc.join {d : List Int} {a m b : Nat} (h1 : Asc d a m) (h2 : Asc d (m + 1) b) (hl : ∀ i, a ≤ i → i < m → nth d i ≤ nth d m) (hh : ∀ i, m < i → i < b → nth d m ≤ nth d i) : Asc d a b := fun i j hi hij hj => by
  by_cases e : j < m
  · exact h1 i j hi hij e
  · by_cases e2 : i < m
    · by_cases e3 : j = m
      · rw [e3]; exact hl i hi e2
      · exact Int.le_trans (hl i hi e2) (hh j (by omega) hj)
    · by_cases e3 : i = m
      · rw [e3]; exact hh j (by omega) hj
      · exact h2 i j (by omega) hij hj
theorem Parted.pm_left {l l' : List Int} {a b m : Nat} (h : Parted l a b m) (k : Pm a m l l') : Parted l' a b m :=
  ⟨h.ge, h.lt, fun p h1 h2 => by rw [k.out m (.inr (Nat.le_refl _))]; exact k.all (p := fun x => x ≤ nth l m) h.low p h1 h2,
    fun p h1 h2 => by rw [k.out m (.inr (Nat.le_refl _)), k.out p (.inr (by omega))]; exact h.high p h1 h2⟩
theorem Parted.pm_right {l l' : List Int} {a b m : Nat} (h : Parted l a b m) (k : Pm (m + 1) b l l') : Parted l' a b m :=
  ⟨h.ge, h.lt, fun p h1 h2 => by rw [k.out m (.inl (by omega)), k.out p (.inl (by omega))]; exact h.low p h1 h2,
    fun p h1 h2 => by rw [k.out m (.inl (by omega))]; exact k.all (p := fun x => nth l m ≤ x) (fun i h3 h4 => h.high i (by omega) h4) p h1 h2⟩
theorem Lo.left {l : List Int} {a b m : Nat} (h : Lo l a b) (hm : m ≤ b) : Lo l a m := by
  rcases h with h | h
  · exact .inl h
  · exact .inr fun i h1 h2 => h i h1 (by omega)
theorem Parted.lo {l : List Int} {a b m : Nat} (h : Parted l a b m) : Lo l (m + 1) b := .inr fun i h1 h2 => by
  rw [show m + 1 - 1 = m by omega]; exact h.high i (by omega) h2
/-- Once the part from a1 on ahead of b1 ascends, all does. -/
def Closes (l : List Int) (a b a1 b1 : Nat) : Prop := ∀ d, Pm a1 b1 l d → Asc d a1 b1 → Asc d a b
theorem Closes.pm {l l' : List Int} {a b a1 b1 : Nat} (h : Closes l a b a1 b1) (k : Pm a1 b1 l l') : Closes l' a b a1 b1 := fun d hd ha => h d (k.trans hd) ha
theorem closes_left {l5 l6 : List Int} {a b a1 b1 m : Nat} (h : Closes l5 a b a1 b1) (hp : Parted l5 a1 b1 m) (k : Pm a1 m l5 l6) (ha : Asc l6 a1 m) : Closes l6 a b (m + 1) b1 := fun d hd had => by
  have h1 := hp.ge
  have h2 := hp.lt
  have hq := (hp.pm_left k).pm_right hd
  exact h d ((k.wider (Nat.le_refl _) (by omega)).trans (hd.wider (by omega) (Nat.le_refl _))) (Asc.join (ha.same fun i h3 h4 => hd.out i (.inl (by omega))) had hq.low hq.high)
theorem closes_right {l5 l6 : List Int} {a b a1 b1 m : Nat} (h : Closes l5 a b a1 b1) (hp : Parted l5 a1 b1 m) (k : Pm (m + 1) b1 l5 l6) (ha : Asc l6 (m + 1) b1) : Closes l6 a b a1 m := fun d hd had => by
  have h1 := hp.ge
  have h2 := hp.lt
  have hq := (hp.pm_right k).pm_left hd
  exact h d ((k.wider (by omega) (Nat.le_refl _)).trans (hd.wider (Nat.le_refl _) (by omega))) (Asc.join had (ha.same fun i h3 h4 => hd.out i (.inr (by omega))) hq.low hq.high)
theorem closes_equal {l5 : List Int} {a b a1 b1 m : Nat} {x : Int} (h : Closes l5 a b a1 b1) (h0 : a1 < m) (hm : m ≤ b1) (hlow : ∀ p, a1 ≤ p → p < m → nth l5 p ≤ x) (hhigh : ∀ p, m ≤ p → p < b1 → x ≤ nth l5 p) (hlo : ∀ p, a1 ≤ p → p < b1 → x ≤ nth l5 p) :
    Closes l5 a b m b1 ∧ Lo l5 m b1 := by
  refine ⟨fun d hd had => h d (hd.wider (by omega) (Nat.le_refl _)) fun i j h1 h2 h3 => ?_, .inr fun i h1 h2 => Int.le_trans (hlow (m - 1) (by omega) (by omega)) (hhigh i h1 h2)⟩
  by_cases e : j < m
  · rw [hd.out i (.inl (by omega)), hd.out j (.inl e)]
    exact Int.le_trans (hlow i h1 (by omega)) (hlo j (by omega) h3)
  · by_cases e2 : i < m
    · rw [hd.out i (.inl e2)]
      exact Int.le_trans (hlow i h1 e2) (hd.all (p := fun y => x ≤ y) hhigh j (by omega) h3)
    · exact had i j (by omega) h2 h3
theorem grown_below {w w' : World} (h : Below w.heap.size w w') (row : Option Nat) : w.grownBy w' row :=
  ⟨h.os, h.tape, h.output, h.size, fun k hk _ => h.block k hk⟩

set_option maxRecDepth 100000 in
set_option maxHeartbeats 4000000 in
theorem pdq_N (g B n c : Nat) (hn : n ≤ 1000000) (N : Nat) : ∀ (a b : Nat) (l : List Int) (k : Int) (w : World), b - a < N → Own w B (some ⟨g, 0, none⟩) n c l → a ≤ b → b ≤ n → Lo l a b →
    Calls Try.prog 85 #[.slice (some ⟨g, 0, none⟩) n c, .int .i64 (a : Int), .int .i64 (b : Int), .int .i64 k] w fun e w' => e = .returned (.tuple #[]) ∧ ∃ l', Srt w w' B g n c a b l l' ∧ Asc l' a b := by
  induction N with
  | zero => intro a b l k w h; omega
  | succ N ih =>
    intro a b l k w hN h hab hbn hlo
    have HIH := hide ih
    have HR := hide (Srt.refl h a b)
    have HLo := hide hlo
    have HC := hide (show Closes l a b a b from fun d _ h => h)
    clear h hlo ih
    go_enter Try.func85, Try.ntmps85
    go_wp2_with fail
    go_loopw [1, 2, 3, 8, 9] (fun va vb vk v8 v9 wr => ∃ (a1 b1 : Nat) (l1 : List Int) (k1 : Int) (t8 t9 : Bool), va = .int .i64 a1 ∧ vb = .int .i64 b1 ∧ vk = .int .i64 k1 ∧ v8 = .bool t8 ∧ v9 = .bool t9 ∧ a ≤ a1 ∧ a1 ≤ b1 ∧ b1 ≤ b ∧ Hid (Srt w wr B g n c a b l l1) ∧ Hid (Lo l1 a1 b1) ∧ Hid (Closes l1 a b a1 b1)) (fun va vb _ _ _ _ => (intOf vb - intOf va).toNat)
    case atStart => exact ⟨a, b, l, k, true, true, rfl, rfl, rfl, rfl, rfl, Nat.le_refl _, hab, Nat.le_refl _, HR.out, HLo.out, HC.out⟩
    case round =>
      obtain ⟨a1, b1, l1, k1, t8, t9, rfl, rfl, rfl, rfl, rfl, ha1, hab1, hb1, HL, HLo1, HC1⟩ := hrel
      obtain ⟨L, hL⟩ : ∃ L, b1 = a1 + L := ⟨b1 - a1, by omega⟩
      have HBL := hide hL
      have e0 : IntKind.i64.wrap ((b1 : Int) - (a1 : Int)) = (L : Int) := by rw [IntWalk.i64_in _ (by omega)]; omega
      have hLn : L ≤ n := by omega
      have hb1n : b1 ≤ n := by omega
      have ha1n : a1 ≤ n := by omega
      have HN := hide (show L ≤ N from by omega)
      have HAB := hide (And.intro ha1 (And.intro hab1 hb1))
      clear hL ha1 hb1 hN hab hbn
      by_cases h12 : L ≤ 12
      · have d1 : decide ((L : Int) ≤ 12) = true := by simp; omega
        go_wp2_with fail
        refine (insertion_any g B n c a1 b1 l1 wr HL.out.own hab1 hb1n hn).mono ?_
        rintro e w1 ⟨rfl, l2, hs, ha⟩
        have HL2 := hide (HL.out.trans (hs.wider HAB.out.1 HAB.out.2.2))
        have HA2 := hide (HC1.out l2 hs.pm ha)
        clear hs ha
        go_wp2_with fail
        refine bodyPost_ret (results_none rfl _ _ _) rfl ?_
        exact ⟨rfl, l2, HL2.out, HA2.out⟩
      · have d1 : decide ((L : Int) ≤ 12) = false := by simp; omega
        have hL13 : 13 ≤ L := by omega
        clear h12
        by_cases hk0 : k1 = 0
        · have d2 : (k1 == 0) = true := by simp [hk0]
          clear hk0
          go_wp2_with fail
          refine (heapsort_any g B n c a1 b1 l1 wr HL.out.own (by have := HBL.out; omega) hb1n hn).mono ?_
          rintro e w1 ⟨rfl, l2, hs, ha⟩
          have HL2 := hide (HL.out.trans (hs.wider HAB.out.1 HAB.out.2.2))
          have HA2 := hide (HC1.out l2 hs.pm ha)
          clear hs ha
          go_wp2_with fail
          refine bodyPost_ret (results_none rfl _ _ _) rfl ?_
          exact ⟨rfl, l2, HL2.out, HA2.out⟩
        · have d2 : (k1 == 0) = false := by simp [hk0]
          clear hk0
          go_upto_if 35 with fail
          go_cut [3] (fun v3 wx => ∃ (k2 : Int) (l2 : List Int), v3 = .int .i64 k2 ∧ Hid (Srt w wx B g n c a b l l2) ∧ Hid (Pm a1 b1 l1 l2))
          case first =>
            cases t8
            · go_wp2_with fail
              refine (break_any g B n c a1 b1 l1 wr HL.out.own (by have := HBL.out; omega) hb1n hn).mono ?_
              rintro e w1 ⟨rfl, l2, hs⟩
              have HL2 := hide (HL.out.trans (hs.wider HAB.out.1 HAB.out.2.2))
              have HP2 := hide hs.pm
              clear hs
              go_wp2_with fail
              go_meet
              exact ⟨_, l2, rfl, HL2.out, HP2.out⟩
            · go_wp2_with fail
              go_meet
              exact ⟨_, l1, rfl, HL.out, Pm.refl _ _ _⟩
          case rest =>
            obtain ⟨k2, l2, rfl, HL2, HP2⟩ := hcut
            have HLo2 := hide (HLo1.out.pm HP2.out)
            have HC2 := hide (HC1.out.pm HP2.out)
            clear HL HP2 HLo1 HC1 d2
            go_wp2_with fail
            refine (choosePivot_any g B n c a1 b1 l2 wc HL2.out.own (by have := HBL.out; omega) hb1n hn).mono ?_
            rintro e w3 ⟨p, hk, hp1, hp2, hk3, rfl, ho, hbl⟩
            have HL3 := hide (show Srt w w3 B g n c a b l l2 from ⟨ho, HL2.out.grown.trans (grown_below hbl _), HL2.out.pm⟩)
            clear ho hbl HL2
            go_upto_if 50 with fail
            go_cut [11, 12] (fun v11 v12 wx => ∃ (p : Nat) (hk : Int) (l3 : List Int), v11 = .int .i64 p ∧ v12 = .int .i64 hk ∧ a1 ≤ p ∧ p < b1 ∧ Hid (Srt w wx B g n c a b l l3) ∧ Hid (Pm a1 b1 l2 l3))
            case first =>
              by_cases hk2 : hk = 2
              · have d3 : (hk == 2) = true := by simp [hk2]
                clear hk2 hk3
                obtain ⟨m, hm⟩ : ∃ m, b1 - 1 = m := ⟨_, rfl⟩
                have e1 : IntKind.i64.wrap ((b1 : Int) - 1) = (m : Int) := by rw [IntWalk.i64_in _ (by omega)]; omega
                obtain ⟨s, hs⟩ : ∃ s, p - a1 = s := ⟨_, rfl⟩
                have e2 : IntKind.i64.wrap ((p : Int) - (a1 : Int)) = (s : Int) := by rw [IntWalk.i64_in _ (by omega)]; omega
                obtain ⟨r, hr⟩ : ∃ r, m - s = r := ⟨_, rfl⟩
                have e3 : IntKind.i64.wrap ((m : Int) - (s : Int)) = (r : Int) := by rw [IntWalk.i64_in _ (by omega)]; omega
                have hr1 : a1 ≤ r := by omega
                have hr2 : r < b1 := by omega
                clear hm hs hr
                go_wp2_with fail
                refine (reverse_any g B n c a1 b1 l2 w3 HL3.out.own (by have := HBL.out; omega) hb1n hn).mono ?_
                rintro e w4 ⟨rfl, l3, hs⟩
                have HL4 := hide (HL3.out.trans (hs.wider HAB.out.1 HAB.out.2.2))
                have HP4 := hide hs.pm
                clear hs
                go_wp2_with fail
                go_meet
                exact ⟨r, 1, l3, rfl, rfl, hr1, hr2, HL4.out, HP4.out⟩
              · have d3 : (hk == 2) = false := by simp [hk2]
                clear hk2
                go_wp2_with fail
                go_meet
                exact ⟨p, hk, l2, rfl, rfl, hp1, hp2, HL3.out, Pm.refl _ _ _⟩
            case rest =>
              clear hp1 hp2 hk3
              obtain ⟨p, hk, l3, rfl, rfl, hp1, hp2, HL4, HP4⟩ := hcut
              have HLo3 := hide (HLo2.out.pm HP4.out)
              have HC3 := hide (HC2.out.pm HP4.out)
              clear HL3 HP4 HLo2 HC2
              go_upto_region 15 with fail
              go_cut [68] (fun s68 wx => ∃ bb : Bool, s68 = .bool bb ∧ Hid (Srt w wx B g n c a b l l3))
              case first =>
                cases t8
                · go_wp2_with fail
                  go_meet
                  exact ⟨_, rfl, HL4.out⟩
                · cases t9
                  · go_wp2_with fail
                    go_meet
                    exact ⟨_, rfl, HL4.out⟩
                  · go_wp2_with fail
                    go_meet
                    exact ⟨_, rfl, HL4.out⟩
              case rest =>
                obtain ⟨bb, rfl, HL5⟩ := hcut
                clear HL4
                go_upto_if 68 with fail
                go_cut [13] (fun _ wx => ∃ l4, Hid (Srt w wx B g n c a b l l4) ∧ Hid (Pm a1 b1 l3 l4))
                case first =>
                  cases bb
                  · go_wp2_with fail
                    go_meet
                    exact ⟨l3, HL5.out, Pm.refl _ _ _⟩
                  · go_wp2_with fail
                    refine (partial_any g B n c a1 b1 l3 _ HL5.out.own (by have := HBL.out; omega) hb1n hn HLo3.out).mono ?_
                    rintro e w5 ⟨t, l4, rfl, hs, ht⟩
                    have HL6 := hide (HL5.out.trans (hs.wider HAB.out.1 HAB.out.2.2))
                    have HP6 := hide hs.pm
                    have HT := hide ht
                    clear hs ht
                    cases t
                    · go_wp2_with fail
                      go_meet
                      exact ⟨l4, HL6.out, HP6.out⟩
                    · go_wp2_with fail
                      refine bodyPost_ret (results_none rfl _ _ _) rfl ?_
                      exact ⟨rfl, l4, HL6.out, HC3.out l4 HP6.out (HT.out trivial)⟩
                case rest =>
                  obtain ⟨l4, HL6, HP6⟩ := hcut
                  have HLo4 := hide (HLo3.out.pm HP6.out)
                  have HC4 := hide (HC3.out.pm HP6.out)
                  clear HL5 HP6 HLo3 HC3
                  have hpn : p < n := by omega
                  go_upto_region 17 with fail
                  go_cut [87] (fun ss wx => ∃ bb : Bool, ss = .bool bb ∧ Hid (Srt w wx B g n c a b l l4) ∧ Hid (bb = true → 0 < a1 ∧ nth l4 p ≤ nth l4 (a1 - 1)))
                  case first =>
                    by_cases h0 : 0 < a1
                    · obtain ⟨a0, ha0⟩ : ∃ a0, a1 - 1 = a0 := ⟨_, rfl⟩
                      have e1 : IntKind.i64.wrap ((a1 : Int) - 1) = (a0 : Int) := by rw [IntWalk.i64_in _ (by omega)]; omega
                      have ha0n : a0 < n := by omega
                      have d4 : decide ((0 : Int) < (a1 : Int)) = true := by simp; omega
                      have HA0 := hide ha0
                      clear ha0
                      obtain ⟨c0, -⟩ := HL6.out.own.at_ (j := a0) ha0n
                      obtain ⟨cp, -⟩ := HL6.out.own.at_ (j := p) hpn
                      obtain ⟨x, hx⟩ : ∃ x, nth l4 a0 = x := ⟨_, rfl⟩
                      obtain ⟨y, hy⟩ : ∃ y, nth l4 p = y := ⟨_, rfl⟩
                      rw [hx] at c0
                      rw [hy] at cp
                      have HXY := hide (And.intro hx hy)
                      clear hx hy e0
                      cases hlt2 : ltB x y
                      · have HLT := hide hlt2
                        clear hlt2
                        go_quiet ((go_at_call 94; exact Calls.quiet_of_same ((less_no x y _ (by have := ltB_no HLT.out; omega)).mono fun e w' h => ⟨h.1, h.2.symm⟩)))
                        have HL7 := hide (HL6.out.drewN nq)
                        go_wp2_with fail
                        go_meet
                        exact ⟨_, rfl, HL7.out, fun _ => ⟨h0, by rw [HA0.out, HXY.out.1, HXY.out.2]; exact ltB_no HLT.out⟩⟩
                      · have HLT := hide hlt2
                        clear hlt2
                        go_quiet ((go_at_call 94; exact Calls.quiet_of_same ((less_yes x y _ (ltB_yes HLT.out)).mono fun e w' h => ⟨h.1, h.2.symm⟩)))
                        have HL7 := hide (HL6.out.drewN nq)
                        go_wp2_with fail
                        go_meet
                        exact ⟨_, rfl, HL7.out, fun e => by cases e⟩
                    · have d4 : decide ((0 : Int) < (a1 : Int)) = false := by simp; omega
                      clear e0
                      go_quiet (fail)
                      have HL7 := hide (HL6.out.drewN nq)
                      go_wp2_with fail
                      go_meet
                      exact ⟨_, rfl, HL7.out, fun e => by cases e⟩
                  case rest =>
                    obtain ⟨bb, rfl, HL7, HBB⟩ := hcut
                    clear HL6
                    cases bb
                    · -- parted
                      go_wp2_with fail
                      refine (partition_any g B n c a1 b1 p l4 _ HL7.out.own hp1 hp2 hb1n hn).mono ?_
                      rintro e w8 ⟨m, t, l5, rfl, hs, hpt⟩
                      have HL8 := hide (HL7.out.trans (hs.wider HAB.out.1 HAB.out.2.2))
                      have HLo5 := hide (HLo4.out.pm hs.pm)
                      have HC5 := hide (HC4.out.pm hs.pm)
                      have HPT := hide hpt
                      have hm1 := hpt.ge
                      have hm2 := hpt.lt
                      clear hs hpt HL7 HLo4 HC4 HBB
                      obtain ⟨lf, hlf⟩ : ∃ lf, m - a1 = lf := ⟨_, rfl⟩
                      have e1 : IntKind.i64.wrap ((m : Int) - (a1 : Int)) = (lf : Int) := by rw [IntWalk.i64_in _ (by omega)]; omega
                      obtain ⟨rt, hrt⟩ : ∃ rt, b1 - m = rt := ⟨_, rfl⟩
                      have e2 : IntKind.i64.wrap ((b1 : Int) - (m : Int)) = (rt : Int) := by rw [IntWalk.i64_in _ (by omega)]; omega
                      obtain ⟨m1, hmm⟩ : ∃ m1, m + 1 = m1 := ⟨_, rfl⟩
                      have e3 : IntKind.i64.wrap ((m : Int) + 1) = (m1 : Int) := by rw [IntWalk.i64_in _ (by omega)]; omega
                      have HM1 := hide hmm
                      have hm1b : m1 ≤ b1 := by omega
                      have hm1a : a1 < m1 := by omega
                      have HM := hide (And.intro hlf hrt)
                      clear hlf hrt e0 hmm
                      by_cases hlr : lf < rt
                      · have d5 : decide (lf < rt) = true := by simp; omega
                        have d6 : (lf : Int) < (rt : Int) := by omega
                        clear hlr
                        go_wp2_with fail
                        refine (HIH.out a1 m l5 k2 w8 (by have := HN.out; have := HBL.out; omega) HL8.out.own hm1 (by omega) (HLo5.out.left (Nat.le_of_lt hm2))).mono ?_
                        rintro e w9 ⟨rfl, l6, hs, ha⟩
                        have HL9 := hide (HL8.out.trans (hs.wider HAB.out.1 (by have := HAB.out; omega)))
                        have HC6 := hide (closes_left HC5.out HPT.out hs.pm ha)
                        have HLo6 := hide (HPT.out.pm_left hs.pm).lo
                        rw [HM1.out] at HC6 HLo6
                        clear hs ha HL8 HLo5 HC5
                        go_wp2_with fail
                        clear e1 e2
                        go_roundw
                        case rel => exact ⟨m1, b1, l6, k2, _, t, rfl, rfl, rfl, rfl, rfl, by have := HAB.out; omega, hm1b, HAB.out.2.2, HL9.out, HLo6.out, HC6.out⟩
                        case measure => simp [intOf]; omega
                      · have d5 : decide (lf < rt) = false := by simp; omega
                        have d6 : ¬ ((lf : Int) < (rt : Int)) := by omega
                        clear hlr
                        go_wp2_with fail
                        refine (HIH.out m1 b1 l5 k2 w8 (by have := HN.out; have := HBL.out; omega) HL8.out.own hm1b hb1n (by have h0 := HPT.out.lo; rwa [HM1.out] at h0)).mono ?_
                        rintro e w9 ⟨rfl, l6, hs, ha⟩
                        have HL9 := hide (HL8.out.trans (hs.wider (by have := HAB.out; omega) HAB.out.2.2))
                        have HC6 := hide (closes_right HC5.out HPT.out (l6 := l6) (by rw [HM1.out]; exact hs.pm) (by rw [HM1.out]; exact ha))
                        have HLo6 := hide ((HLo5.out.pm (hs.pm.wider (by omega) (Nat.le_refl _))).left (Nat.le_of_lt hm2))
                        clear hs ha HL8 HLo5 HC5
                        go_wp2_with fail
                        clear e1 e2
                        go_roundw
                        case rel => exact ⟨a1, m, l6, k2, _, t, rfl, rfl, rfl, rfl, rfl, HAB.out.1, hm1, by have := HAB.out; omega, HL9.out, HLo6.out, HC6.out⟩
                        case measure => simp [intOf]; omega
                    · -- many alike
                      clear e0
                      go_wp2_with fail
                      refine (partequal_any g B n c a1 b1 p l4 _ HL7.out.own hp1 hp2 hb1n hn).mono ?_
                      rintro e w8 ⟨m, l5, rfl, hm1, hm2, hs, hlow, hhigh⟩
                      have HL8 := hide (HL7.out.trans (hs.wider HAB.out.1 HAB.out.2.2))
                      have hq := closes_equal (HC4.out.pm hs.pm) hm1 hm2 hlow hhigh (fun q hq1 hq2 => by
                        have h0 := HBB.out trivial
                        rcases HLo4.out.pm hs.pm with h1 | h1
                        · omega
                        · have h2 := h1 q hq1 hq2
                          rw [hs.pm.out (a1 - 1) (.inl (by omega))] at h2
                          exact Int.le_trans h0.2 h2)
                      have HC6 := hide hq.1
                      have HLo6 := hide hq.2
                      clear hs hlow hhigh HL7 HLo4 HC4 HBB hq
                      go_wp2_with fail
                      go_roundw
                      case rel => exact ⟨m, b1, l5, k2, t8, t9, rfl, rfl, rfl, rfl, rfl, by have := HAB.out; omega, hm2, HAB.out.2.2, HL8.out, HLo6.out, HC6.out⟩
                      case measure => simp [intOf]; omega
end Go.Proofs.Ytchcpeenpijekaa
