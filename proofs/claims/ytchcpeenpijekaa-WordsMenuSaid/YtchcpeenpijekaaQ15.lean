/- Pieces, joined: SrtG. -/
import Derived.Test.YtchcpeenpijekaaQ14

/- Go's sort of runes, walked: partitionOrdered. (Printed by gen/part.py.) -/
namespace Go.Proofs.Ytchcpeenpijekaa
open Go.RowKit
set_option linter.unusedVariables false

theorem part_swap {l : List Int} {a b i j : Nat} {x : Int} (hai : a < i) (hij : i < j) (hjb : j < b) (hb : b ≤ l.length) (hx : nth l a = x) (hT : ∀ p, a < p → p < i → nth l p ≤ x) (hG : ∀ p, j < p → p < b → x ≤ nth l p)
    (hi : x ≤ nth l i) (hj : nth l j ≤ x) : nth (swapL l i j) a = x ∧ (∀ p, a < p → p < i + 1 → nth (swapL l i j) p ≤ x) ∧ ∀ p, j - 1 < p → p < b → x ≤ nth (swapL l i j) p := by
  have hn := fun k => swapL_nth (l := l) (i := i) (j := j) (by omega) (by omega) k
  refine ⟨?_, fun p h1 h2 => ?_, fun p h1 h2 => ?_⟩
  · rw [hn, if_neg (by omega), if_neg (by omega)]; exact hx
  · rw [hn, if_neg (by omega)]
    by_cases e : p = i
    · rw [if_pos e]; exact hj
    · rw [if_neg e]; exact hT p h1 (by omega)
  · rw [hn]
    by_cases e : p = j
    · rw [if_pos e]; exact hi
    · rw [if_neg e, if_neg (by omega)]; exact hG p (by omega) h2
/-- Parted at m. -/
structure Parted (l : List Int) (a b m : Nat) : Prop where
  ge : a ≤ m
  lt : m < b
  low : ∀ p, a ≤ p → p < m → nth l p ≤ nth l m
  high : ∀ p, m < p → p < b → nth l m ≤ nth l p
theorem part_end {l : List Int} {a b j : Nat} {x : Int} (haj : a ≤ j) (hjb : j < b) (hb : b ≤ l.length) (hx : nth l a = x) (hT : ∀ p, a < p → p < j + 1 → nth l p ≤ x) (hG : ∀ p, j < p → p < b → x ≤ nth l p) : Parted (swapL l j a) a b j := by
  have hn := fun k => swapL_nth (l := l) (i := j) (j := a) (by omega) (by omega) k
  have hj : nth (swapL l j a) j = x := by
    rw [hn]
    by_cases e : j = a
    · rw [if_pos e, e]; exact hx
    · rw [if_neg e, if_pos rfl]; exact hx
  refine ⟨haj, hjb, fun p h1 h2 => ?_, fun p h1 h2 => ?_⟩
  · rw [hj, hn]
    by_cases e : p = a
    · rw [if_pos e]
      exact hT j (by omega) (by omega)
    · rw [if_neg e, if_neg (by omega)]
      exact hT p (by omega) (by omega)
  · rw [hj, hn, if_neg (by omega), if_neg (by omega)]
    exact hG p h1 h2

set_option maxRecDepth 100000 in
set_option maxHeartbeats 4000000 in
theorem partition_any (g B n c a b pv : Nat) (l : List Int) (w : World) (h : Own w B (some ⟨g, 0, none⟩) n c l) (hap : a ≤ pv) (hpb : pv < b) (hbn : b ≤ n) (hn : n ≤ 1000000) :
    Calls Try.prog 96 #[.slice (some ⟨g, 0, none⟩) n c, .int .i64 (a : Int), .int .i64 (b : Int), .int .i64 (pv : Int)] w fun e w' => ∃ (m : Nat) (t : Bool) (l' : List Int), e = .returned (.tuple #[.int .i64 (m : Int), .bool t]) ∧ Srt w w' B g n c a b l l' ∧ Parted l' a b m := by
  have HR := hide (Srt.refl h a b)
  have han : a < n := by omega
  have hlen : b ≤ l.length := by rw [h.len]; exact hbn
  obtain ⟨m, hm⟩ : ∃ m, b - 1 = m := ⟨_, rfl⟩
  have e0 : IntKind.i64.wrap ((b : Int) - 1) = (m : Int) := by rw [IntWalk.i64_in _ (by omega)]; omega
  have hmb : m + 1 = b := by omega
  obtain ⟨x, hx⟩ : ∃ x, nth l pv = x := ⟨_, rfl⟩
  have hx1 : nth (swapL l a pv) a = x := by
    rw [swapL_nth (by omega) (by omega)]
    by_cases e : a = pv
    · rw [if_pos e, ← hx, e]
    · rw [if_neg e, if_pos rfl, hx]
  have HX1 := hide hx1
  have HXX := hide hx
  clear h hm hx hx1
  go_enter Try.func96, Try.ntmps96
  go_upto_region 1 with fail
  go_cut [12] (fun vv wx => Hid (Srt w wx B g n c a b l (swapL l a pv)))
  case first =>
    obtain ⟨ci, fi⟩ := HR.out.own.at_ (j := a) (by omega)
    obtain ⟨cj, fj⟩ := HR.out.own.at_ (j := pv) (by omega)
    have HX0 := hide (HR.out.swap (i := a) (j := pv) (by omega) (by omega) (by omega) (by omega) hbn)
    by_cases hne : a = pv
    · subst hne
      go_wp2_with fail
      go_region
      clear ci cj fi fj
      go_wp2_with fail
      go_meet
      exact HX0
    · go_wp2_with fail
      go_region
      clear ci cj fi fj
      go_wp2_with fail
      go_meet
      exact HX0
  case rest =>
    have HX0 := hcut
    clear hcut HR
    -- the row behind the swap
    have HT0 := hide (show ∀ p, a < p → p < a + 1 → nth (swapL l a pv) p ≤ x from fun p h1 h2 => by omega)
    have HG0 := hide (show ∀ p, m < p → p < b → x ≤ nth (swapL l a pv) p from fun p h1 h2 => by omega)
    obtain ⟨l0, hl0⟩ : ∃ l0, swapL l a pv = l0 := ⟨_, rfl⟩
    rw [hl0] at HT0 HG0 HX1 HX0
    clear hl0
    obtain ⟨i, hi⟩ : ∃ i, a + 1 = i := ⟨_, rfl⟩
    rw [hi] at HT0
    have hia : a < i := by omega
    have him : i ≤ m + 1 := by omega
    have HI := hide hi
    have e9 : IntKind.i64.wrap ((a : Int) + 1) = (i : Int) := by rw [IntWalk.i64_in _ (by omega)]; omega
    clear hi
    go_upto_block 0 with fail
    go_cut [10] (fun vv wx => ∃ (k : Nat), vv = .int .i64 k ∧ i ≤ k ∧ k ≤ m + 1 ∧ Hid (Srt w wx B g n c a b l l0) ∧ Hid (∀ p, a < p → p < k → nth l0 p ≤ x) ∧ Hid (k = m + 1 ∨ x ≤ nth l0 k))
    case first =>
      go_wp2_with fail
      go_loopw [10] (fun vv wx => ∃ (k : Nat), vv = .int .i64 k ∧ i ≤ k ∧ k ≤ m + 1 ∧ Hid (Srt w wx B g n c a b l l0) ∧ Hid (∀ p, a < p → p < k → nth l0 p ≤ x)) (fun vv _ => m + 1 - (intOf vv).toNat)
      case atStart => exact ⟨i, rfl, Nat.le_refl _, by omega, HX0.out, HT0.out⟩
      case round =>
        obtain ⟨k, rfl, hk1r, hk2r, HLq, HTq⟩ := hrel
        by_cases hgd : k ≤ m
        · have hkn : k < n := by omega
          have hkb : k < b := by omega
          obtain ⟨ck, -⟩ := HLq.out.own.at_ (j := k) hkn
          obtain ⟨ca, -⟩ := HLq.out.own.at_ (j := a) han
          rw [HX1.out] at ca
          obtain ⟨y, hy⟩ : ∃ y, nth l0 k = y := ⟨_, rfl⟩
          rw [hy] at ck
          have HY := hide hy
          clear hy
          cases hlt2 : ltB y x
          · have HLT := hide hlt2
            clear hlt2
            go_wp2_with fail
            go_quiet ((go_at_call 94; exact Calls.quiet_of_same ((less_no y x _ (by have := ltB_no HLT.out; omega)).mono fun e w' h => ⟨h.1, h.2.symm⟩)))
            have HL3 := hide (HLq.out.drewN nq)
            clear ck ca
            go_wp2_with fail
            go_meet
            exact ⟨k, rfl, hk1r, hk2r, HL3.out, HTq.out, .inr (by rw [HY.out]; exact ltB_no HLT.out)⟩
          · have HLT := hide hlt2
            clear hlt2
            go_wp2_with fail
            go_quiet ((go_at_call 94; exact Calls.quiet_of_same ((less_yes y x _ (ltB_yes HLT.out)).mono fun e w' h => ⟨h.1, h.2.symm⟩)))
            have HL3 := hide (HLq.out.drewN nq)
            clear ck ca
            go_wp2_with fail
            skip
            go_roundw
            case rel =>
              exact ⟨k + 1, by go_num, by omega, by omega, HL3.out, fun p hp1 hp2 => by
                by_cases e : p = k
                · subst e
                  rw [HY.out]
                  exact Int.le_of_lt (ltB_yes HLT.out)
                · exact HTq.out p hp1 (by omega)⟩

            case measure => simp [intOf]; omega

        · go_wp2_with fail
          go_quiet (fail)
          have HL3 := hide (HLq.out.drewN nq)
          go_wp2_with fail
          go_meet
          exact ⟨k, rfl, hk1r, hk2r, HL3.out, HTq.out, .inl (by omega)⟩
    case rest =>
      obtain ⟨i2, rfl, hi1, hi2, HLa, HTa, HSa⟩ := hcut
      clear HX0 HT0
      go_upto_block 2 with fail
      go_cut [11] (fun vv wx => ∃ (k : Nat), vv = .int .i64 k ∧ i2 ≤ k + 1 ∧ k ≤ m ∧ Hid (Srt w wx B g n c a b l l0) ∧ Hid (∀ p, k < p → p < b → x ≤ nth l0 p) ∧ Hid (i2 = k + 1 ∨ nth l0 k < x))
      case first =>
        go_wp2_with fail
        go_loopw [11] (fun vv wx => ∃ (k : Nat), vv = .int .i64 k ∧ i2 ≤ k + 1 ∧ k ≤ m ∧ Hid (Srt w wx B g n c a b l l0) ∧ Hid (∀ p, k < p → p < b → x ≤ nth l0 p)) (fun vv _ => (intOf vv).toNat)
        case atStart => exact ⟨m, rfl, by omega, Nat.le_refl _, HLa.out, HG0.out⟩
        case round =>
          obtain ⟨k, rfl, hk1r, hk2r, HLq, HTq⟩ := hrel
          by_cases hgd : i2 ≤ k
          · have hkn : k < n := by omega
            have hkb : k < b := by omega
            obtain ⟨k1, hk1⟩ : ∃ k1, k = k1 + 1 := ⟨k - 1, by omega⟩
            have HK1 := hide hk1
            have e1 : IntKind.i64.wrap ((k : Int) - 1) = (k1 : Int) := by rw [IntWalk.i64_in _ (by omega)]; omega
            clear hk1
            obtain ⟨ck, -⟩ := HLq.out.own.at_ (j := k) hkn
            obtain ⟨ca, -⟩ := HLq.out.own.at_ (j := a) han
            rw [HX1.out] at ca
            obtain ⟨y, hy⟩ : ∃ y, nth l0 k = y := ⟨_, rfl⟩
            rw [hy] at ck
            have HY := hide hy
            clear hy
            cases hlt2 : ltB y x
            · have HLT := hide hlt2
              clear hlt2
              go_wp2_with fail
              go_quiet ((go_at_call 94; exact Calls.quiet_of_same ((less_no y x _ (by have := ltB_no HLT.out; omega)).mono fun e w' h => ⟨h.1, h.2.symm⟩)))
              have HL3 := hide (HLq.out.drewN nq)
              clear ck ca
              go_wp2_with fail
              clear e1
              go_roundw
              case rel =>
                exact ⟨k1, rfl, by have := HK1.out; omega, by have := HK1.out; omega, HL3.out, fun p hp1 hp2 => by
                  by_cases e : p = k
                  · subst e
                    rw [HY.out]
                    exact ltB_no HLT.out
                  · exact HTq.out p (by have := HK1.out; omega) hp2⟩

              case measure => have := HK1.out; simp [intOf]; omega
            · have HLT := hide hlt2
              clear hlt2
              go_wp2_with fail
              go_quiet ((go_at_call 94; exact Calls.quiet_of_same ((less_yes y x _ (ltB_yes HLT.out)).mono fun e w' h => ⟨h.1, h.2.symm⟩)))
              have HL3 := hide (HLq.out.drewN nq)
              clear ck ca
              go_wp2_with fail
              go_meet
              exact ⟨k, rfl, hk1r, hk2r, HL3.out, HTq.out, .inr (by rw [HY.out]; exact ltB_yes HLT.out)⟩

          · go_wp2_with fail
            go_quiet (fail)
            have HL3 := hide (HLq.out.drewN nq)
            go_wp2_with fail
            go_meet
            exact ⟨k, rfl, hk1r, hk2r, HL3.out, HTq.out, .inl (by omega)⟩
      case rest =>
        obtain ⟨j2, rfl, hj1, hj2, HLb, HGb, HSb⟩ := hcut
        clear HLa HG0
        by_cases hij : i2 ≤ j2
        · have hlt : i2 < j2 := by
            have h1 := HSa.out
            have h2 := HSb.out
            rcases h1 with h1 | h1
            · omega
            · rcases h2 with h2 | h2
              · omega
              · by_cases e : i2 = j2
                · subst e; omega
                · omega
          have hxi : x ≤ nth l0 i2 := by
            rcases HSa.out with h1 | h1
            · omega
            · omega
          have hxj : nth l0 j2 ≤ x := by
            rcases HSb.out with h1 | h1
            · omega
            · omega
          have HPS := hide (part_swap (l := l0) (a := a) (b := b) (by omega) hlt (by omega) (by rw [HLb.out.own.len]; exact hbn) HX1.out HTa.out HGb.out hxi hxj)
          clear hxi hxj
          obtain ⟨j3, hj3⟩ : ∃ j3, j2 - 1 = j3 := ⟨_, rfl⟩
          have e3 : IntKind.i64.wrap ((j2 : Int) - 1) = (j3 : Int) := by rw [IntWalk.i64_in _ (by omega)]; omega
          rw [hj3] at HPS
          have hj32 : j3 + 1 = j2 := by omega
          clear hj3
          obtain ⟨ci, fi⟩ := HLb.out.own.at_ (j := i2) (by omega)
          obtain ⟨cj, fj⟩ := HLb.out.own.at_ (j := j2) (by omega)
          have HXz := hide (HLb.out.swap (i := i2) (j := j2) (by omega) (by omega) (by omega) (by omega) hbn)
          have hne : i2 ≠ j2 := by omega
          go_wp2_with fail
          go_region
          clear ci cj fi fj
          go_wp2_with fail
          clear e3
          go_loopw [10, 11] (fun vi vj wx => ∃ (i j : Nat) (l2 : List Int), vi = .int .i64 i ∧ vj = .int .i64 j ∧ a < i ∧ i ≤ j + 1 ∧ j < b ∧ Hid (Srt w wx B g n c a b l l2) ∧ Hid (nth l2 a = x) ∧ Hid (∀ p, a < p → p < i → nth l2 p ≤ x) ∧ Hid (∀ p, j < p → p < b → x ≤ nth l2 p)) (fun vi vj _ => ((intOf vj) + 1 - intOf vi).toNat)
          case atStart => exact ⟨i2 + 1, j3, swapL l0 i2 j2, by go_num, rfl, by omega, by omega, by omega, HXz.out, HPS.out.1, HPS.out.2.1, HPS.out.2.2⟩
          case round =>
            obtain ⟨i, j, l2, rfl, rfl, hi, hij0, hjb, HL, HV, HT, HG⟩ := hrel
            have him : i ≤ j + 1 := hij0
            go_upto_block 6 with fail
            go_cut [10] (fun vv wx => ∃ (k : Nat), vv = .int .i64 k ∧ i ≤ k ∧ k ≤ j + 1 ∧ Hid (Srt w wx B g n c a b l l2) ∧ Hid (∀ p, a < p → p < k → nth l2 p ≤ x) ∧ Hid (k = j + 1 ∨ x ≤ nth l2 k))
            case first =>
              go_wp2_with fail
              go_loopw [10] (fun vv wx => ∃ (k : Nat), vv = .int .i64 k ∧ i ≤ k ∧ k ≤ j + 1 ∧ Hid (Srt w wx B g n c a b l l2) ∧ Hid (∀ p, a < p → p < k → nth l2 p ≤ x)) (fun vv _ => j + 1 - (intOf vv).toNat)
              case atStart => exact ⟨i, rfl, Nat.le_refl _, by omega, HL.out, HT.out⟩
              case round =>
                obtain ⟨k, rfl, hk1r, hk2r, HLq, HTq⟩ := hrel
                by_cases hgd : k ≤ j
                · have hkn : k < n := by omega
                  have hkb : k < b := by omega
                  obtain ⟨ck, -⟩ := HLq.out.own.at_ (j := k) hkn
                  obtain ⟨ca, -⟩ := HLq.out.own.at_ (j := a) han
                  rw [HV.out] at ca
                  obtain ⟨y, hy⟩ : ∃ y, nth l2 k = y := ⟨_, rfl⟩
                  rw [hy] at ck
                  have HY := hide hy
                  clear hy
                  cases hlt2 : ltB y x
                  · have HLT := hide hlt2
                    clear hlt2
                    go_wp2_with fail
                    go_quiet ((go_at_call 94; exact Calls.quiet_of_same ((less_no y x _ (by have := ltB_no HLT.out; omega)).mono fun e w' h => ⟨h.1, h.2.symm⟩)))
                    have HL3 := hide (HLq.out.drewN nq)
                    clear ck ca
                    go_wp2_with fail
                    go_meet
                    exact ⟨k, rfl, hk1r, hk2r, HL3.out, HTq.out, .inr (by rw [HY.out]; exact ltB_no HLT.out)⟩
                  · have HLT := hide hlt2
                    clear hlt2
                    go_wp2_with fail
                    go_quiet ((go_at_call 94; exact Calls.quiet_of_same ((less_yes y x _ (ltB_yes HLT.out)).mono fun e w' h => ⟨h.1, h.2.symm⟩)))
                    have HL3 := hide (HLq.out.drewN nq)
                    clear ck ca
                    go_wp2_with fail
                    skip
                    go_roundw
                    case rel =>
                      exact ⟨k + 1, by go_num, by omega, by omega, HL3.out, fun p hp1 hp2 => by
                        by_cases e : p = k
                        · subst e
                          rw [HY.out]
                          exact Int.le_of_lt (ltB_yes HLT.out)
                        · exact HTq.out p hp1 (by omega)⟩

                    case measure => simp [intOf]; omega

                · go_wp2_with fail
                  go_quiet (fail)
                  have HL3 := hide (HLq.out.drewN nq)
                  go_wp2_with fail
                  go_meet
                  exact ⟨k, rfl, hk1r, hk2r, HL3.out, HTq.out, .inl (by omega)⟩
            case rest =>
              obtain ⟨i2, rfl, hi1, hi2, HLa, HTa, HSa⟩ := hcut
              clear HL HT
              go_upto_block 8 with fail
              go_cut [11] (fun vv wx => ∃ (k : Nat), vv = .int .i64 k ∧ i2 ≤ k + 1 ∧ k ≤ j ∧ Hid (Srt w wx B g n c a b l l2) ∧ Hid (∀ p, k < p → p < b → x ≤ nth l2 p) ∧ Hid (i2 = k + 1 ∨ nth l2 k < x))
              case first =>
                go_wp2_with fail
                go_loopw [11] (fun vv wx => ∃ (k : Nat), vv = .int .i64 k ∧ i2 ≤ k + 1 ∧ k ≤ j ∧ Hid (Srt w wx B g n c a b l l2) ∧ Hid (∀ p, k < p → p < b → x ≤ nth l2 p)) (fun vv _ => (intOf vv).toNat)
                case atStart => exact ⟨j, rfl, by omega, Nat.le_refl _, HLa.out, HG.out⟩
                case round =>
                  obtain ⟨k, rfl, hk1r, hk2r, HLq, HTq⟩ := hrel
                  by_cases hgd : i2 ≤ k
                  · have hkn : k < n := by omega
                    have hkb : k < b := by omega
                    obtain ⟨k1, hk1⟩ : ∃ k1, k = k1 + 1 := ⟨k - 1, by omega⟩
                    have HK1 := hide hk1
                    have e1 : IntKind.i64.wrap ((k : Int) - 1) = (k1 : Int) := by rw [IntWalk.i64_in _ (by omega)]; omega
                    clear hk1
                    obtain ⟨ck, -⟩ := HLq.out.own.at_ (j := k) hkn
                    obtain ⟨ca, -⟩ := HLq.out.own.at_ (j := a) han
                    rw [HV.out] at ca
                    obtain ⟨y, hy⟩ : ∃ y, nth l2 k = y := ⟨_, rfl⟩
                    rw [hy] at ck
                    have HY := hide hy
                    clear hy
                    cases hlt2 : ltB y x
                    · have HLT := hide hlt2
                      clear hlt2
                      go_wp2_with fail
                      go_quiet ((go_at_call 94; exact Calls.quiet_of_same ((less_no y x _ (by have := ltB_no HLT.out; omega)).mono fun e w' h => ⟨h.1, h.2.symm⟩)))
                      have HL3 := hide (HLq.out.drewN nq)
                      clear ck ca
                      go_wp2_with fail
                      clear e1
                      go_roundw
                      case rel =>
                        exact ⟨k1, rfl, by have := HK1.out; omega, by have := HK1.out; omega, HL3.out, fun p hp1 hp2 => by
                          by_cases e : p = k
                          · subst e
                            rw [HY.out]
                            exact ltB_no HLT.out
                          · exact HTq.out p (by have := HK1.out; omega) hp2⟩

                      case measure => have := HK1.out; simp [intOf]; omega
                    · have HLT := hide hlt2
                      clear hlt2
                      go_wp2_with fail
                      go_quiet ((go_at_call 94; exact Calls.quiet_of_same ((less_yes y x _ (ltB_yes HLT.out)).mono fun e w' h => ⟨h.1, h.2.symm⟩)))
                      have HL3 := hide (HLq.out.drewN nq)
                      clear ck ca
                      go_wp2_with fail
                      go_meet
                      exact ⟨k, rfl, hk1r, hk2r, HL3.out, HTq.out, .inr (by rw [HY.out]; exact ltB_yes HLT.out)⟩

                  · go_wp2_with fail
                    go_quiet (fail)
                    have HL3 := hide (HLq.out.drewN nq)
                    go_wp2_with fail
                    go_meet
                    exact ⟨k, rfl, hk1r, hk2r, HL3.out, HTq.out, .inl (by omega)⟩
              case rest =>
                obtain ⟨j2, rfl, hj1, hj2, HLb, HGb, HSb⟩ := hcut
                clear HLa HG
                by_cases hij : i2 ≤ j2
                · have hlt : i2 < j2 := by
                    have h1 := HSa.out
                    have h2 := HSb.out
                    rcases h1 with h1 | h1
                    · omega
                    · rcases h2 with h2 | h2
                      · omega
                      · by_cases e : i2 = j2
                        · subst e; omega
                        · omega
                  have hxi : x ≤ nth l2 i2 := by
                    rcases HSa.out with h1 | h1
                    · omega
                    · omega
                  have hxj : nth l2 j2 ≤ x := by
                    rcases HSb.out with h1 | h1
                    · omega
                    · omega
                  have HPS := hide (part_swap (l := l2) (a := a) (b := b) (by omega) hlt (by omega) (by rw [HLb.out.own.len]; exact hbn) HV.out HTa.out HGb.out hxi hxj)
                  clear hxi hxj
                  obtain ⟨j3, hj3⟩ : ∃ j3, j2 - 1 = j3 := ⟨_, rfl⟩
                  have e3 : IntKind.i64.wrap ((j2 : Int) - 1) = (j3 : Int) := by rw [IntWalk.i64_in _ (by omega)]; omega
                  rw [hj3] at HPS
                  have hj32 : j3 + 1 = j2 := by omega
                  clear hj3
                  obtain ⟨ci, fi⟩ := HLb.out.own.at_ (j := i2) (by omega)
                  obtain ⟨cj, fj⟩ := HLb.out.own.at_ (j := j2) (by omega)
                  have HXz := hide (HLb.out.swap (i := i2) (j := j2) (by omega) (by omega) (by omega) (by omega) hbn)
                  have hne : i2 ≠ j2 := by omega
                  go_wp2_with fail
                  go_region
                  clear ci cj fi fj
                  go_wp2_with fail
                  clear e3
                  go_roundw
                  case rel => exact ⟨i2 + 1, j3, swapL l2 i2 j2, by go_num, rfl, by omega, by omega, by omega, HXz.out, HPS.out.1, HPS.out.2.1, HPS.out.2.2⟩
                  case measure => simp [intOf]; omega

                · obtain ⟨ci, fi⟩ := HLb.out.own.at_ (j := j2) (by omega)
                  obtain ⟨cj, fj⟩ := HLb.out.own.at_ (j := a) (by omega)
                  have HXz := hide (HLb.out.swap (i := j2) (j := a) (by omega) (by omega) (by omega) (by omega) hbn)
                  by_cases hne : j2 = a
                  · subst hne
                    go_wp2_with fail
                    go_region
                    clear ci cj fi fj
                    have HD := hide (part_end (l := l2) (j := j2) (by omega) (by omega) (by rw [HLb.out.own.len]; exact hbn) HV.out (by have := HTa.out; rwa [show i2 = j2 + 1 by omega] at this) HGb.out)
                    go_wp2_with fail
                    go_ret2
                    exact ⟨j2, false, _, rfl, HXz.out, HD.out⟩
                  · go_wp2_with fail
                    go_region
                    clear ci cj fi fj
                    have HD := hide (part_end (l := l2) (j := j2) (by omega) (by omega) (by rw [HLb.out.own.len]; exact hbn) HV.out (by have := HTa.out; rwa [show i2 = j2 + 1 by omega] at this) HGb.out)
                    go_wp2_with fail
                    go_ret2
                    exact ⟨j2, false, _, rfl, HXz.out, HD.out⟩

        · obtain ⟨ci, fi⟩ := HLb.out.own.at_ (j := j2) (by omega)
          obtain ⟨cj, fj⟩ := HLb.out.own.at_ (j := a) (by omega)
          have HXz := hide (HLb.out.swap (i := j2) (j := a) (by omega) (by omega) (by omega) (by omega) hbn)
          by_cases hne : j2 = a
          · subst hne
            go_wp2_with fail
            go_region
            clear ci cj fi fj
            have HD := hide (part_end (l := l0) (j := j2) (by omega) (by omega) (by rw [HLb.out.own.len]; exact hbn) HX1.out (by have := HTa.out; rwa [show i2 = j2 + 1 by omega] at this) HGb.out)
            go_wp2_with fail
            go_ret2
            exact ⟨j2, true, _, rfl, HXz.out, HD.out⟩
          · go_wp2_with fail
            go_region
            clear ci cj fi fj
            have HD := hide (part_end (l := l0) (j := j2) (by omega) (by omega) (by rw [HLb.out.own.len]; exact hbn) HX1.out (by have := HTa.out; rwa [show i2 = j2 + 1 by omega] at this) HGb.out)
            go_wp2_with fail
            go_ret2
            exact ⟨j2, true, _, rfl, HXz.out, HD.out⟩
end Go.Proofs.Ytchcpeenpijekaa
