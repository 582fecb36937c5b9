/- Pieces, joined: SrtH, SrtI. -/
import Derived.Test.YtchcpeenpijekaaQ15
import Derived.Test.YtchcpeenpijekaaQ14

/- Go's sort of runes, walked: partitionEqualOrdered. (Printed by gen/part.py.) -/
namespace Go.Proofs.Ytchcpeenpijekaa
open Go.RowKit
set_option linter.unusedVariables false

set_option maxRecDepth 100000 in
set_option maxHeartbeats 4000000 in
theorem partequal_any (g B n c a b pv : Nat) (l : List Int) (w : World) (h : Own w B (some ⟨g, 0, none⟩) n c l) (hap : a ≤ pv) (hpb : pv < b) (hbn : b ≤ n) (hn : n ≤ 1000000) :
    Calls Try.prog 95 #[.slice (some ⟨g, 0, none⟩) n c, .int .i64 (a : Int), .int .i64 (b : Int), .int .i64 (pv : Int)] w fun e w' => ∃ (m : Nat) (l' : List Int), e = .returned (.int .i64 (m : Int)) ∧ a < m ∧ m ≤ b ∧ Srt w w' B g n c a b l l' ∧ (∀ p, a ≤ p → p < m → nth l' p ≤ nth l pv) ∧ ∀ p, m ≤ p → p < b → nth l pv ≤ nth l' p := by
  have HR := hide (Srt.refl h a b)
  have han : a < n := by omega
  have hlen : b ≤ l.length := by rw [h.len]; exact hbn
  obtain ⟨m, hm⟩ : ∃ m, b - 1 = m := ⟨_, rfl⟩
  have e0 : IntKind.i64.wrap ((b : Int) - 1) = (m : Int) := by rw [IntWalk.i64_in _ (by omega)]; omega
  have hmb : m + 1 = b := by omega
  obtain ⟨x, hx⟩ : ∃ x, nth l pv = x := ⟨_, rfl⟩
  have hx1 : nth (swapL l a pv) a = x := by
    rw [swapL_nth (by omega) (by omega)]
    by_cases e : a = pv
    · rw [if_pos e, ← hx, e]
    · rw [if_neg e, if_pos rfl, hx]
  have HX1 := hide hx1
  have HXX := hide hx
  clear h hm hx hx1
  go_enter Try.func95, Try.ntmps95
  go_upto_region 1 with fail
  go_cut [11] (fun vv wx => Hid (Srt w wx B g n c a b l (swapL l a pv)))
  case first =>
    obtain ⟨ci, fi⟩ := HR.out.own.at_ (j := a) (by omega)
    obtain ⟨cj, fj⟩ := HR.out.own.at_ (j := pv) (by omega)
    have HX0 := hide (HR.out.swap (i := a) (j := pv) (by omega) (by omega) (by omega) (by omega) hbn)
    by_cases hne : a = pv
    · subst hne
      go_wp2_with fail
      go_region
      clear ci cj fi fj
      go_wp2_with fail
      go_meet
      exact HX0
    · go_wp2_with fail
      go_region
      clear ci cj fi fj
      go_wp2_with fail
      go_meet
      exact HX0
  case rest =>
    have HX0 := hcut
    clear hcut HR
    -- the row behind the swap
    have HT0 := hide (show ∀ p, a < p → p < a + 1 → nth (swapL l a pv) p ≤ x from fun p h1 h2 => by omega)
    have HG0 := hide (show ∀ p, m < p → p < b → x ≤ nth (swapL l a pv) p from fun p h1 h2 => by omega)
    obtain ⟨l0, hl0⟩ : ∃ l0, swapL l a pv = l0 := ⟨_, rfl⟩
    rw [hl0] at HT0 HG0 HX1 HX0
    clear hl0
    obtain ⟨i, hi⟩ : ∃ i, a + 1 = i := ⟨_, rfl⟩
    rw [hi] at HT0
    have hia : a < i := by omega
    have him : i ≤ m + 1 := by omega
    have HI := hide hi
    have e9 : IntKind.i64.wrap ((a : Int) + 1) = (i : Int) := by rw [IntWalk.i64_in _ (by omega)]; omega
    clear hi
    go_wp2_with fail
    clear e0
    go_loopw [9, 10] (fun vi vj wx => ∃ (i j : Nat) (l2 : List Int), vi = .int .i64 i ∧ vj = .int .i64 j ∧ a < i ∧ i ≤ j + 1 ∧ j < b ∧ Hid (Srt w wx B g n c a b l l2) ∧ Hid (nth l2 a = x) ∧ Hid (∀ p, a < p → p < i → nth l2 p ≤ x) ∧ Hid (∀ p, j < p → p < b → x ≤ nth l2 p)) (fun vi vj _ => ((intOf vj) + 1 - intOf vi).toNat)
    case atStart => exact ⟨i, m, l0, rfl, rfl, hia, him, by omega, HX0.out, HX1.out, HT0.out, HG0.out⟩
    case round =>
      obtain ⟨i, j, l2, rfl, rfl, hi, hij0, hjb, HL, HV, HT, HG⟩ := hrel
      have him : i ≤ j + 1 := hij0
      go_upto_block 2 with fail
      go_cut [9] (fun vv wx => ∃ (k : Nat), vv = .int .i64 k ∧ i ≤ k ∧ k ≤ j + 1 ∧ Hid (Srt w wx B g n c a b l l2) ∧ Hid (∀ p, a < p → p < k → nth l2 p ≤ x) ∧ Hid (k = j + 1 ∨ x < nth l2 k))
      case first =>
        go_wp2_with fail
        go_loopw [9] (fun vv wx => ∃ (k : Nat), vv = .int .i64 k ∧ i ≤ k ∧ k ≤ j + 1 ∧ Hid (Srt w wx B g n c a b l l2) ∧ Hid (∀ p, a < p → p < k → nth l2 p ≤ x)) (fun vv _ => j + 1 - (intOf vv).toNat)
        case atStart => exact ⟨i, rfl, Nat.le_refl _, by omega, HL.out, HT.out⟩
        case round =>
          obtain ⟨k, rfl, hk1r, hk2r, HLq, HTq⟩ := hrel
          by_cases hgd : k ≤ j
          · have hkn : k < n := by omega
            have hkb : k < b := by omega
            obtain ⟨ck, -⟩ := HLq.out.own.at_ (j := k) hkn
            obtain ⟨ca, -⟩ := HLq.out.own.at_ (j := a) han
            rw [HV.out] at ca
            obtain ⟨y, hy⟩ : ∃ y, nth l2 k = y := ⟨_, rfl⟩
            rw [hy] at ck
            have HY := hide hy
            clear hy
            cases hlt2 : ltB x y
            · have HLT := hide hlt2
              clear hlt2
              go_wp2_with fail
              go_quiet ((go_at_call 94; exact Calls.quiet_of_same ((less_no x y _ (by have := ltB_no HLT.out; omega)).mono fun e w' h => ⟨h.1, h.2.symm⟩)))
              have HL3 := hide (HLq.out.drewN nq)
              clear ck ca
              go_wp2_with fail
              skip
              go_roundw
              case rel =>
                exact ⟨k + 1, by go_num, by omega, by omega, HL3.out, fun p hp1 hp2 => by
                  by_cases e : p = k
                  · subst e
                    rw [HY.out]
                    exact ltB_no HLT.out
                  · exact HTq.out p hp1 (by omega)⟩

              case measure => simp [intOf]; omega
            · have HLT := hide hlt2
              clear hlt2
              go_wp2_with fail
              go_quiet ((go_at_call 94; exact Calls.quiet_of_same ((less_yes x y _ (ltB_yes HLT.out)).mono fun e w' h => ⟨h.1, h.2.symm⟩)))
              have HL3 := hide (HLq.out.drewN nq)
              clear ck ca
              go_wp2_with fail
              go_meet
              exact ⟨k, rfl, hk1r, hk2r, HL3.out, HTq.out, .inr (by rw [HY.out]; exact ltB_yes HLT.out)⟩

          · go_wp2_with fail
            go_quiet (fail)
            have HL3 := hide (HLq.out.drewN nq)
            go_wp2_with fail
            go_meet
            exact ⟨k, rfl, hk1r, hk2r, HL3.out, HTq.out, .inl (by omega)⟩
      case rest =>
        obtain ⟨i2, rfl, hi1, hi2, HLa, HTa, HSa⟩ := hcut
        clear HL HT
        go_upto_block 4 with fail
        go_cut [10] (fun vv wx => ∃ (k : Nat), vv = .int .i64 k ∧ i2 ≤ k + 1 ∧ k ≤ j ∧ Hid (Srt w wx B g n c a b l l2) ∧ Hid (∀ p, k < p → p < b → x ≤ nth l2 p) ∧ Hid (i2 = k + 1 ∨ nth l2 k ≤ x))
        case first =>
          go_wp2_with fail
          go_loopw [10] (fun vv wx => ∃ (k : Nat), vv = .int .i64 k ∧ i2 ≤ k + 1 ∧ k ≤ j ∧ Hid (Srt w wx B g n c a b l l2) ∧ Hid (∀ p, k < p → p < b → x ≤ nth l2 p)) (fun vv _ => (intOf vv).toNat)
          case atStart => exact ⟨j, rfl, by omega, Nat.le_refl _, HLa.out, HG.out⟩
          case round =>
            obtain ⟨k, rfl, hk1r, hk2r, HLq, HTq⟩ := hrel
            by_cases hgd : i2 ≤ k
            · have hkn : k < n := by omega
              have hkb : k < b := by omega
              obtain ⟨k1, hk1⟩ : ∃ k1, k = k1 + 1 := ⟨k - 1, by omega⟩
              have HK1 := hide hk1
              have e1 : IntKind.i64.wrap ((k : Int) - 1) = (k1 : Int) := by rw [IntWalk.i64_in _ (by omega)]; omega
              clear hk1
              obtain ⟨ck, -⟩ := HLq.out.own.at_ (j := k) hkn
              obtain ⟨ca, -⟩ := HLq.out.own.at_ (j := a) han
              rw [HV.out] at ca
              obtain ⟨y, hy⟩ : ∃ y, nth l2 k = y := ⟨_, rfl⟩
              rw [hy] at ck
              have HY := hide hy
              clear hy
              cases hlt2 : ltB x y
              · have HLT := hide hlt2
                clear hlt2
                go_wp2_with fail
                go_quiet ((go_at_call 94; exact Calls.quiet_of_same ((less_no x y _ (by have := ltB_no HLT.out; omega)).mono fun e w' h => ⟨h.1, h.2.symm⟩)))
                have HL3 := hide (HLq.out.drewN nq)
                clear ck ca
                go_wp2_with fail
                go_meet
                exact ⟨k, rfl, hk1r, hk2r, HL3.out, HTq.out, .inr (by rw [HY.out]; exact ltB_no HLT.out)⟩
              · have HLT := hide hlt2
                clear hlt2
                go_wp2_with fail
                go_quiet ((go_at_call 94; exact Calls.quiet_of_same ((less_yes x y _ (ltB_yes HLT.out)).mono fun e w' h => ⟨h.1, h.2.symm⟩)))
                have HL3 := hide (HLq.out.drewN nq)
                clear ck ca
                go_wp2_with fail
                clear e1
                go_roundw
                case rel =>
                  exact ⟨k1, rfl, by have := HK1.out; omega, by have := HK1.out; omega, HL3.out, fun p hp1 hp2 => by
                    by_cases e : p = k
                    · subst e
                      rw [HY.out]
                      exact Int.le_of_lt (ltB_yes HLT.out)
                    · exact HTq.out p (by have := HK1.out; omega) hp2⟩

                case measure => have := HK1.out; simp [intOf]; omega

            · go_wp2_with fail
              go_quiet (fail)
              have HL3 := hide (HLq.out.drewN nq)
              go_wp2_with fail
              go_meet
              exact ⟨k, rfl, hk1r, hk2r, HL3.out, HTq.out, .inl (by omega)⟩
        case rest =>
          obtain ⟨j2, rfl, hj1, hj2, HLb, HGb, HSb⟩ := hcut
          clear HLa HG
          by_cases hij : i2 ≤ j2
          · have hlt : i2 < j2 := by
              have h1 := HSa.out
              have h2 := HSb.out
              rcases h1 with h1 | h1
              · omega
              · rcases h2 with h2 | h2
                · omega
                · by_cases e : i2 = j2
                  · subst e; omega
                  · omega
            have hxi : x ≤ nth l2 i2 := by
              rcases HSa.out with h1 | h1
              · omega
              · omega
            have hxj : nth l2 j2 ≤ x := by
              rcases HSb.out with h1 | h1
              · omega
              · omega
            have HPS := hide (part_swap (l := l2) (a := a) (b := b) (by omega) hlt (by omega) (by rw [HLb.out.own.len]; exact hbn) HV.out HTa.out HGb.out hxi hxj)
            clear hxi hxj
            obtain ⟨j3, hj3⟩ : ∃ j3, j2 - 1 = j3 := ⟨_, rfl⟩
            have e3 : IntKind.i64.wrap ((j2 : Int) - 1) = (j3 : Int) := by rw [IntWalk.i64_in _ (by omega)]; omega
            rw [hj3] at HPS
            have hj32 : j3 + 1 = j2 := by omega
            clear hj3
            obtain ⟨ci, fi⟩ := HLb.out.own.at_ (j := i2) (by omega)
            obtain ⟨cj, fj⟩ := HLb.out.own.at_ (j := j2) (by omega)
            have HXz := hide (HLb.out.swap (i := i2) (j := j2) (by omega) (by omega) (by omega) (by omega) hbn)
            have hne : i2 ≠ j2 := by omega
            go_wp2_with fail
            go_region
            clear ci cj fi fj
            go_wp2_with fail
            clear e3
            go_roundw
            case rel => exact ⟨i2 + 1, j3, swapL l2 i2 j2, by go_num, rfl, by omega, by omega, by omega, HXz.out, HPS.out.1, HPS.out.2.1, HPS.out.2.2⟩
            case measure => simp [intOf]; omega

          · have HD := hide (show ∀ p, a ≤ p → p < i2 → nth l2 p ≤ x from fun p h1 h2 => by
              by_cases e : p = a
              · rw [e, HV.out]; exact Int.le_refl _
              · exact HTa.out p (by omega) h2)
            have HE := hide (show ∀ p, i2 ≤ p → p < b → x ≤ nth l2 p from fun p h1 h2 => HGb.out p (by omega) h2)
            go_wp2_with fail
            go_ret
            exact ⟨i2, l2, rfl, by omega, by omega, HLb.out, by rw [HXX.out]; exact HD.out, by rw [HXX.out]; exact HE.out⟩
end Go.Proofs.Ytchcpeenpijekaa

/- Go's sort of runes, walked: partialInsertionSortOrdered. -/
namespace Go.Proofs.Ytchcpeenpijekaa
open Go.RowKit
set_option linter.unusedVariables false

theorem Asc.more {l : List Int} {a k p : Nat} (h : Asc l a k) (hk : k = p + 1) (hle : nth l p ≤ nth l k) : Asc l a (k + 1) := fun i j h1 h2 h3 => by
  by_cases e : j = k
  · subst e
    by_cases e2 : i = p
    · rw [e2]; exact hle
    · exact Int.le_trans (h i p h1 (by omega) (by omega)) hle
  · exact h i j h1 h2 (by omega)
theorem Asc.swapped {l : List Int} {a k i j : Nat} (h : Asc l a k) (hi : k ≤ i) (hj : k ≤ j) (hil : i < l.length) (hjl : j < l.length) : Asc (swapL l i j) a k :=
  h.same fun q h1 h2 => by rw [swapL_nth hil hjl, if_neg (by omega), if_neg (by omega)]

set_option maxRecDepth 100000 in
set_option maxHeartbeats 4000000 in
theorem partial_any (g B n c a b : Nat) (l : List Int) (w : World) (h : Own w B (some ⟨g, 0, none⟩) n c l) (hab : a < b) (hbn : b ≤ n) (hn : n ≤ 1000000) (hlo : Lo l a b) :
    Calls Try.prog 93 #[.slice (some ⟨g, 0, none⟩) n c, .int .i64 (a : Int), .int .i64 (b : Int)] w fun e w' => ∃ (t : Bool) (l' : List Int), e = .returned (.bool t) ∧ Srt w w' B g n c a b l l' ∧ (t = true → Asc l' a b) := by
  have HR := hide (Srt.refl h a b)
  have HLo := hide hlo
  have e0 : IntKind.i64.wrap ((b : Int) - (a : Int)) = (b : Int) - (a : Int) := IntWalk.i64_in _ (by omega)
  clear h hlo
  go_enter Try.func93, Try.ntmps93
  go_wp2_with fail
  go_loopw [7, 8] (fun vi vj wr => ∃ (i j : Nat) (l1 : List Int), vi = .int .i64 i ∧ vj = .int .i64 j ∧ a < i ∧ i ≤ b ∧ j ≤ 5 ∧ Hid (Srt w wr B g n c a b l l1) ∧ Hid (Asc l1 a i)) (fun _ vj _ => (5 - intOf vj).toNat)
  case atStart => exact ⟨a + 1, 0, l, by go_num, rfl, by omega, by omega, by omega, HR.out, Asc.small (by omega)⟩
  case round =>
    obtain ⟨i0, j0, l1, rfl, rfl, hai0, hib0, hj5, HL, HA⟩ := hrel
    by_cases hj0 : j0 < 5
    · go_upto_block 2 with fail
      go_cut [7] (fun vi wx => ∃ (i : Nat), vi = .int .i64 i ∧ a < i ∧ i ≤ b ∧ Hid (Srt w wx B g n c a b l l1) ∧ Hid (Asc l1 a i))
      case first =>
        go_wp2_with fail
        go_loopw [7] (fun vi wx => ∃ (i : Nat), vi = .int .i64 i ∧ a < i ∧ i ≤ b ∧ Hid (Srt w wx B g n c a b l l1) ∧ Hid (Asc l1 a i)) (fun vi _ => (b - intOf vi).toNat)
        case atStart => exact ⟨i0, rfl, hai0, hib0, HL.out, HA.out⟩
        case round =>
          obtain ⟨i, rfl, hai, hib, HL2, HA2⟩ := hrel
          by_cases hlt : i < b
          · obtain ⟨p, hp⟩ : ∃ p, i = p + 1 := ⟨i - 1, by omega⟩
            have HP := hide hp
            have e1 : IntKind.i64.wrap ((i : Int) - 1) = (p : Int) := by rw [IntWalk.i64_in _ (by omega)]; omega
            have hin : i < n := by omega
            have hpn : p < n := by omega
            clear hp
            obtain ⟨ci, -⟩ := HL2.out.own.at_ (j := i) hin
            obtain ⟨cp, -⟩ := HL2.out.own.at_ (j := p) hpn
            obtain ⟨x, hx⟩ : ∃ x, nth l1 i = x := ⟨_, rfl⟩
            obtain ⟨y, hy⟩ : ∃ y, nth l1 p = y := ⟨_, rfl⟩
            rw [hx] at ci
            rw [hy] at cp
            have HXY := hide (And.intro hx hy)
            clear hx hy e0
            cases hlt2 : ltB x y
            · have HLT := hide hlt2
              clear hlt2
              go_wp2_with fail
              go_quiet ((go_at_call 94; exact Calls.quiet_of_same ((less_no x y _ (by have := ltB_no HLT.out; omega)).mono fun e w' h => ⟨h.1, h.2.symm⟩)))
              have HL3 := hide (HL2.out.drewN nq)
              clear ci cp
              go_wp2_with fail
              clear e1
              go_roundw
              case rel => exact ⟨i + 1, by go_num, by omega, by omega, HL3.out, HA2.out.more HP.out (by rw [HXY.out.1, HXY.out.2]; exact ltB_no HLT.out)⟩
              case measure => simp [intOf]; omega
            · have HLT := hide hlt2
              clear hlt2
              go_wp2_with fail
              go_quiet ((go_at_call 94; exact Calls.quiet_of_same ((less_yes x y _ (ltB_yes HLT.out)).mono fun e w' h => ⟨h.1, h.2.symm⟩)))
              have HL3 := hide (HL2.out.drewN nq)
              clear ci cp
              go_wp2_with fail
              go_meet
              exact ⟨i, rfl, hai, hib, HL3.out, HA2.out⟩
          · clear e0
            go_wp2_with fail
            go_quiet (fail)
            have HL3 := hide (HL2.out.drewN nq)
            go_wp2_with fail
            go_meet
            exact ⟨i, rfl, hai, hib, HL3.out, HA2.out⟩
      case rest =>
        obtain ⟨i, rfl, hai, hib, HL2, HA2⟩ := hcut
        clear HL HA hai0 hib0
        by_cases hib2 : i = b
        · have d0 : ((i : Int) == (b : Int)) = true := by simp [hib2]
          have HA3 := hide (show Asc l1 a b from hib2 ▸ HA2.out)
          clear hib2
          go_wp2_with fail
          go_ret
          exact ⟨true, l1, rfl, HL2.out, fun _ => HA3.out⟩
        · have d0 : ((i : Int) == (b : Int)) = false := by simp; omega
          have hlt : i < b := by omega
          clear hib2 hib
          by_cases h50 : (b : Int) - (a : Int) < 50
          · go_wp2_with fail
            go_ret
            exact ⟨false, l1, rfl, HL2.out, fun e => by cases e⟩
          · obtain ⟨p, hp⟩ : ∃ p, i = p + 1 := ⟨i - 1, by omega⟩
            have HP := hide hp
            have e1 : IntKind.i64.wrap ((i : Int) - 1) = (p : Int) := by rw [IntWalk.i64_in _ (by omega)]; omega
            have hin : i < n := by omega
            have hpn : p < n := by omega
            have hip : i ≠ p := by omega
            have hpi : p < i := by omega
            have hap : a ≤ p := by omega
            clear hp
            obtain ⟨ci, fi⟩ := HL2.out.own.at_ (j := i) hin
            obtain ⟨cp, fp⟩ := HL2.out.own.at_ (j := p) hpn
            have HX := hide (HL2.out.swap (i := i) (j := p) (by omega) hlt hap (by omega) hbn)
            have HA3 := hide ((HA2.out.narrow (Nat.le_refl _) (Nat.le_of_lt hpi)).swapped (i := i) (j := p) (Nat.le_of_lt hpi) (Nat.le_refl _) (by rw [HL2.out.own.len]; exact hin) (by rw [HL2.out.own.len]; exact hpn))
            go_wp2_with fail
            go_region
            clear ci cp fi fp HL2 HA2 d0
            obtain ⟨l2, hl2⟩ : ∃ l2, swapL l1 i p = l2 := ⟨_, rfl⟩
            rw [hl2] at HX HA3
            clear hl2
            generalize hww : World.drew _ = w2 at HX ⊢
            clear hww
            go_upto_if 61 with fail
            go_cut [9] (fun _ wx => ∃ l3, Hid (Srt w wx B g n c a b l l3) ∧ Hid (Asc l3 a i))
            case first =>
              by_cases h2 : 2 ≤ (i : Int) - (a : Int)
              · have d2 : decide (2 ≤ (i : Int) - (a : Int)) = true := by simp; omega
                go_wp2_with fail
                clear e1
                go_loopw [9] (fun vj wx => ∃ (j : Nat) (l3 : List Int), vj = .int .i64 j ∧ a ≤ j ∧ j ≤ p ∧ Hid (Srt w wx B g n c a b l l3) ∧ Hid (Ins l3 a p j)) (fun vj _ => (intOf vj).toNat)
                case atStart => exact ⟨p, l2, rfl, hap, Nat.le_refl _, HX.out, Ins.start HA3.out⟩
                case round =>
                  obtain ⟨j, l3, rfl, haj, hjp, HL3, HD⟩ := hrel
                  have HOUT := hide (fun (hst : j = a ∨ nth l3 (j - 1) ≤ nth l3 j) => show Asc l3 a i from by
                    rw [HP.out]
                    exact HD.out.stop hjp haj hst)
                  by_cases hj1 : 1 ≤ j
                  · obtain ⟨k, hk⟩ : ∃ k, j = k + 1 := ⟨j - 1, by omega⟩
                    have HK := hide hk
                    have e3 : IntKind.i64.wrap ((j : Int) - 1) = (k : Int) := by rw [IntWalk.i64_in _ (by omega)]; omega
                    have hjn : j < n := by omega
                    have hkn : k < n := by omega
                    have hjk : j ≠ k := by omega
                    rw [show j - 1 = k by omega] at HOUT
                    have d3 : decide ((1 : Int) ≤ (j : Int)) = true := by simp; omega
                    clear hk
                    obtain ⟨cj, fj⟩ := HL3.out.own.at_ (j := j) hjn
                    obtain ⟨ck, fk⟩ := HL3.out.own.at_ (j := k) hkn
                    obtain ⟨x, hx⟩ : ∃ x, nth l3 j = x := ⟨_, rfl⟩
                    obtain ⟨y, hy⟩ : ∃ y, nth l3 k = y := ⟨_, rfl⟩
                    rw [hx] at cj
                    rw [hy] at ck
                    have HXY := hide (And.intro hx hy)
                    clear hx hy
                    cases hlt2 : ltB x y
                    · have HLT := hide hlt2
                      clear hlt2
                      have HO := hide (HOUT.out (.inr (by rw [HXY.out.1, HXY.out.2]; exact ltB_no HLT.out)))
                      go_wp2_with fail
                      go_quiet ((go_at_call 94; exact Calls.quiet_of_same ((less_no x y _ (by have := ltB_no HLT.out; omega)).mono fun e w' h => ⟨h.1, h.2.symm⟩)))
                      have HL4 := hide (HL3.out.drewN nq)
                      clear cj ck fj fk
                      go_wp2_with fail
                      go_meet
                      exact ⟨l3, HL4.out, HO.out⟩
                    · have HLT := hide hlt2
                      clear hlt2
                      have hak : a ≤ k := by
                        rcases Nat.lt_or_ge k a with hka | hka
                        · exfalso
                          have h1 := HLo.out.pm HL3.out.pm
                          have h2 := HK.out
                          have h3 := ltB_yes HLT.out
                          rcases h1 with h1 | h1
                          · omega
                          · have := h1 j (by omega) (by omega)
                            rw [show a - 1 = k by omega, HXY.out.1, HXY.out.2] at this
                            omega
                        · exact hka
                      go_wp2_with fail
                      go_quiet ((go_at_call 94; exact Calls.quiet_of_same ((less_yes x y _ (ltB_yes HLT.out)).mono fun e w' h => ⟨h.1, h.2.symm⟩)))
                      have HL4 := hide (HL3.out.drewN nq)
                      have hd := HD.out
                      rw [HK.out] at hd
                      have HD2 := hide (hd.step hak (by have := HK.out; omega) (by rw [HL3.out.own.len]; exact hpn) (by rw [← HK.out, HXY.out.1, HXY.out.2]; exact ltB_yes HLT.out))
                      rw [← HK.out] at HD2
                      have HX4 := hide (HL4.out.swap (i := j) (j := k) haj (by omega) hak (by have := HK.out; omega) hbn)
                      rw [HXY.out.1, HXY.out.2] at HX4
                      obtain ⟨wz, hwz⟩ : ∃ wz, wz = wr.drewN nq := ⟨_, rfl⟩
                      have cj2 : wz.cell? ⟨g, j, none⟩ = some (.int .i32 x) := by rw [hwz]; exact cj
                      have cp2 : wz.cell? ⟨g, k, none⟩ = some (.int .i32 y) := by rw [hwz]; exact ck
                      have fj2 : wz.frozen? ⟨g, j, none⟩ = false := by rw [hwz]; exact fj
                      have fp2 : wz.frozen? ⟨g, k, none⟩ = false := by rw [hwz]; exact fk
                      rw [← hwz] at HX4 ⊢
                      clear hwz cj ck fj fk hd HL4
                      go_wp2_with fail
                      go_region
                      go_wp2_with fail
                      clear e3
                      go_roundw
                      case rel => exact ⟨k, swapL l3 j k, rfl, hak, by have := HK.out; omega, HX4.out, HD2.out⟩
                      case measure => have := HK.out; simp [intOf]; omega
                  · have hj0 : j = 0 := by omega
                    have d3 : decide ((1 : Int) ≤ (j : Int)) = false := by simp; omega
                    have HO := hide (HOUT.out (.inl (by omega)))
                    clear hj0
                    go_wp2_with fail
                    go_meet
                    exact ⟨l3, HL3.out, HO.out⟩
              · have d2 : decide (2 ≤ (i : Int) - (a : Int)) = false := by simp; omega
                have hia : i ≤ a + 1 := by omega
                go_wp2_with fail
                go_meet
                exact ⟨l2, HX.out, Asc.small hia⟩
            case rest =>
              obtain ⟨l3, HL3, HA4⟩ := hcut
              clear HX HA3
              go_upto_if 98 with fail
              by_cases h2 : 2 ≤ (b : Int) - (i : Int)
              · have d2 : decide (2 ≤ (b : Int) - (i : Int)) = true := by simp; omega
                go_wp2_with fail
                clear e1
                go_loopw [10] (fun vj wx => ∃ (j : Nat) (l4 : List Int), vj = .int .i64 j ∧ i < j ∧ j ≤ b ∧ Hid (Srt w wx B g n c a b l l4) ∧ Hid (Asc l4 a i)) (fun vj _ => (b - intOf vj).toNat)
                case atStart => exact ⟨i + 1, l3, by go_num, by omega, by omega, HL3.out, HA4.out⟩
                case round =>
                  obtain ⟨j, l4, rfl, hij, hjb, HL4, HA5⟩ := hrel
                  by_cases hj1 : j < b
                  · obtain ⟨k, hk⟩ : ∃ k, j = k + 1 := ⟨j - 1, by omega⟩
                    have HK := hide hk
                    have e3 : IntKind.i64.wrap ((j : Int) - 1) = (k : Int) := by rw [IntWalk.i64_in _ (by omega)]; omega
                    have hjn : j < n := by omega
                    have hkn : k < n := by omega
                    have hjk : j ≠ k := by omega
                    have hik : i ≤ k := by omega
                    clear hk
                    obtain ⟨cj, fj⟩ := HL4.out.own.at_ (j := j) hjn
                    obtain ⟨ck, fk⟩ := HL4.out.own.at_ (j := k) hkn
                    obtain ⟨x, hx⟩ : ∃ x, nth l4 j = x := ⟨_, rfl⟩
                    obtain ⟨y, hy⟩ : ∃ y, nth l4 k = y := ⟨_, rfl⟩
                    rw [hx] at cj
                    rw [hy] at ck
                    have HXY := hide (And.intro hx hy)
                    clear hx hy
                    cases hlt2 : ltB x y
                    · have HLT := hide hlt2
                      clear hlt2
                      go_wp2_with fail
                      go_quiet ((go_at_call 94; exact Calls.quiet_of_same ((less_no x y _ (by have := ltB_no HLT.out; omega)).mono fun e w' h => ⟨h.1, h.2.symm⟩)))
                      have HL5 := hide (HL4.out.drewN nq)
                      clear cj ck fj fk
                      go_wp2_with fail
                      go_roundw
                      case rel => exact ⟨i, j0 + 1, l4, rfl, by go_num, hai, by omega, by omega, HL5.out, HA5.out⟩
                      case measure => simp [intOf]; omega
                    · have HLT := hide hlt2
                      clear hlt2
                      go_wp2_with fail
                      go_quiet ((go_at_call 94; exact Calls.quiet_of_same ((less_yes x y _ (ltB_yes HLT.out)).mono fun e w' h => ⟨h.1, h.2.symm⟩)))
                      have HL5 := hide (HL4.out.drewN nq)
                      have HA6 := hide (HA5.out.swapped (i := j) (j := k) (Nat.le_of_lt hij) hik (by rw [HL4.out.own.len]; exact hjn) (by rw [HL4.out.own.len]; exact hkn))
                      have HX4 := hide (HL5.out.swap (i := j) (j := k) (by omega) hj1 (by omega) (by have := HK.out; omega) hbn)
                      rw [HXY.out.1, HXY.out.2] at HX4
                      obtain ⟨wz, hwz⟩ : ∃ wz, wz = wr.drewN nq := ⟨_, rfl⟩
                      have cj2 : wz.cell? ⟨g, j, none⟩ = some (.int .i32 x) := by rw [hwz]; exact cj
                      have cp2 : wz.cell? ⟨g, k, none⟩ = some (.int .i32 y) := by rw [hwz]; exact ck
                      have fj2 : wz.frozen? ⟨g, j, none⟩ = false := by rw [hwz]; exact fj
                      have fp2 : wz.frozen? ⟨g, k, none⟩ = false := by rw [hwz]; exact fk
                      rw [← hwz] at HX4 ⊢
                      clear hwz cj ck fj fk HL5
                      go_wp2_with fail
                      go_region
                      go_wp2_with fail
                      clear e3
                      go_roundw
                      case rel => exact ⟨j + 1, swapL l4 j k, by go_num, by omega, by omega, HX4.out, HA6.out⟩
                      case measure => simp [intOf]; omega
                  · go_wp2_with fail
                    go_roundw
                    case rel => exact ⟨i, j0 + 1, l4, rfl, by go_num, hai, by omega, by omega, HL4.out, HA5.out⟩
                    case measure => simp [intOf]; omega
              · have d2 : decide (2 ≤ (b : Int) - (i : Int)) = false := by simp; omega
                go_wp2_with fail
                go_roundw
                case rel => exact ⟨i, j0 + 1, l3, rfl, by go_num, hai, by omega, by omega, HL3.out, HA4.out⟩
                case measure => simp [intOf]; omega
    · go_wp2_with fail
      go_ret
      exact ⟨false, l1, rfl, HL.out, fun e => by cases e⟩
end Go.Proofs.Ytchcpeenpijekaa
