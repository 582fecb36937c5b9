/- The walk of standishlaw5.ChangeLeast: it answers true. -/
import Derived.Test.YtjhnenljmmeflaaSame5
import Derived.Test.YtjhnenljmmeflaaKnown5
import Derived.Test.YtjhnenljmmeflaaRleast
import Derived.Test.YtjhnenljmmeflaaLeastP
namespace Go.Proofs.Ytjhnenljmmeflaa
open Go.RowKit
set_option linter.unusedVariables false

set_option maxHeartbeats 4000000 in
theorem least5_any (S T : Option Addr) (k d m e' : Nat) (s t : List Int) (w : World) (hS : Runes w S k s) (hT : Runes w T m t)
    (hk : k + 2 ≤ 35184372088832) (hm : m + 2 ≤ 35184372088832) (hd : k ≤ d) (hd2 : d ≤ 9223372036854775807) (he : m ≤ e') (he2 : e' ≤ 9223372036854775807) :
    Calls Try.prog 9 #[.slice S k d, .slice T m e'] w fun e w' => e = .returned (.bool true) ∧ Below w.heap.size w w' := by
  have hAl : ∀ (W : World) (o : Obj), Below W.heap.size W (W.alloc o) := fun W o => (Below.refl _ _).alloc (Nat.le_refl _) o
  have HAl := hide hAl
  have HS := hide hS
  have HT := hide hT
  clear hS hT hAl
  go_enter Try.func9, Try.ntmps9
  go_wp2_with fail
  refine (lend_any S k d s _ HS.out hk).mono ?_
  rintro e w1 ⟨g1, cx, rfl, hx, hb1⟩
  have HX := hide hx
  have HB1 := hide hb1
  clear hx hb1
  go_wp2_with fail
  refine (lend_any T m e' t _ (HT.out.below HB1.out) hm).mono ?_
  rintro e w2 ⟨g2, cy, rfl, hy, hb2⟩
  have HX2 := hide (HX.out.below hb2).runes
  have HY2 := hide hy.runes
  have HB2 := hide (HB1.out.trans (hb2.mono HB1.out.size))
  have hcx := HX.out.cap
  have hcy := hy.cap
  have HLX := hide (HX2.out.lent HS.out.len)
  have HLY := hide (HY2.out.lent HT.out.len)
  clear hy hb2 HX
  go_wp2_with fail
  refine (cleast_any _ _ k cx m cy s t _ HLX.out HLY.out (by omega) (by omega) (by omega) (by omega) (by omega) (by omega)).mono ?_
  rintro e w3 ⟨C, n, c, P, q, p, rfl, hC, hP, hap, hb3⟩
  have HC := hide hC
  have HP := hide hP
  have HAP := hide hap
  have HB3 := hide hb3
  have HBX := hide (Box.new w3 31 #[.int .i64 (leastA s t), .slice C n c, .slice P q p])
  have HW := hide (HAl.out w3 (.cells #[.int .i64 (leastA s t), .slice C n c, .slice P q p] 31))
  have HV := hide (hb3.trans (HW.out.mono hb3.size))
  have hln : (leastCut s t).length = n := hC.len
  have hlq : (leastPut s t).length = q := hP.len
  have HE := hide (@least_ends s t)
  have HLn := hide hln
  have HLq := hide hlq
  have HAPP := hide (@least_applies s t)
  have hnq : n ≤ k ∧ q ≤ m := by
    have h1 := leastCut_len s t
    have h2 := leastPut_len s t
    have h3 := HS.out.len
    have h4 := HT.out.len
    omega
  have HR := hide (fun W (hb : Below w2.heap.size w2 W) => rleast_any S T k d m e' s t W (HS.out.below (HB2.out.trans (hb.mono HB2.out.size))) (HT.out.below (HB2.out.trans (hb.mono HB2.out.size))) (by omega) (by omega) hd hd2 he he2)
  clear hC hP hap hb3 hln hlq
  have hxk : leastA s t ≤ k := by
    have := (leastA_le s t).1
    rw [HS.out.len] at this
    exact this
  obtain ⟨x, hx⟩ : ∃ x, leastA s t = x := ⟨_, rfl⟩
  obtain ⟨cut, hcut⟩ : ∃ x, leastCut s t = x := ⟨_, rfl⟩
  obtain ⟨put, hput⟩ : ∃ x, leastPut s t = x := ⟨_, rfl⟩
  have EA := hide hx
  have EC := hide hcut
  have EP := hide hput
  rw [hx] at HBX HW HV HAPP hxk ⊢
  simp only [hx, hcut, hput] at HC HLn HE HAPP HR HP HLq
  clear hx hcut hput
  obtain ⟨⟨l0, l1, l2⟩, _⟩ := HBX.out.c3
  go_wp2_with fail
  go_region_held3 (fun w' => w'.cell? ⟨w3.heap.size, 0, none⟩ = some (.int .i64 x) ∧ w'.cell? ⟨w3.heap.size, 1, none⟩ = some (.slice C n c) ∧ w'.cell? ⟨w3.heap.size, 2, none⟩ = some (.slice P q p))
    (first | go_keep)
    (first
     | (go_at_call 38; (with_reducible refine (HR.out _ HV.out.drew).mono ?_); rintro e w4 ⟨C', n', c', P', q', p', rfl, hC', hP', _, hb4⟩; obtain ⟨⟨f0, f1, f2⟩, _⟩ := (HBX.out.drew.below hb4).c3)
     | (go_at_call 37; (with_reducible refine (sameChange_yes x C P C' P' n c q p n' c' q' p' cut put w4 ((HC.out.runes.below (HW.out.drew)).below hb4) ((HP.out.runes.below (HW.out.drew)).below hb4) hC'.runes hP'.runes (by omega) (by omega)).mono ?_); rintro e w5 ⟨rfl, hb5⟩; obtain ⟨⟨f3, f4, f5⟩, _⟩ := ((HBX.out.drew.below hb4).below hb5).c3))
  have HBX5 := hide ((HBX.out.drew.below hb4).below hb5)
  have HC5 := hide (((HC.out.below HW.out).drew.below hb4).below hb5)
  have HP5 := hide (((HP.out.below HW.out).drew.below hb4).below hb5)
  have HV5 := hide ((HV.out.drew.trans (hb4.mono HV.out.size)).trans (hb5.mono (by have := HV.out.size; have := hb4.size; simp at *; omega)))
  clear hb4 hb5 HBX HC HP hC' hP'
  obtain ⟨⟨e0, e1, e2⟩, _⟩ := HBX5.out.c3
  have hgo : n = 0 ∨ (0 < n ∧ q = 0) ∨ (0 < n ∧ 0 < q) := by omega
  rcases hgo with hgo | hgo | hgo
  case' inl =>
    have b1 : decide (0 < n) = false := by simp; omega
    clear hgo
    go_wp2_with fail
    go_quiet (fail)
    go_wp2_with fail
    go_quiet (fail)
    go_wp2_with fail
  case' inr.inl =>
    have b1 : decide (0 < n) = true := by simpa using hgo.1
    have b2 : decide (0 < q) = false := by simp; omega
    clear hgo
    go_wp2_with fail
    go_quiet (fail)
    go_wp2_with fail
    go_quiet (fail)
    go_wp2_with fail
  case' inr.inr =>
    obtain ⟨g1', g2'⟩ := hgo
    have b1 : decide (0 < n) = true := by simpa using g1'
    have b2 : decide (0 < q) = true := by simpa using g2'
    obtain ⟨cb, co, hCe, c0⟩ := HC5.out.runes.at_ 0 g1'
    obtain ⟨pb, po, hPe, p0⟩ := HP5.out.runes.at_ 0 g2'
    obtain ⟨cb', co', hCe', c1⟩ := HC5.out.runes.at_ (n - 1) (by omega)
    obtain ⟨pb', po', hPe', p1⟩ := HP5.out.runes.at_ (q - 1) (by omega)
    subst hCe hPe
    cases hCe'
    cases hPe'
    rw [Nat.add_zero] at c0 p0
    have hne := HE.out (by rw [HLn.out]; exact g1') (by rw [HLq.out]; exact g2')
    rw [HLn.out, HLq.out] at hne
    have b3 : (nth cut 0 == nth put 0) = false := by simpa using hne.1
    have b4 : (nth cut (n - 1) == nth put (q - 1)) = false := by simpa using hne.2
    have i1 : (0 : Int) < (n : Int) := by omega
    have i2 : (0 : Int) < (q : Int) := by omega
    clear hne
    go_wp2_with fail
    go_quiet (fail)
    go_wp2_with fail
    go_quiet (fail)
    go_wp2_with fail
  all_goals
    refine (spoilC_any w2.heap.size x _ _ n c q p cut put _ (HC5.out.drewN _) (HP5.out.drewN _) HAP.out (by have := HV5.out.size; simpa using this)).mono ?_
    rintro e w6 ⟨rfl, hb6⟩
    have HV6 := hide ((below_drewN HV5.out _).trans hb6)
    have HW6 := hide (HB2.out.trans (HV6.out.mono HB2.out.size))
    clear hb6 HBX5 HC5 HP5 HV5
    go_wp2_with fail
    refine (kept_yes (some ⟨g1, 0, none⟩) S k cx d s _ (HX2.out.below HV6.out) (HS.out.below HW6.out) (by omega) (by omega)).mono ?_
    rintro e w7 ⟨rfl, r1, rfl⟩
    go_wp2_with fail
    refine (kept_yes (some ⟨g2, 0, none⟩) T m cy e' t _ ((HY2.out.below HV6.out).drewN _) ((HT.out.below HW6.out).drewN _) (by omega) (by omega)).mono ?_
    rintro e w7 ⟨rfl, r2, rfl⟩
    have HS7 := hide (fun j => (HS.out.below HW6.out).drewN j)
    have HT7 := hide (fun j => (HT.out.below HW6.out).drewN j)
    have HW7 := hide (fun j => below_drewN HW6.out j)
    clear HX2 HY2 HLX HLY HV6 HW6
    go_wp2_with fail
    refine (refMay_any S k d s _ (HS7.out _) (by omega)).mono ?_
    rintro e w7 ⟨rfl, rfl⟩
    cases hms : mayS s
    case' false => go_wp2_with fail
    case' true =>
      go_wp2_with fail
      refine (refMay_any T m e' t _ (HT7.out _) (by omega)).mono ?_
      rintro e w7 ⟨rfl, rfl⟩
      cases hmt : mayS t
      case' false => go_wp2_with fail
      case' true =>
        by_cases hk3 : k ≤ 1000
        case' neg =>
          have b7 : decide (k ≤ 1000) = false := by simpa using hk3
          go_wp2_with fail
        case' pos =>
          have b7 : decide (k ≤ 1000) = true := by simpa using hk3
          by_cases hm3 : m ≤ 1000
          case' neg =>
            have b8 : decide (m ≤ 1000) = false := by simpa using hm3
            go_wp2_with fail
          case' pos =>
            have b8 : decide (m ≤ 1000) = true := by simpa using hm3
            go_wp2_with fail
  all_goals
    first
    | (refine (known5_any _).mono ?_
       rintro e w8 ⟨rfl, hb8⟩
       have HF := hide ((HW7.out _).trans (hb8.mono (HW7.out _).size))
       clear hb8
       go_wp2_with fail
       go_ret
       exact ⟨rfl, HF.out⟩)
    | (refine (cleast_any S T k d m e' s t _ (HS7.out _) (HT7.out _) (by omega) (by omega) hd hd2 he he2).mono ?_
       rw [EA.out, EC.out, EP.out]
       rintro e w8 ⟨C3, n3, c3, P3, q3, p3, rfl, hC3, hP3, _, hb8⟩
       have hn3 := hC3.len
       have hq3 := hP3.len
       rw [HLn.out] at hn3
       rw [HLq.out] at hq3
       subst hn3 hq3
       have HC3 := hide hC3.runes
       have HP3 := hide hP3.runes
       have HB8 := hide hb8
       have HW8 := hide ((HW7.out _).trans (hb8.mono (HW7.out _).size))
       clear hC3 hP3 hb8
       go_wp2_with fail
       have hap := HAPP.out hms hmt (by rw [HS.out.len]; exact hk3) (by rw [HT.out.len]; exact hm3)
       refine (capply_any S k d x C3 P3 n c3 q p3 s cut put _ ((HS7.out _).below HB8.out) HC3.out HP3.out (by omega) (by omega) (by omega) hd hd2 (by omega)).mono ?_
       rw [hap.1, hap.2]
       rintro e w9 ⟨U, u, cU, rfl, hU, hb9⟩
       have hul := hU.len
       rw [HT.out.len] at hul
       subst hul
       have HU := hide hU.runes
       have HB9 := hide (HB8.out.trans (hb9.mono HB8.out.size))
       have HW9 := hide (HW8.out.trans (hb9.mono HW8.out.size))
       clear hU hb9 hap
       go_wp2_with fail
       refine (refSame_any U T m cU m e' t t _ HU.out ((HT7.out _).below HB9.out) (by omega) (by omega)).mono ?_
       rw [show sameS t t = true from by simp [sameS]]
       rintro e w10 ⟨rfl, r3, rfl⟩
       go_wp2_with fail
       refine (known5_any _).mono ?_
       rintro e w11 ⟨rfl, hb11⟩
       have HF := hide ((below_drewN HW9.out r3).trans (hb11.mono (below_drewN HW9.out r3).size))
       clear hb11
       go_wp2_with fail
       go_ret
       exact ⟨rfl, HF.out⟩)
end Go.Proofs.Ytjhnenljmmeflaa
