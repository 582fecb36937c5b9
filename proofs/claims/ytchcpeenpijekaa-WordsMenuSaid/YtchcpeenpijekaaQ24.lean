/- Pieces, joined: StmN. -/
import Derived.Test.YtchcpeenpijekaaQ23
import Derived.Deep.CutBlock
import Derived.Deep.DeepCutAuto

/- Go's slices.symMergeCmpFunc at items, by words.Menu's test: whatever the rows. -/
namespace Go.Proofs.Ytchcpeenpijekaa
open Go.RowKit
set_option linter.unusedVariables false
namespace Stm

/-- The search for the place where the halves are parted. -/
def ParR (f : Int → IV) (g B n c lo hi nn : Nat) (lt : Int → Int → Bool) (l : List Int) (w : World) (vs vr : Value) (wr : World) : Prop :=
  ∃ (s r : Nat), vs = .int .i64 s ∧ vr = .int .i64 r ∧ lo ≤ s ∧ s ≤ r ∧ r ≤ hi ∧ w.grownBy wr (some g) ∧ Hid (RowI f wr B (some ⟨g, 0, none⟩) n c l) ∧ Hid (∀ k, lo ≤ k → k < s → LtP lt (nth l k) (nth l (nn - 1 - k))) ∧ Hid (∀ k, r ≤ k → k < hi → LtP lt (nth l (nn - 1 - k)) (nth l k))
theorem ParR.mk {f : Int → IV} {g B n c lo hi nn : Nat} {lt : Int → Int → Bool} {l : List Int} {w wr : World} {vs vr : Value} (s r : Nat) (h1 : vs = .int .i64 s) (h2 : vr = .int .i64 r) (h3 : lo ≤ s) (h4 : s ≤ r) (h5 : r ≤ hi) (h6 : w.grownBy wr (some g)) (h7 : RowI f wr B (some ⟨g, 0, none⟩) n c l)
    (h8 : ∀ k, lo ≤ k → k < s → LtP lt (nth l k) (nth l (nn - 1 - k))) (h9 : ∀ k, r ≤ k → k < hi → LtP lt (nth l (nn - 1 - k)) (nth l k)) : ParR f g B n c lo hi nn lt l w vs vr wr := ⟨s, r, h1, h2, h3, h4, h5, h6, h7, h8, h9⟩
/-- .. when it is found. -/
def ParE (f : Int → IV) (g B n c lo hi nn : Nat) (lt : Int → Int → Bool) (l : List Int) (w : World) (vs : Value) (wr : World) : Prop :=
  ∃ (s : Nat), vs = .int .i64 s ∧ lo ≤ s ∧ s ≤ hi ∧ w.grownBy wr (some g) ∧ RowI f wr B (some ⟨g, 0, none⟩) n c l ∧ (∀ k, lo ≤ k → k < s → LtP lt (nth l k) (nth l (nn - 1 - k))) ∧ (∀ k, s ≤ k → k < hi → LtP lt (nth l (nn - 1 - k)) (nth l k))
/-- A row of the sort's that has turned in a part. -/
def TurnR (f : Int → IV) (g B n c : Nat) (Q : List Int → Prop) (w wr : World) : Prop := w.grownBy wr (some g) ∧ ∃ l1, RowI f wr B (some ⟨g, 0, none⟩) n c l1 ∧ Q l1

set_option maxRecDepth 100000 in
set_option maxHeartbeats 8000000 in
theorem symMerge_mid (f : Int → IV) (g : Nat) (lt : Int → Int → Bool) (hw : Weak lt) (R : World → Prop) (P : Int → Prop) (hc : Cmp f g lt R P) (B n c a m b N : Nat) (l : List Int) (w : World) (h : MergeA f g B n c a m b lt R P l w)
    (ham : a + 1 < m) (hmb : m + 1 < b) (hbn : b ≤ n) (hn : n ≤ 1000000) (hN : b - a ≤ N + 1)
    (hrec : ∀ (a m b : Nat) (l : List Int) (w : World), MergeA f g B n c a m b lt R P l w → a < m → m < b → b ≤ n → b - a ≤ N → Calls Try.prog 83 #[.slice (some ⟨g, 0, none⟩) n c, .int .i64 (a : Int), .int .i64 (m : Int), .int .i64 (b : Int), .func (.func 62) #[] #[]] w (MergeR f g B n c a b lt l w)) :
    Calls Try.prog 83 #[.slice (some ⟨g, 0, none⟩) n c, .int .i64 (a : Int), .int .i64 (m : Int), .int .i64 (b : Int), .func (.func 62) #[] #[]] w (MergeR f g B n c a b lt l w) := by
  have HA := hide h
  have HC := hide hc
  have HREC := hide hrec
  have HLEN := hide h.row.len
  have eg := Try.call62
  have t1 : ((m : Int) - (a : Int) == 1) = false := by simp; omega
  have t2 : ((b : Int) - (m : Int) == 1) = false := by simp; omega
  obtain ⟨mid, hmid⟩ : ∃ mid, (a + b) / 2 = mid := ⟨_, rfl⟩
  have HMID := hide hmid.symm
  have v0 : ((a : Int) + (b : Int)) / 2 = (mid : Int) := by omega
  have z1 : 2 * mid ≤ a + b := by omega
  have z2 : a + b ≤ 2 * mid + 1 := by omega
  obtain ⟨lo, hlo⟩ : ∃ lo, (if m > mid then mid + m - b else a) = lo := ⟨_, rfl⟩
  obtain ⟨hi, hhi⟩ : ∃ hi, (if m > mid then mid else m) = hi := ⟨_, rfl⟩
  have HLO := hide hlo
  have HHI := hide hhi
  have y1 : a ≤ lo := by split at hlo <;> omega
  have y2 : lo ≤ hi := by split at hlo <;> split at hhi <;> omega
  have y3 : hi ≤ m := by split at hhi <;> omega
  have y4 : hi ≤ mid := by split at hhi <;> omega
  have y5 : mid + m ≤ b + lo := by split at hlo <;> omega
  have HIF := hide (fun (e : m > mid) => show lo + b = mid + m ∧ hi = mid from by rw [if_pos e] at hlo hhi; omega)
  have HEL := hide (fun (e : ¬ m > mid) => show lo = a ∧ hi = m from by rw [if_neg e] at hlo hhi; omega)
  clear h hc hrec hmid hlo hhi
  go_enter Try.func83, Try.ntmps83
  go_upto_if 140 with fail
  go_cut [20, 21] (fun vs vr wx => vs = .int .i64 lo ∧ vr = .int .i64 hi ∧ w = wx)
  case first =>
    by_cases hgt : mid < m
    · obtain ⟨e1, e2⟩ := HIF.out hgt
      have d1 : (mid : Int) < (m : Int) := by omega
      have HE1 := hide (show (mid : Int) + (m : Int) - (b : Int) = (lo : Int) by omega)
      have HE2 := hide e2
      clear e1 e2
      go_wp2_with fail
      go_meet
      exact ⟨congrArg (Value.int .i64) HE1.out, by rw [HE2.out], rfl⟩
    · obtain ⟨e1, e2⟩ := HEL.out hgt
      have d1 : ¬ ((mid : Int) < (m : Int)) := by omega
      have HE1 := hide e1
      have HE2 := hide e2
      clear e1 e2
      go_wp2_with fail
      go_meet
      exact ⟨by rw [HE1.out], by rw [HE2.out], rfl⟩
  case rest =>
    obtain ⟨rfl, rfl, rfl⟩ := hcut
    go_upto_block 8 with fail
    go_cut [20] (fun vs wx => ParE f g B n c lo hi (mid + m) lt l w vs wx)
    case first =>
      go_wp2_with fail
      go_loopw [20, 21] (fun vs vr wr => ParR f g B n c lo hi (mid + m) lt l w vs vr wr) (fun vs vr _ => (intOf vr).toNat - (intOf vs).toNat)
      case atStart => exact ParR.mk lo hi rfl rfl (Nat.le_refl _) y2 (Nat.le_refl _) (World.grownBy.refl w _) HA.out.row (fun k h1 h2 => absurd h1 (by omega)) (fun k h1 h2 => absurd h1 (by omega))
      case round =>
        obtain ⟨i, j, rfl, rfl, hi1, hij, hj, hgr, HL, H1, H2⟩ := hrel
        have HG := hide hgr
        clear hgr
        by_cases hlt : i < j
        · have d1 : (i : Int) < (j : Int) := by omega
          obtain ⟨h, hh⟩ : ∃ h, (i + j) / 2 = h := ⟨_, rfl⟩
          have b1 : i ≤ h := by omega
          have b2 : h < j := by omega
          obtain ⟨k, hk⟩ : ∃ k, mid + m - 1 - h = k := ⟨_, rfl⟩
          have HK := hide hk
          have c1 : m ≤ k := by omega
          have c2 : k < b := by omega
          have c3 : k + h + 1 ≤ mid + m := by omega
          have c4 : mid + m ≤ k + h + 1 := by omega
          have v1 : ((i : Int) + (j : Int)) / 2 = (h : Int) := by omega
          have v2 : (mid : Int) + (m : Int) - 1 - (h : Int) = (k : Int) := by omega
          have v3 : IntKind.i64.wrap ((mid : Int) + (m : Int) - 1 - (h : Int)) = (k : Int) := by rw [IntWalk.i64_in _ (by omega)]; omega
          clear hk
          have HCALL := hide (fun W (hb : Below wr.heap.size wr W) => HC.out.call (nth l k) (nth l h) W (HC.out.goes _ _ (HC.out.goes _ _ HA.out.env HG.out) ⟨hb.os, hb.tape, hb.output, hb.size, fun u hu _ => hb.block u hu⟩) (HA.out.all _ (nth_mem (by rw [HLEN.out]; omega))) (HA.out.all _ (nth_mem (by rw [HLEN.out]; omega))))
          obtain ⟨cx, cxz, fx, fxz⟩ := HL.out.at_ (j := k) (by clear v3; omega)
          obtain ⟨cy, cyz, fy, fyz⟩ := HL.out.at_ (j := h) (by clear v3; omega)
          have nx : k < n := by clear v3; omega
          have ny : h < n := by clear v3; omega
          have x0 : (0 : Int) ≤ (k : Int) := by clear v3; omega
          have x1 : (k : Int) < (n : Int) := by clear v3; omega
          have y0 : (0 : Int) ≤ (h : Int) := by clear v3; omega
          have y1 : (h : Int) < (n : Int) := by clear v3; omega
          have HLOW := hide (show nth l h < nth l k from HA.out.cut h k (by clear v3; omega) (by clear v3; omega) c1 c2)
          clear hh
          go_wp2_with fail
          clear v1 v2
          go_region_held3 (fun w' => w'.cell? ⟨g, k * 2, none⟩ = some (.slice (f (nth l k)).A (f (nth l k)).n (f (nth l k)).c) ∧ w'.cell? ⟨g, k * 2 + 1, none⟩ = some (.int .i64 ((f (nth l k)).k : Nat)) ∧ w'.cell? ⟨g, h * 2, none⟩ = some (.slice (f (nth l h)).A (f (nth l h)).n (f (nth l h)).c) ∧ w'.cell? ⟨g, h * 2 + 1, none⟩ = some (.int .i64 ((f (nth l h)).k : Nat))) (first | go_keep)
            (first
             | (go_at_call 62; (with_reducible refine (HCALL.out _ (Below.refl _ _).drew).mono ?_); rintro e w5 ⟨v, rfl, hv, hb5⟩; have HL5 := hide (show RowI f w5 B (some ⟨g, 0, none⟩) n c l from RowG.below (RowG.drewN HL.out 1) hb5); have HG5 := hide (show w.grownBy w5 (some g) from (grown_drewN HG.out 1).trans ⟨hb5.os, hb5.tape, hb5.output, hb5.size, fun u hu _ => hb5.block u hu⟩); have HV := hide hv; clear hv hb5; obtain ⟨k1, k1z, _, _⟩ := HL5.out.at_ (j := k) nx; obtain ⟨k2, k2z, _, _⟩ := HL5.out.at_ (j := h) ny))
          clear k1 k2 k1z k2z cx cy cxz cyz fx fy fxz fyz x0 x1 y0 y1 HCALL
          clear v3
          cases hlt2 : lt (nth l k) (nth l h)
          · have hv := HV.out
            rw [hlt2] at hv
            have hv2 : ¬ (v < 0) := by simpa using hv
            have hv5 : (!decide (v < 0)) = true := by simp; omega
            have HP := hide ((LtP.up (lt := lt) HLOW.out).2 hlt2)
            clear hv hlt2
            go_wp2_with fail
            any_goals (first | (exact absurd (show (!decide (v < 0)) = false by assumption) (by rw [hv5]; simp)) | skip)
            go_roundw
            case rel => exact ParR.mk (h + 1) j (by first | rfl | go_num) rfl (by omega) (by omega) hj HG5.out HL5.out (fun x h1 h2 => by
              by_cases e : x = h
              · rw [e, HK.out]; exact HP.out
              · exact ((HA.out.left x h (by omega) (by omega) (by omega)).tr hw HP.out).tr hw (HA.out.right k _ c1 (by omega) (by omega))) H2.out
            case measure => simp [intOf]; omega
          · have hv := HV.out
            rw [hlt2] at hv
            have hv2 : v < 0 := by simpa using hv
            have hv5 : (!decide (v < 0)) = false := by simp; omega
            have HP := hide (show LtP lt (nth l k) (nth l h) from .inl hlt2)
            clear hv hlt2
            go_wp2_with fail
            any_goals (first | (exact absurd (show (!decide (v < 0)) = true by assumption) (by rw [hv5]; simp)) | skip)
            go_roundw
            case rel => exact ParR.mk i h rfl rfl hi1 b1 (by omega) HG5.out HL5.out H1.out (fun x h1 h2 => by
              by_cases e : x = h
              · rw [e, HK.out]; exact HP.out
              · exact ((HA.out.right _ k (by omega) (by omega) c2).tr hw HP.out).tr hw (HA.out.left h x (by omega) (by omega) (by omega)))
            case measure => simp [intOf]; omega
        · obtain rfl : i = j := by omega
          go_wp2_with fail
          go_meet
          exact ⟨i, rfl, hi1, hj, HG.out, HL.out, H1.out, H2.out⟩
    case rest =>
      obtain ⟨s, rfl, hs1, hs2, hgr, hrow, hp1, hp2⟩ := hcut
      have HG := hide hgr
      have HL := hide hrow
      have HP1 := hide hp1
      have HP2 := hide hp2
      clear hgr hrow hp1 hp2
      obtain ⟨en, hen⟩ : ∃ en, mid + m - s = en := ⟨_, rfl⟩
      have x1 : s + en ≤ mid + m := by omega
      have x2 : mid + m ≤ s + en := by omega
      have HENI := hide (show (mid : Int) + (m : Int) - (s : Int) = (en : Int) by omega)
      have HROT := hide (fun (l1 : List Int) (hr : Rot l l1 s m (mid + m - s)) => merge_parts hw (l := l) (l' := l1) (start := s) (mid := mid) (a := a) (m := m) (b := b) (by omega) (by omega) HMID.out HA.out.left HA.out.right HA.out.cut (by rw [HLO.out]; exact hs1) (by rw [HHI.out]; exact hs2) (by rw [HLO.out]; exact HP1.out) (by rw [HHI.out]; exact HP2.out) hr)
      rw [hen] at HROT
      clear hen
      have en0 := HENI.out
      have hsa : a ≤ s := by omega
      have hme : m ≤ en := by omega
      have hsm : s ≤ m := by omega
      have hse : s ≤ mid := by omega
      have hmd : mid ≤ en := by omega
      have heb : en ≤ b := by omega
      by_cases oa : s < m
      · by_cases ob : m < en
        · have osm1 : decide ((s : Int) < (m : Int)) = true := by simp; omega
          have osm2 : decide (s < m) = true := by simp; omega
          have osm3 : (s : Int) < (m : Int) := by omega
          have omen1 : decide ((m : Int) < (en : Int)) = true := by simp; omega
          have omen2 : decide (m < en) = true := by simp; omega
          have omen3 : (m : Int) < (en : Int) := by omega
          have HRT := hide (rotate_any f g B n c s m en l (.func (.func 62) #[] #[]) wc HL.out (by omega) (by omega) (by omega) hn)
          go_wp2_with fail
          refine HRT.out.mono ?_
          rintro e w1 ⟨rfl, hg1, l1, hr1, hrt⟩
          have HM := hide (HROT.out l1 hrt)
          have HG1 := hide (HG.out.trans hg1)
          have HL1 := hide hr1
          have HSUB1 := hide (show Sub a b l l1 from (hrt.sub (by omega) (by omega)).wider (by omega) (by omega))
          clear hg1 hr1 hrt HRT
          have HPA1 := hide (show ∀ x ∈ l1, P x from fun x hx => by
            obtain ⟨u, hu, rfl⟩ := mem_nth hx
            have hlen1 := HL1.out.len
            have hlen0 := HLEN.out
            by_cases e : a ≤ u ∧ u < b
            · obtain ⟨u2, _, _, e2⟩ := HSUB1.out.in_ u e.1 e.2
              rw [e2]
              exact HA.out.all _ (nth_mem (by omega))
            · rw [HSUB1.out.out u (by omega)]
              exact HA.out.all _ (nth_mem (by omega)))
          by_cases pa : a < s
          · by_cases pb : s < mid
            · have pas1 : decide ((a : Int) < (s : Int)) = true := by simp; omega
              have pas2 : decide (a < s) = true := by simp; omega
              have pas3 : (a : Int) < (s : Int) := by omega
              have psmid1 : decide ((s : Int) < (mid : Int)) = true := by simp; omega
              have psmid2 : decide (s < mid) = true := by simp; omega
              have psmid3 : (s : Int) < (mid : Int) := by omega
              go_wp2_with fail
              refine (HREC.out a s mid l1 _ ⟨HL1.out, HC.out.goes _ _ HA.out.env HG1.out, HPA1.out, HM.out.1, HM.out.2.1, HM.out.2.2.2.2.1⟩ (by omega) (by omega) (by omega) (by omega)).mono ?_
              rintro e w2 ⟨rfl, hg2, l2, hr2, hs2', ht2⟩
              have HG2 := hide (HG1.out.trans hg2)
              have HL2 := hide hr2
              have HSUBL := hide hs2'
              have HSRTL := hide ht2
              clear hg2 hr2 hs2' ht2
              have HS3 := hide (HM.out.2.2.1.out HSUBL.out (.inr (Nat.le_refl _)))
              have HS4 := hide (HM.out.2.2.2.1.out HSUBL.out (.inr (by omega)))
              have HCU2 := hide (show Cutl l2 mid en b from fun i j h1 h2 h3 h4 => by rw [HSUBL.out.out i (by omega), HSUBL.out.out j (by omega)]; exact HM.out.2.2.2.2.2.1 i j h1 h2 h3 h4)
              have HPA2 := hide (show ∀ x ∈ l2, P x from fun x hx => by
                obtain ⟨u, hu, rfl⟩ := mem_nth hx
                by_cases e : a ≤ u ∧ u < mid
                · obtain ⟨u2, _, _, e2⟩ := HSUBL.out.in_ u e.1 e.2
                  rw [e2]
                  exact HPA1.out _ (nth_mem (by have := HL1.out.len; omega))
                · rw [HSUBL.out.out u (by omega)]
                  exact HPA1.out _ (nth_mem (by have := HL1.out.len; have := HL2.out.len; omega)))
              by_cases ra : mid < en
              · by_cases rb : en < b
                · have rmiden1 : decide ((mid : Int) < (en : Int)) = true := by simp; omega
                  have rmiden2 : decide (mid < en) = true := by simp; omega
                  have rmiden3 : (mid : Int) < (en : Int) := by omega
                  have renb1 : decide ((en : Int) < (b : Int)) = true := by simp; omega
                  have renb2 : decide (en < b) = true := by simp; omega
                  have renb3 : (en : Int) < (b : Int) := by omega
                  go_wp2_with fail
                  refine (HREC.out mid en b l2 _ ⟨HL2.out, HC.out.goes _ _ HA.out.env HG2.out, HPA2.out, HS3.out, HS4.out, HCU2.out⟩ (by omega) (by omega) hbn (by omega)).mono ?_
                  rintro e w3 ⟨rfl, hg3, l3, hr3, hs3, ht3⟩
                  have HG3 := hide (HG2.out.trans hg3)
                  have HL3 := hide hr3
                  have HSUBR := hide hs3
                  have HSRTR := hide ht3
                  clear hg3 hr3 hs3 ht3
                  go_wp2_with fail
                  go_end0
                  exact ⟨rfl, HG3.out, l3, HL3.out, (HSUB1.out.trans (HSUBL.out.wider (Nat.le_refl _) (by omega))).trans (HSUBR.out.wider (by omega) (Nat.le_refl _)), merge_whole HM.out.2.2.2.2.2.2.1 HSUBL.out HSUBR.out HSRTL.out HSRTR.out (by omega) (by omega)⟩
                · have rmiden1 : decide ((mid : Int) < (en : Int)) = true := by simp; omega
                  have rmiden2 : decide (mid < en) = true := by simp; omega
                  have rmiden3 : (mid : Int) < (en : Int) := by omega
                  have renb1 : decide ((en : Int) < (b : Int)) = false := by simp; omega
                  have renb2 : decide (en < b) = false := by simp; omega
                  have renb3 : ¬ ((en : Int) < (b : Int)) := by omega
                  have HSUBR := hide (Sub.refl mid b l2)
                  have HSRTR := hide (show Srt lt l2 mid b from fun i j h1 h2 h3 => by
                    by_cases e : mid < en
                    · exact HS3.out i j h1 h2 (by omega)
                    · exact HS4.out i j (by omega) h2 h3)
                  go_wp2_with fail
                  go_end0
                  exact ⟨rfl, HG2.out, l2, HL2.out, (HSUB1.out.trans (HSUBL.out.wider (Nat.le_refl _) (by omega))).trans (HSUBR.out.wider (by omega) (Nat.le_refl _)), merge_whole HM.out.2.2.2.2.2.2.1 HSUBL.out HSUBR.out HSRTL.out HSRTR.out (by omega) (by omega)⟩
              · have rmiden1 : decide ((mid : Int) < (en : Int)) = false := by simp; omega
                have rmiden2 : decide (mid < en) = false := by simp; omega
                have rmiden3 : ¬ ((mid : Int) < (en : Int)) := by omega
                have HSUBR := hide (Sub.refl mid b l2)
                have HSRTR := hide (show Srt lt l2 mid b from fun i j h1 h2 h3 => by
                  by_cases e : mid < en
                  · exact HS3.out i j h1 h2 (by omega)
                  · exact HS4.out i j (by omega) h2 h3)
                go_wp2_with fail
                go_end0
                exact ⟨rfl, HG2.out, l2, HL2.out, (HSUB1.out.trans (HSUBL.out.wider (Nat.le_refl _) (by omega))).trans (HSUBR.out.wider (by omega) (Nat.le_refl _)), merge_whole HM.out.2.2.2.2.2.2.1 HSUBL.out HSUBR.out HSRTL.out HSRTR.out (by omega) (by omega)⟩
            · have pas1 : decide ((a : Int) < (s : Int)) = true := by simp; omega
              have pas2 : decide (a < s) = true := by simp; omega
              have pas3 : (a : Int) < (s : Int) := by omega
              have psmid1 : decide ((s : Int) < (mid : Int)) = false := by simp; omega
              have psmid2 : decide (s < mid) = false := by simp; omega
              have psmid3 : ¬ ((s : Int) < (mid : Int)) := by omega
              obtain ⟨l2, hl2⟩ : ∃ l2 : List Int, l1 = l2 := ⟨_, rfl⟩
              have HG2 := HG1
              have HL2 := HL1
              have HSUBL := hide (Sub.refl a mid l1)
              have HSRTL := hide (show Srt lt l1 a mid from fun i j h1 h2 h3 => by
                by_cases e : a < s
                · exact HM.out.1 i j h1 h2 (by omega)
                · exact HM.out.2.1 i j (by omega) h2 h3)
              rw [hl2] at HL2 HSRTL
              have hs3 := HSUBL.out
              conv at hs3 => arg 4; rw [hl2]
              have HSUBL := hide hs3
              clear hl2 hs3
              have HS3 := hide (HM.out.2.2.1.out HSUBL.out (.inr (Nat.le_refl _)))
              have HS4 := hide (HM.out.2.2.2.1.out HSUBL.out (.inr (by omega)))
              have HCU2 := hide (show Cutl l2 mid en b from fun i j h1 h2 h3 h4 => by rw [HSUBL.out.out i (by omega), HSUBL.out.out j (by omega)]; exact HM.out.2.2.2.2.2.1 i j h1 h2 h3 h4)
              have HPA2 := hide (show ∀ x ∈ l2, P x from fun x hx => by
                obtain ⟨u, hu, rfl⟩ := mem_nth hx
                by_cases e : a ≤ u ∧ u < mid
                · obtain ⟨u2, _, _, e2⟩ := HSUBL.out.in_ u e.1 e.2
                  rw [e2]
                  exact HPA1.out _ (nth_mem (by have := HL1.out.len; omega))
                · rw [HSUBL.out.out u (by omega)]
                  exact HPA1.out _ (nth_mem (by have := HL1.out.len; have := HL2.out.len; omega)))
              by_cases ra : mid < en
              · by_cases rb : en < b
                · have rmiden1 : decide ((mid : Int) < (en : Int)) = true := by simp; omega
                  have rmiden2 : decide (mid < en) = true := by simp; omega
                  have rmiden3 : (mid : Int) < (en : Int) := by omega
                  have renb1 : decide ((en : Int) < (b : Int)) = true := by simp; omega
                  have renb2 : decide (en < b) = true := by simp; omega
                  have renb3 : (en : Int) < (b : Int) := by omega
                  go_wp2_with fail
                  refine (HREC.out mid en b l2 _ ⟨HL2.out, HC.out.goes _ _ HA.out.env HG2.out, HPA2.out, HS3.out, HS4.out, HCU2.out⟩ (by omega) (by omega) hbn (by omega)).mono ?_
                  rintro e w3 ⟨rfl, hg3, l3, hr3, hs3, ht3⟩
                  have HG3 := hide (HG2.out.trans hg3)
                  have HL3 := hide hr3
                  have HSUBR := hide hs3
                  have HSRTR := hide ht3
                  clear hg3 hr3 hs3 ht3
                  go_wp2_with fail
                  go_end0
                  exact ⟨rfl, HG3.out, l3, HL3.out, (HSUB1.out.trans (HSUBL.out.wider (Nat.le_refl _) (by omega))).trans (HSUBR.out.wider (by omega) (Nat.le_refl _)), merge_whole HM.out.2.2.2.2.2.2.1 HSUBL.out HSUBR.out HSRTL.out HSRTR.out (by omega) (by omega)⟩
                · have rmiden1 : decide ((mid : Int) < (en : Int)) = true := by simp; omega
                  have rmiden2 : decide (mid < en) = true := by simp; omega
                  have rmiden3 : (mid : Int) < (en : Int) := by omega
                  have renb1 : decide ((en : Int) < (b : Int)) = false := by simp; omega
                  have renb2 : decide (en < b) = false := by simp; omega
                  have renb3 : ¬ ((en : Int) < (b : Int)) := by omega
                  have HSUBR := hide (Sub.refl mid b l2)
                  have HSRTR := hide (show Srt lt l2 mid b from fun i j h1 h2 h3 => by
                    by_cases e : mid < en
                    · exact HS3.out i j h1 h2 (by omega)
                    · exact HS4.out i j (by omega) h2 h3)
                  go_wp2_with fail
                  go_end0
                  exact ⟨rfl, HG2.out, l2, HL2.out, (HSUB1.out.trans (HSUBL.out.wider (Nat.le_refl _) (by omega))).trans (HSUBR.out.wider (by omega) (Nat.le_refl _)), merge_whole HM.out.2.2.2.2.2.2.1 HSUBL.out HSUBR.out HSRTL.out HSRTR.out (by omega) (by omega)⟩
              · have rmiden1 : decide ((mid : Int) < (en : Int)) = false := by simp; omega
                have rmiden2 : decide (mid < en) = false := by simp; omega
                have rmiden3 : ¬ ((mid : Int) < (en : Int)) := by omega
                have HSUBR := hide (Sub.refl mid b l2)
                have HSRTR := hide (show Srt lt l2 mid b from fun i j h1 h2 h3 => by
                  by_cases e : mid < en
                  · exact HS3.out i j h1 h2 (by omega)
                  · exact HS4.out i j (by omega) h2 h3)
                go_wp2_with fail
                go_end0
                exact ⟨rfl, HG2.out, l2, HL2.out, (HSUB1.out.trans (HSUBL.out.wider (Nat.le_refl _) (by omega))).trans (HSUBR.out.wider (by omega) (Nat.le_refl _)), merge_whole HM.out.2.2.2.2.2.2.1 HSUBL.out HSUBR.out HSRTL.out HSRTR.out (by omega) (by omega)⟩
          · have pas1 : decide ((a : Int) < (s : Int)) = false := by simp; omega
            have pas2 : decide (a < s) = false := by simp; omega
            have pas3 : ¬ ((a : Int) < (s : Int)) := by omega
            obtain ⟨l2, hl2⟩ : ∃ l2 : List Int, l1 = l2 := ⟨_, rfl⟩
            have HG2 := HG1
            have HL2 := HL1
            have HSUBL := hide (Sub.refl a mid l1)
            have HSRTL := hide (show Srt lt l1 a mid from fun i j h1 h2 h3 => by
              by_cases e : a < s
              · exact HM.out.1 i j h1 h2 (by omega)
              · exact HM.out.2.1 i j (by omega) h2 h3)
            rw [hl2] at HL2 HSRTL
            have hs3 := HSUBL.out
            conv at hs3 => arg 4; rw [hl2]
            have HSUBL := hide hs3
            clear hl2 hs3
            have HS3 := hide (HM.out.2.2.1.out HSUBL.out (.inr (Nat.le_refl _)))
            have HS4 := hide (HM.out.2.2.2.1.out HSUBL.out (.inr (by omega)))
            have HCU2 := hide (show Cutl l2 mid en b from fun i j h1 h2 h3 h4 => by rw [HSUBL.out.out i (by omega), HSUBL.out.out j (by omega)]; exact HM.out.2.2.2.2.2.1 i j h1 h2 h3 h4)
            have HPA2 := hide (show ∀ x ∈ l2, P x from fun x hx => by
              obtain ⟨u, hu, rfl⟩ := mem_nth hx
              by_cases e : a ≤ u ∧ u < mid
              · obtain ⟨u2, _, _, e2⟩ := HSUBL.out.in_ u e.1 e.2
                rw [e2]
                exact HPA1.out _ (nth_mem (by have := HL1.out.len; omega))
              · rw [HSUBL.out.out u (by omega)]
                exact HPA1.out _ (nth_mem (by have := HL1.out.len; have := HL2.out.len; omega)))
            by_cases ra : mid < en
            · by_cases rb : en < b
              · have rmiden1 : decide ((mid : Int) < (en : Int)) = true := by simp; omega
                have rmiden2 : decide (mid < en) = true := by simp; omega
                have rmiden3 : (mid : Int) < (en : Int) := by omega
                have renb1 : decide ((en : Int) < (b : Int)) = true := by simp; omega
                have renb2 : decide (en < b) = true := by simp; omega
                have renb3 : (en : Int) < (b : Int) := by omega
                go_wp2_with fail
                refine (HREC.out mid en b l2 _ ⟨HL2.out, HC.out.goes _ _ HA.out.env HG2.out, HPA2.out, HS3.out, HS4.out, HCU2.out⟩ (by omega) (by omega) hbn (by omega)).mono ?_
                rintro e w3 ⟨rfl, hg3, l3, hr3, hs3, ht3⟩
                have HG3 := hide (HG2.out.trans hg3)
                have HL3 := hide hr3
                have HSUBR := hide hs3
                have HSRTR := hide ht3
                clear hg3 hr3 hs3 ht3
                go_wp2_with fail
                go_end0
                exact ⟨rfl, HG3.out, l3, HL3.out, (HSUB1.out.trans (HSUBL.out.wider (Nat.le_refl _) (by omega))).trans (HSUBR.out.wider (by omega) (Nat.le_refl _)), merge_whole HM.out.2.2.2.2.2.2.1 HSUBL.out HSUBR.out HSRTL.out HSRTR.out (by omega) (by omega)⟩
              · have rmiden1 : decide ((mid : Int) < (en : Int)) = true := by simp; omega
                have rmiden2 : decide (mid < en) = true := by simp; omega
                have rmiden3 : (mid : Int) < (en : Int) := by omega
                have renb1 : decide ((en : Int) < (b : Int)) = false := by simp; omega
                have renb2 : decide (en < b) = false := by simp; omega
                have renb3 : ¬ ((en : Int) < (b : Int)) := by omega
                have HSUBR := hide (Sub.refl mid b l2)
                have HSRTR := hide (show Srt lt l2 mid b from fun i j h1 h2 h3 => by
                  by_cases e : mid < en
                  · exact HS3.out i j h1 h2 (by omega)
                  · exact HS4.out i j (by omega) h2 h3)
                go_wp2_with fail
                go_end0
                exact ⟨rfl, HG2.out, l2, HL2.out, (HSUB1.out.trans (HSUBL.out.wider (Nat.le_refl _) (by omega))).trans (HSUBR.out.wider (by omega) (Nat.le_refl _)), merge_whole HM.out.2.2.2.2.2.2.1 HSUBL.out HSUBR.out HSRTL.out HSRTR.out (by omega) (by omega)⟩
            · have rmiden1 : decide ((mid : Int) < (en : Int)) = false := by simp; omega
              have rmiden2 : decide (mid < en) = false := by simp; omega
              have rmiden3 : ¬ ((mid : Int) < (en : Int)) := by omega
              have HSUBR := hide (Sub.refl mid b l2)
              have HSRTR := hide (show Srt lt l2 mid b from fun i j h1 h2 h3 => by
                by_cases e : mid < en
                · exact HS3.out i j h1 h2 (by omega)
                · exact HS4.out i j (by omega) h2 h3)
              go_wp2_with fail
              go_end0
              exact ⟨rfl, HG2.out, l2, HL2.out, (HSUB1.out.trans (HSUBL.out.wider (Nat.le_refl _) (by omega))).trans (HSUBR.out.wider (by omega) (Nat.le_refl _)), merge_whole HM.out.2.2.2.2.2.2.1 HSUBL.out HSUBR.out HSRTL.out HSRTR.out (by omega) (by omega)⟩
        · have osm1 : decide ((s : Int) < (m : Int)) = true := by simp; omega
          have osm2 : decide (s < m) = true := by simp; omega
          have osm3 : (s : Int) < (m : Int) := by omega
          have omen1 : decide ((m : Int) < (en : Int)) = false := by simp; omega
          have omen2 : decide (m < en) = false := by simp; omega
          have omen3 : ¬ ((m : Int) < (en : Int)) := by omega
          have hrt : Rot l l s m en := ⟨rfl, fun _ _ => rfl, fun k hk => by congr 1; omega, fun k hk => by congr 1; omega⟩
          have hm0 := HROT.out l hrt
          have hsb : Sub a b l l := Sub.refl _ _ _
          obtain ⟨l1, hl1⟩ : ∃ l1 : List Int, l = l1 := ⟨_, rfl⟩
          have HL1 := HL
          rw [hl1] at HL1
          have HM := hide hm0
          rw [hl1] at HM
          conv at hsb => arg 4; rw [hl1]
          have HSUB1 := hide hsb
          have HG1 := HG
          clear hrt hm0 hsb hl1
          have HPA1 := hide (show ∀ x ∈ l1, P x from fun x hx => by
            obtain ⟨u, hu, rfl⟩ := mem_nth hx
            have hlen1 := HL1.out.len
            have hlen0 := HLEN.out
            by_cases e : a ≤ u ∧ u < b
            · obtain ⟨u2, _, _, e2⟩ := HSUB1.out.in_ u e.1 e.2
              rw [e2]
              exact HA.out.all _ (nth_mem (by omega))
            · rw [HSUB1.out.out u (by omega)]
              exact HA.out.all _ (nth_mem (by omega)))
          by_cases pa : a < s
          · by_cases pb : s < mid
            · have pas1 : decide ((a : Int) < (s : Int)) = true := by simp; omega
              have pas2 : decide (a < s) = true := by simp; omega
              have pas3 : (a : Int) < (s : Int) := by omega
              have psmid1 : decide ((s : Int) < (mid : Int)) = true := by simp; omega
              have psmid2 : decide (s < mid) = true := by simp; omega
              have psmid3 : (s : Int) < (mid : Int) := by omega
              go_wp2_with fail
              refine (HREC.out a s mid l1 _ ⟨HL1.out, HC.out.goes _ _ HA.out.env HG1.out, HPA1.out, HM.out.1, HM.out.2.1, HM.out.2.2.2.2.1⟩ (by omega) (by omega) (by omega) (by omega)).mono ?_
              rintro e w2 ⟨rfl, hg2, l2, hr2, hs2', ht2⟩
              have HG2 := hide (HG1.out.trans hg2)
              have HL2 := hide hr2
              have HSUBL := hide hs2'
              have HSRTL := hide ht2
              clear hg2 hr2 hs2' ht2
              have HS3 := hide (HM.out.2.2.1.out HSUBL.out (.inr (Nat.le_refl _)))
              have HS4 := hide (HM.out.2.2.2.1.out HSUBL.out (.inr (by omega)))
              have HCU2 := hide (show Cutl l2 mid en b from fun i j h1 h2 h3 h4 => by rw [HSUBL.out.out i (by omega), HSUBL.out.out j (by omega)]; exact HM.out.2.2.2.2.2.1 i j h1 h2 h3 h4)
              have HPA2 := hide (show ∀ x ∈ l2, P x from fun x hx => by
                obtain ⟨u, hu, rfl⟩ := mem_nth hx
                by_cases e : a ≤ u ∧ u < mid
                · obtain ⟨u2, _, _, e2⟩ := HSUBL.out.in_ u e.1 e.2
                  rw [e2]
                  exact HPA1.out _ (nth_mem (by have := HL1.out.len; omega))
                · rw [HSUBL.out.out u (by omega)]
                  exact HPA1.out _ (nth_mem (by have := HL1.out.len; have := HL2.out.len; omega)))
              by_cases ra : mid < en
              · by_cases rb : en < b
                · have rmiden1 : decide ((mid : Int) < (en : Int)) = true := by simp; omega
                  have rmiden2 : decide (mid < en) = true := by simp; omega
                  have rmiden3 : (mid : Int) < (en : Int) := by omega
                  have renb1 : decide ((en : Int) < (b : Int)) = true := by simp; omega
                  have renb2 : decide (en < b) = true := by simp; omega
                  have renb3 : (en : Int) < (b : Int) := by omega
                  go_wp2_with fail
                  refine (HREC.out mid en b l2 _ ⟨HL2.out, HC.out.goes _ _ HA.out.env HG2.out, HPA2.out, HS3.out, HS4.out, HCU2.out⟩ (by omega) (by omega) hbn (by omega)).mono ?_
                  rintro e w3 ⟨rfl, hg3, l3, hr3, hs3, ht3⟩
                  have HG3 := hide (HG2.out.trans hg3)
                  have HL3 := hide hr3
                  have HSUBR := hide hs3
                  have HSRTR := hide ht3
                  clear hg3 hr3 hs3 ht3
                  go_wp2_with fail
                  go_end0
                  exact ⟨rfl, HG3.out, l3, HL3.out, (HSUB1.out.trans (HSUBL.out.wider (Nat.le_refl _) (by omega))).trans (HSUBR.out.wider (by omega) (Nat.le_refl _)), merge_whole HM.out.2.2.2.2.2.2.1 HSUBL.out HSUBR.out HSRTL.out HSRTR.out (by omega) (by omega)⟩
                · have rmiden1 : decide ((mid : Int) < (en : Int)) = true := by simp; omega
                  have rmiden2 : decide (mid < en) = true := by simp; omega
                  have rmiden3 : (mid : Int) < (en : Int) := by omega
                  have renb1 : decide ((en : Int) < (b : Int)) = false := by simp; omega
                  have renb2 : decide (en < b) = false := by simp; omega
                  have renb3 : ¬ ((en : Int) < (b : Int)) := by omega
                  have HSUBR := hide (Sub.refl mid b l2)
                  have HSRTR := hide (show Srt lt l2 mid b from fun i j h1 h2 h3 => by
                    by_cases e : mid < en
                    · exact HS3.out i j h1 h2 (by omega)
                    · exact HS4.out i j (by omega) h2 h3)
                  go_wp2_with fail
                  go_end0
                  exact ⟨rfl, HG2.out, l2, HL2.out, (HSUB1.out.trans (HSUBL.out.wider (Nat.le_refl _) (by omega))).trans (HSUBR.out.wider (by omega) (Nat.le_refl _)), merge_whole HM.out.2.2.2.2.2.2.1 HSUBL.out HSUBR.out HSRTL.out HSRTR.out (by omega) (by omega)⟩
              · have rmiden1 : decide ((mid : Int) < (en : Int)) = false := by simp; omega
                have rmiden2 : decide (mid < en) = false := by simp; omega
                have rmiden3 : ¬ ((mid : Int) < (en : Int)) := by omega
                have HSUBR := hide (Sub.refl mid b l2)
                have HSRTR := hide (show Srt lt l2 mid b from fun i j h1 h2 h3 => by
                  by_cases e : mid < en
                  · exact HS3.out i j h1 h2 (by omega)
                  · exact HS4.out i j (by omega) h2 h3)
                go_wp2_with fail
                go_end0
                exact ⟨rfl, HG2.out, l2, HL2.out, (HSUB1.out.trans (HSUBL.out.wider (Nat.le_refl _) (by omega))).trans (HSUBR.out.wider (by omega) (Nat.le_refl _)), merge_whole HM.out.2.2.2.2.2.2.1 HSUBL.out HSUBR.out HSRTL.out HSRTR.out (by omega) (by omega)⟩
            · have pas1 : decide ((a : Int) < (s : Int)) = true := by simp; omega
              have pas2 : decide (a < s) = true := by simp; omega
              have pas3 : (a : Int) < (s : Int) := by omega
              have psmid1 : decide ((s : Int) < (mid : Int)) = false := by simp; omega
              have psmid2 : decide (s < mid) = false := by simp; omega
              have psmid3 : ¬ ((s : Int) < (mid : Int)) := by omega
              obtain ⟨l2, hl2⟩ : ∃ l2 : List Int, l1 = l2 := ⟨_, rfl⟩
              have HG2 := HG1
              have HL2 := HL1
              have HSUBL := hide (Sub.refl a mid l1)
              have HSRTL := hide (show Srt lt l1 a mid from fun i j h1 h2 h3 => by
                by_cases e : a < s
                · exact HM.out.1 i j h1 h2 (by omega)
                · exact HM.out.2.1 i j (by omega) h2 h3)
              rw [hl2] at HL2 HSRTL
              have hs3 := HSUBL.out
              conv at hs3 => arg 4; rw [hl2]
              have HSUBL := hide hs3
              clear hl2 hs3
              have HS3 := hide (HM.out.2.2.1.out HSUBL.out (.inr (Nat.le_refl _)))
              have HS4 := hide (HM.out.2.2.2.1.out HSUBL.out (.inr (by omega)))
              have HCU2 := hide (show Cutl l2 mid en b from fun i j h1 h2 h3 h4 => by rw [HSUBL.out.out i (by omega), HSUBL.out.out j (by omega)]; exact HM.out.2.2.2.2.2.1 i j h1 h2 h3 h4)
              have HPA2 := hide (show ∀ x ∈ l2, P x from fun x hx => by
                obtain ⟨u, hu, rfl⟩ := mem_nth hx
                by_cases e : a ≤ u ∧ u < mid
                · obtain ⟨u2, _, _, e2⟩ := HSUBL.out.in_ u e.1 e.2
                  rw [e2]
                  exact HPA1.out _ (nth_mem (by have := HL1.out.len; omega))
                · rw [HSUBL.out.out u (by omega)]
                  exact HPA1.out _ (nth_mem (by have := HL1.out.len; have := HL2.out.len; omega)))
              by_cases ra : mid < en
              · by_cases rb : en < b
                · have rmiden1 : decide ((mid : Int) < (en : Int)) = true := by simp; omega
                  have rmiden2 : decide (mid < en) = true := by simp; omega
                  have rmiden3 : (mid : Int) < (en : Int) := by omega
                  have renb1 : decide ((en : Int) < (b : Int)) = true := by simp; omega
                  have renb2 : decide (en < b) = true := by simp; omega
                  have renb3 : (en : Int) < (b : Int) := by omega
                  go_wp2_with fail
                  refine (HREC.out mid en b l2 _ ⟨HL2.out, HC.out.goes _ _ HA.out.env HG2.out, HPA2.out, HS3.out, HS4.out, HCU2.out⟩ (by omega) (by omega) hbn (by omega)).mono ?_
                  rintro e w3 ⟨rfl, hg3, l3, hr3, hs3, ht3⟩
                  have HG3 := hide (HG2.out.trans hg3)
                  have HL3 := hide hr3
                  have HSUBR := hide hs3
                  have HSRTR := hide ht3
                  clear hg3 hr3 hs3 ht3
                  go_wp2_with fail
                  go_end0
                  exact ⟨rfl, HG3.out, l3, HL3.out, (HSUB1.out.trans (HSUBL.out.wider (Nat.le_refl _) (by omega))).trans (HSUBR.out.wider (by omega) (Nat.le_refl _)), merge_whole HM.out.2.2.2.2.2.2.1 HSUBL.out HSUBR.out HSRTL.out HSRTR.out (by omega) (by omega)⟩
                · have rmiden1 : decide ((mid : Int) < (en : Int)) = true := by simp; omega
                  have rmiden2 : decide (mid < en) = true := by simp; omega
                  have rmiden3 : (mid : Int) < (en : Int) := by omega
                  have renb1 : decide ((en : Int) < (b : Int)) = false := by simp; omega
                  have renb2 : decide (en < b) = false := by simp; omega
                  have renb3 : ¬ ((en : Int) < (b : Int)) := by omega
                  have HSUBR := hide (Sub.refl mid b l2)
                  have HSRTR := hide (show Srt lt l2 mid b from fun i j h1 h2 h3 => by
                    by_cases e : mid < en
                    · exact HS3.out i j h1 h2 (by omega)
                    · exact HS4.out i j (by omega) h2 h3)
                  go_wp2_with fail
                  go_end0
                  exact ⟨rfl, HG2.out, l2, HL2.out, (HSUB1.out.trans (HSUBL.out.wider (Nat.le_refl _) (by omega))).trans (HSUBR.out.wider (by omega) (Nat.le_refl _)), merge_whole HM.out.2.2.2.2.2.2.1 HSUBL.out HSUBR.out HSRTL.out HSRTR.out (by omega) (by omega)⟩
              · have rmiden1 : decide ((mid : Int) < (en : Int)) = false := by simp; omega
                have rmiden2 : decide (mid < en) = false := by simp; omega
                have rmiden3 : ¬ ((mid : Int) < (en : Int)) := by omega
                have HSUBR := hide (Sub.refl mid b l2)
                have HSRTR := hide (show Srt lt l2 mid b from fun i j h1 h2 h3 => by
                  by_cases e : mid < en
                  · exact HS3.out i j h1 h2 (by omega)
                  · exact HS4.out i j (by omega) h2 h3)
                go_wp2_with fail
                go_end0
                exact ⟨rfl, HG2.out, l2, HL2.out, (HSUB1.out.trans (HSUBL.out.wider (Nat.le_refl _) (by omega))).trans (HSUBR.out.wider (by omega) (Nat.le_refl _)), merge_whole HM.out.2.2.2.2.2.2.1 HSUBL.out HSUBR.out HSRTL.out HSRTR.out (by omega) (by omega)⟩
          · have pas1 : decide ((a : Int) < (s : Int)) = false := by simp; omega
            have pas2 : decide (a < s) = false := by simp; omega
            have pas3 : ¬ ((a : Int) < (s : Int)) := by omega
            obtain ⟨l2, hl2⟩ : ∃ l2 : List Int, l1 = l2 := ⟨_, rfl⟩
            have HG2 := HG1
            have HL2 := HL1
            have HSUBL := hide (Sub.refl a mid l1)
            have HSRTL := hide (show Srt lt l1 a mid from fun i j h1 h2 h3 => by
              by_cases e : a < s
              · exact HM.out.1 i j h1 h2 (by omega)
              · exact HM.out.2.1 i j (by omega) h2 h3)
            rw [hl2] at HL2 HSRTL
            have hs3 := HSUBL.out
            conv at hs3 => arg 4; rw [hl2]
            have HSUBL := hide hs3
            clear hl2 hs3
            have HS3 := hide (HM.out.2.2.1.out HSUBL.out (.inr (Nat.le_refl _)))
            have HS4 := hide (HM.out.2.2.2.1.out HSUBL.out (.inr (by omega)))
            have HCU2 := hide (show Cutl l2 mid en b from fun i j h1 h2 h3 h4 => by rw [HSUBL.out.out i (by omega), HSUBL.out.out j (by omega)]; exact HM.out.2.2.2.2.2.1 i j h1 h2 h3 h4)
            have HPA2 := hide (show ∀ x ∈ l2, P x from fun x hx => by
              obtain ⟨u, hu, rfl⟩ := mem_nth hx
              by_cases e : a ≤ u ∧ u < mid
              · obtain ⟨u2, _, _, e2⟩ := HSUBL.out.in_ u e.1 e.2
                rw [e2]
                exact HPA1.out _ (nth_mem (by have := HL1.out.len; omega))
              · rw [HSUBL.out.out u (by omega)]
                exact HPA1.out _ (nth_mem (by have := HL1.out.len; have := HL2.out.len; omega)))
            by_cases ra : mid < en
            · by_cases rb : en < b
              · have rmiden1 : decide ((mid : Int) < (en : Int)) = true := by simp; omega
                have rmiden2 : decide (mid < en) = true := by simp; omega
                have rmiden3 : (mid : Int) < (en : Int) := by omega
                have renb1 : decide ((en : Int) < (b : Int)) = true := by simp; omega
                have renb2 : decide (en < b) = true := by simp; omega
                have renb3 : (en : Int) < (b : Int) := by omega
                go_wp2_with fail
                refine (HREC.out mid en b l2 _ ⟨HL2.out, HC.out.goes _ _ HA.out.env HG2.out, HPA2.out, HS3.out, HS4.out, HCU2.out⟩ (by omega) (by omega) hbn (by omega)).mono ?_
                rintro e w3 ⟨rfl, hg3, l3, hr3, hs3, ht3⟩
                have HG3 := hide (HG2.out.trans hg3)
                have HL3 := hide hr3
                have HSUBR := hide hs3
                have HSRTR := hide ht3
                clear hg3 hr3 hs3 ht3
                go_wp2_with fail
                go_end0
                exact ⟨rfl, HG3.out, l3, HL3.out, (HSUB1.out.trans (HSUBL.out.wider (Nat.le_refl _) (by omega))).trans (HSUBR.out.wider (by omega) (Nat.le_refl _)), merge_whole HM.out.2.2.2.2.2.2.1 HSUBL.out HSUBR.out HSRTL.out HSRTR.out (by omega) (by omega)⟩
              · have rmiden1 : decide ((mid : Int) < (en : Int)) = true := by simp; omega
                have rmiden2 : decide (mid < en) = true := by simp; omega
                have rmiden3 : (mid : Int) < (en : Int) := by omega
                have renb1 : decide ((en : Int) < (b : Int)) = false := by simp; omega
                have renb2 : decide (en < b) = false := by simp; omega
                have renb3 : ¬ ((en : Int) < (b : Int)) := by omega
                have HSUBR := hide (Sub.refl mid b l2)
                have HSRTR := hide (show Srt lt l2 mid b from fun i j h1 h2 h3 => by
                  by_cases e : mid < en
                  · exact HS3.out i j h1 h2 (by omega)
                  · exact HS4.out i j (by omega) h2 h3)
                go_wp2_with fail
                go_end0
                exact ⟨rfl, HG2.out, l2, HL2.out, (HSUB1.out.trans (HSUBL.out.wider (Nat.le_refl _) (by omega))).trans (HSUBR.out.wider (by omega) (Nat.le_refl _)), merge_whole HM.out.2.2.2.2.2.2.1 HSUBL.out HSUBR.out HSRTL.out HSRTR.out (by omega) (by omega)⟩
            · have rmiden1 : decide ((mid : Int) < (en : Int)) = false := by simp; omega
              have rmiden2 : decide (mid < en) = false := by simp; omega
              have rmiden3 : ¬ ((mid : Int) < (en : Int)) := by omega
              have HSUBR := hide (Sub.refl mid b l2)
              have HSRTR := hide (show Srt lt l2 mid b from fun i j h1 h2 h3 => by
                by_cases e : mid < en
                · exact HS3.out i j h1 h2 (by omega)
                · exact HS4.out i j (by omega) h2 h3)
              go_wp2_with fail
              go_end0
              exact ⟨rfl, HG2.out, l2, HL2.out, (HSUB1.out.trans (HSUBL.out.wider (Nat.le_refl _) (by omega))).trans (HSUBR.out.wider (by omega) (Nat.le_refl _)), merge_whole HM.out.2.2.2.2.2.2.1 HSUBL.out HSUBR.out HSRTL.out HSRTR.out (by omega) (by omega)⟩
      · have osm1 : decide ((s : Int) < (m : Int)) = false := by simp; omega
        have osm2 : decide (s < m) = false := by simp; omega
        have osm3 : ¬ ((s : Int) < (m : Int)) := by omega
        have hrt : Rot l l s m en := ⟨rfl, fun _ _ => rfl, fun k hk => by congr 1; omega, fun k hk => by congr 1; omega⟩
        have hm0 := HROT.out l hrt
        have hsb : Sub a b l l := Sub.refl _ _ _
        obtain ⟨l1, hl1⟩ : ∃ l1 : List Int, l = l1 := ⟨_, rfl⟩
        have HL1 := HL
        rw [hl1] at HL1
        have HM := hide hm0
        rw [hl1] at HM
        conv at hsb => arg 4; rw [hl1]
        have HSUB1 := hide hsb
        have HG1 := HG
        clear hrt hm0 hsb hl1
        have HPA1 := hide (show ∀ x ∈ l1, P x from fun x hx => by
          obtain ⟨u, hu, rfl⟩ := mem_nth hx
          have hlen1 := HL1.out.len
          have hlen0 := HLEN.out
          by_cases e : a ≤ u ∧ u < b
          · obtain ⟨u2, _, _, e2⟩ := HSUB1.out.in_ u e.1 e.2
            rw [e2]
            exact HA.out.all _ (nth_mem (by omega))
          · rw [HSUB1.out.out u (by omega)]
            exact HA.out.all _ (nth_mem (by omega)))
        by_cases pa : a < s
        · by_cases pb : s < mid
          · have pas1 : decide ((a : Int) < (s : Int)) = true := by simp; omega
            have pas2 : decide (a < s) = true := by simp; omega
            have pas3 : (a : Int) < (s : Int) := by omega
            have psmid1 : decide ((s : Int) < (mid : Int)) = true := by simp; omega
            have psmid2 : decide (s < mid) = true := by simp; omega
            have psmid3 : (s : Int) < (mid : Int) := by omega
            go_wp2_with fail
            refine (HREC.out a s mid l1 _ ⟨HL1.out, HC.out.goes _ _ HA.out.env HG1.out, HPA1.out, HM.out.1, HM.out.2.1, HM.out.2.2.2.2.1⟩ (by omega) (by omega) (by omega) (by omega)).mono ?_
            rintro e w2 ⟨rfl, hg2, l2, hr2, hs2', ht2⟩
            have HG2 := hide (HG1.out.trans hg2)
            have HL2 := hide hr2
            have HSUBL := hide hs2'
            have HSRTL := hide ht2
            clear hg2 hr2 hs2' ht2
            have HS3 := hide (HM.out.2.2.1.out HSUBL.out (.inr (Nat.le_refl _)))
            have HS4 := hide (HM.out.2.2.2.1.out HSUBL.out (.inr (by omega)))
            have HCU2 := hide (show Cutl l2 mid en b from fun i j h1 h2 h3 h4 => by rw [HSUBL.out.out i (by omega), HSUBL.out.out j (by omega)]; exact HM.out.2.2.2.2.2.1 i j h1 h2 h3 h4)
            have HPA2 := hide (show ∀ x ∈ l2, P x from fun x hx => by
              obtain ⟨u, hu, rfl⟩ := mem_nth hx
              by_cases e : a ≤ u ∧ u < mid
              · obtain ⟨u2, _, _, e2⟩ := HSUBL.out.in_ u e.1 e.2
                rw [e2]
                exact HPA1.out _ (nth_mem (by have := HL1.out.len; omega))
              · rw [HSUBL.out.out u (by omega)]
                exact HPA1.out _ (nth_mem (by have := HL1.out.len; have := HL2.out.len; omega)))
            by_cases ra : mid < en
            · by_cases rb : en < b
              · have rmiden1 : decide ((mid : Int) < (en : Int)) = true := by simp; omega
                have rmiden2 : decide (mid < en) = true := by simp; omega
                have rmiden3 : (mid : Int) < (en : Int) := by omega
                have renb1 : decide ((en : Int) < (b : Int)) = true := by simp; omega
                have renb2 : decide (en < b) = true := by simp; omega
                have renb3 : (en : Int) < (b : Int) := by omega
                go_wp2_with fail
                refine (HREC.out mid en b l2 _ ⟨HL2.out, HC.out.goes _ _ HA.out.env HG2.out, HPA2.out, HS3.out, HS4.out, HCU2.out⟩ (by omega) (by omega) hbn (by omega)).mono ?_
                rintro e w3 ⟨rfl, hg3, l3, hr3, hs3, ht3⟩
                have HG3 := hide (HG2.out.trans hg3)
                have HL3 := hide hr3
                have HSUBR := hide hs3
                have HSRTR := hide ht3
                clear hg3 hr3 hs3 ht3
                go_wp2_with fail
                go_end0
                exact ⟨rfl, HG3.out, l3, HL3.out, (HSUB1.out.trans (HSUBL.out.wider (Nat.le_refl _) (by omega))).trans (HSUBR.out.wider (by omega) (Nat.le_refl _)), merge_whole HM.out.2.2.2.2.2.2.1 HSUBL.out HSUBR.out HSRTL.out HSRTR.out (by omega) (by omega)⟩
              · have rmiden1 : decide ((mid : Int) < (en : Int)) = true := by simp; omega
                have rmiden2 : decide (mid < en) = true := by simp; omega
                have rmiden3 : (mid : Int) < (en : Int) := by omega
                have renb1 : decide ((en : Int) < (b : Int)) = false := by simp; omega
                have renb2 : decide (en < b) = false := by simp; omega
                have renb3 : ¬ ((en : Int) < (b : Int)) := by omega
                have HSUBR := hide (Sub.refl mid b l2)
                have HSRTR := hide (show Srt lt l2 mid b from fun i j h1 h2 h3 => by
                  by_cases e : mid < en
                  · exact HS3.out i j h1 h2 (by omega)
                  · exact HS4.out i j (by omega) h2 h3)
                go_wp2_with fail
                go_end0
                exact ⟨rfl, HG2.out, l2, HL2.out, (HSUB1.out.trans (HSUBL.out.wider (Nat.le_refl _) (by omega))).trans (HSUBR.out.wider (by omega) (Nat.le_refl _)), merge_whole HM.out.2.2.2.2.2.2.1 HSUBL.out HSUBR.out HSRTL.out HSRTR.out (by omega) (by omega)⟩
            · have rmiden1 : decide ((mid : Int) < (en : Int)) = false := by simp; omega
              have rmiden2 : decide (mid < en) = false := by simp; omega
              have rmiden3 : ¬ ((mid : Int) < (en : Int)) := by omega
              have HSUBR := hide (Sub.refl mid b l2)
              have HSRTR := hide (show Srt lt l2 mid b from fun i j h1 h2 h3 => by
                by_cases e : mid < en
                · exact HS3.out i j h1 h2 (by omega)
                · exact HS4.out i j (by omega) h2 h3)
              go_wp2_with fail
              go_end0
              exact ⟨rfl, HG2.out, l2, HL2.out, (HSUB1.out.trans (HSUBL.out.wider (Nat.le_refl _) (by omega))).trans (HSUBR.out.wider (by omega) (Nat.le_refl _)), merge_whole HM.out.2.2.2.2.2.2.1 HSUBL.out HSUBR.out HSRTL.out HSRTR.out (by omega) (by omega)⟩
          · have pas1 : decide ((a : Int) < (s : Int)) = true := by simp; omega
            have pas2 : decide (a < s) = true := by simp; omega
            have pas3 : (a : Int) < (s : Int) := by omega
            have psmid1 : decide ((s : Int) < (mid : Int)) = false := by simp; omega
            have psmid2 : decide (s < mid) = false := by simp; omega
            have psmid3 : ¬ ((s : Int) < (mid : Int)) := by omega
            obtain ⟨l2, hl2⟩ : ∃ l2 : List Int, l1 = l2 := ⟨_, rfl⟩
            have HG2 := HG1
            have HL2 := HL1
            have HSUBL := hide (Sub.refl a mid l1)
            have HSRTL := hide (show Srt lt l1 a mid from fun i j h1 h2 h3 => by
              by_cases e : a < s
              · exact HM.out.1 i j h1 h2 (by omega)
              · exact HM.out.2.1 i j (by omega) h2 h3)
            rw [hl2] at HL2 HSRTL
            have hs3 := HSUBL.out
            conv at hs3 => arg 4; rw [hl2]
            have HSUBL := hide hs3
            clear hl2 hs3
            have HS3 := hide (HM.out.2.2.1.out HSUBL.out (.inr (Nat.le_refl _)))
            have HS4 := hide (HM.out.2.2.2.1.out HSUBL.out (.inr (by omega)))
            have HCU2 := hide (show Cutl l2 mid en b from fun i j h1 h2 h3 h4 => by rw [HSUBL.out.out i (by omega), HSUBL.out.out j (by omega)]; exact HM.out.2.2.2.2.2.1 i j h1 h2 h3 h4)
            have HPA2 := hide (show ∀ x ∈ l2, P x from fun x hx => by
              obtain ⟨u, hu, rfl⟩ := mem_nth hx
              by_cases e : a ≤ u ∧ u < mid
              · obtain ⟨u2, _, _, e2⟩ := HSUBL.out.in_ u e.1 e.2
                rw [e2]
                exact HPA1.out _ (nth_mem (by have := HL1.out.len; omega))
              · rw [HSUBL.out.out u (by omega)]
                exact HPA1.out _ (nth_mem (by have := HL1.out.len; have := HL2.out.len; omega)))
            by_cases ra : mid < en
            · by_cases rb : en < b
              · have rmiden1 : decide ((mid : Int) < (en : Int)) = true := by simp; omega
                have rmiden2 : decide (mid < en) = true := by simp; omega
                have rmiden3 : (mid : Int) < (en : Int) := by omega
                have renb1 : decide ((en : Int) < (b : Int)) = true := by simp; omega
                have renb2 : decide (en < b) = true := by simp; omega
                have renb3 : (en : Int) < (b : Int) := by omega
                go_wp2_with fail
                refine (HREC.out mid en b l2 _ ⟨HL2.out, HC.out.goes _ _ HA.out.env HG2.out, HPA2.out, HS3.out, HS4.out, HCU2.out⟩ (by omega) (by omega) hbn (by omega)).mono ?_
                rintro e w3 ⟨rfl, hg3, l3, hr3, hs3, ht3⟩
                have HG3 := hide (HG2.out.trans hg3)
                have HL3 := hide hr3
                have HSUBR := hide hs3
                have HSRTR := hide ht3
                clear hg3 hr3 hs3 ht3
                go_wp2_with fail
                go_end0
                exact ⟨rfl, HG3.out, l3, HL3.out, (HSUB1.out.trans (HSUBL.out.wider (Nat.le_refl _) (by omega))).trans (HSUBR.out.wider (by omega) (Nat.le_refl _)), merge_whole HM.out.2.2.2.2.2.2.1 HSUBL.out HSUBR.out HSRTL.out HSRTR.out (by omega) (by omega)⟩
              · have rmiden1 : decide ((mid : Int) < (en : Int)) = true := by simp; omega
                have rmiden2 : decide (mid < en) = true := by simp; omega
                have rmiden3 : (mid : Int) < (en : Int) := by omega
                have renb1 : decide ((en : Int) < (b : Int)) = false := by simp; omega
                have renb2 : decide (en < b) = false := by simp; omega
                have renb3 : ¬ ((en : Int) < (b : Int)) := by omega
                have HSUBR := hide (Sub.refl mid b l2)
                have HSRTR := hide (show Srt lt l2 mid b from fun i j h1 h2 h3 => by
                  by_cases e : mid < en
                  · exact HS3.out i j h1 h2 (by omega)
                  · exact HS4.out i j (by omega) h2 h3)
                go_wp2_with fail
                go_end0
                exact ⟨rfl, HG2.out, l2, HL2.out, (HSUB1.out.trans (HSUBL.out.wider (Nat.le_refl _) (by omega))).trans (HSUBR.out.wider (by omega) (Nat.le_refl _)), merge_whole HM.out.2.2.2.2.2.2.1 HSUBL.out HSUBR.out HSRTL.out HSRTR.out (by omega) (by omega)⟩
            · have rmiden1 : decide ((mid : Int) < (en : Int)) = false := by simp; omega
              have rmiden2 : decide (mid < en) = false := by simp; omega
              have rmiden3 : ¬ ((mid : Int) < (en : Int)) := by omega
              have HSUBR := hide (Sub.refl mid b l2)
              have HSRTR := hide (show Srt lt l2 mid b from fun i j h1 h2 h3 => by
                by_cases e : mid < en
                · exact HS3.out i j h1 h2 (by omega)
                · exact HS4.out i j (by omega) h2 h3)
              go_wp2_with fail
              go_end0
              exact ⟨rfl, HG2.out, l2, HL2.out, (HSUB1.out.trans (HSUBL.out.wider (Nat.le_refl _) (by omega))).trans (HSUBR.out.wider (by omega) (Nat.le_refl _)), merge_whole HM.out.2.2.2.2.2.2.1 HSUBL.out HSUBR.out HSRTL.out HSRTR.out (by omega) (by omega)⟩
        · have pas1 : decide ((a : Int) < (s : Int)) = false := by simp; omega
          have pas2 : decide (a < s) = false := by simp; omega
          have pas3 : ¬ ((a : Int) < (s : Int)) := by omega
          obtain ⟨l2, hl2⟩ : ∃ l2 : List Int, l1 = l2 := ⟨_, rfl⟩
          have HG2 := HG1
          have HL2 := HL1
          have HSUBL := hide (Sub.refl a mid l1)
          have HSRTL := hide (show Srt lt l1 a mid from fun i j h1 h2 h3 => by
            by_cases e : a < s
            · exact HM.out.1 i j h1 h2 (by omega)
            · exact HM.out.2.1 i j (by omega) h2 h3)
          rw [hl2] at HL2 HSRTL
          have hs3 := HSUBL.out
          conv at hs3 => arg 4; rw [hl2]
          have HSUBL := hide hs3
          clear hl2 hs3
          have HS3 := hide (HM.out.2.2.1.out HSUBL.out (.inr (Nat.le_refl _)))
          have HS4 := hide (HM.out.2.2.2.1.out HSUBL.out (.inr (by omega)))
          have HCU2 := hide (show Cutl l2 mid en b from fun i j h1 h2 h3 h4 => by rw [HSUBL.out.out i (by omega), HSUBL.out.out j (by omega)]; exact HM.out.2.2.2.2.2.1 i j h1 h2 h3 h4)
          have HPA2 := hide (show ∀ x ∈ l2, P x from fun x hx => by
            obtain ⟨u, hu, rfl⟩ := mem_nth hx
            by_cases e : a ≤ u ∧ u < mid
            · obtain ⟨u2, _, _, e2⟩ := HSUBL.out.in_ u e.1 e.2
              rw [e2]
              exact HPA1.out _ (nth_mem (by have := HL1.out.len; omega))
            · rw [HSUBL.out.out u (by omega)]
              exact HPA1.out _ (nth_mem (by have := HL1.out.len; have := HL2.out.len; omega)))
          by_cases ra : mid < en
          · by_cases rb : en < b
            · have rmiden1 : decide ((mid : Int) < (en : Int)) = true := by simp; omega
              have rmiden2 : decide (mid < en) = true := by simp; omega
              have rmiden3 : (mid : Int) < (en : Int) := by omega
              have renb1 : decide ((en : Int) < (b : Int)) = true := by simp; omega
              have renb2 : decide (en < b) = true := by simp; omega
              have renb3 : (en : Int) < (b : Int) := by omega
              go_wp2_with fail
              refine (HREC.out mid en b l2 _ ⟨HL2.out, HC.out.goes _ _ HA.out.env HG2.out, HPA2.out, HS3.out, HS4.out, HCU2.out⟩ (by omega) (by omega) hbn (by omega)).mono ?_
              rintro e w3 ⟨rfl, hg3, l3, hr3, hs3, ht3⟩
              have HG3 := hide (HG2.out.trans hg3)
              have HL3 := hide hr3
              have HSUBR := hide hs3
              have HSRTR := hide ht3
              clear hg3 hr3 hs3 ht3
              go_wp2_with fail
              go_end0
              exact ⟨rfl, HG3.out, l3, HL3.out, (HSUB1.out.trans (HSUBL.out.wider (Nat.le_refl _) (by omega))).trans (HSUBR.out.wider (by omega) (Nat.le_refl _)), merge_whole HM.out.2.2.2.2.2.2.1 HSUBL.out HSUBR.out HSRTL.out HSRTR.out (by omega) (by omega)⟩
            · have rmiden1 : decide ((mid : Int) < (en : Int)) = true := by simp; omega
              have rmiden2 : decide (mid < en) = true := by simp; omega
              have rmiden3 : (mid : Int) < (en : Int) := by omega
              have renb1 : decide ((en : Int) < (b : Int)) = false := by simp; omega
              have renb2 : decide (en < b) = false := by simp; omega
              have renb3 : ¬ ((en : Int) < (b : Int)) := by omega
              have HSUBR := hide (Sub.refl mid b l2)
              have HSRTR := hide (show Srt lt l2 mid b from fun i j h1 h2 h3 => by
                by_cases e : mid < en
                · exact HS3.out i j h1 h2 (by omega)
                · exact HS4.out i j (by omega) h2 h3)
              go_wp2_with fail
              go_end0
              exact ⟨rfl, HG2.out, l2, HL2.out, (HSUB1.out.trans (HSUBL.out.wider (Nat.le_refl _) (by omega))).trans (HSUBR.out.wider (by omega) (Nat.le_refl _)), merge_whole HM.out.2.2.2.2.2.2.1 HSUBL.out HSUBR.out HSRTL.out HSRTR.out (by omega) (by omega)⟩
          · have rmiden1 : decide ((mid : Int) < (en : Int)) = false := by simp; omega
            have rmiden2 : decide (mid < en) = false := by simp; omega
            have rmiden3 : ¬ ((mid : Int) < (en : Int)) := by omega
            have HSUBR := hide (Sub.refl mid b l2)
            have HSRTR := hide (show Srt lt l2 mid b from fun i j h1 h2 h3 => by
              by_cases e : mid < en
              · exact HS3.out i j h1 h2 (by omega)
              · exact HS4.out i j (by omega) h2 h3)
            go_wp2_with fail
            go_end0
            exact ⟨rfl, HG2.out, l2, HL2.out, (HSUB1.out.trans (HSUBL.out.wider (Nat.le_refl _) (by omega))).trans (HSUBR.out.wider (by omega) (Nat.le_refl _)), merge_whole HM.out.2.2.2.2.2.2.1 HSUBL.out HSUBR.out HSRTL.out HSRTR.out (by omega) (by omega)⟩
end Stm
end Go.Proofs.Ytchcpeenpijekaa
