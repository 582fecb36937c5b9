/- Go's slices.symMergeCmpFunc at ints, by tabs.Order's test: one element on one side. -/
import Derived.Test.YtfeflmpdbejhjaaStabR
namespace Go.Proofs.Ytfeflmpdbejhjaa
open Go.RowKit
set_option linter.unusedVariables false

/-- What a merge leaves. -/
def MergeR (g B n c a b : Nat) (lt : Int → Int → Bool) (l : List Int) (w : World) (e : Ending) (w' : World) : Prop :=
  e = .returned (.tuple #[]) ∧ w.grownBy w' (some g) ∧ ∃ l', RowI w' B (some ⟨g, 0, none⟩) n c l' ∧ Sub a b l l' ∧ Srt lt l' a b
/-- What a merge asks. -/
structure MergeA (g B n c a m b : Nat) (lt : Int → Int → Bool) (R : World → Prop) (P : Int → Prop) (l : List Int) (w : World) : Prop where
  row : RowI w B (some ⟨g, 0, none⟩) n c l
  env : R w
  all : ∀ x ∈ l, P x
  left : Srt lt l a m
  right : Srt lt l m b
  cut : Cutl l a m b
/-- A search between two places: what lies ahead of i is ahead of x, what lies from j on is behind it. -/
def BinR (g B n c lo hi : Nat) (lt : Int → Int → Bool) (l : List Int) (x : Int) (w : World) (vi vj : Value) (wr : World) : Prop :=
  ∃ (i j : Nat), vi = .int .i64 i ∧ vj = .int .i64 j ∧ lo ≤ i ∧ i ≤ j ∧ j ≤ hi ∧ w.grownBy wr (some g) ∧ Hid (RowI wr B (some ⟨g, 0, none⟩) n c l) ∧ Hid (∀ k, lo ≤ k → k < i → LtP lt (nth l k) x) ∧ Hid (∀ k, j ≤ k → k < hi → LtP lt x (nth l k))
theorem BinR.mk {g B n c lo hi : Nat} {lt : Int → Int → Bool} {l : List Int} {x : Int} {w wr : World} {vi vj : Value} (i j : Nat) (h1 : vi = .int .i64 i) (h2 : vj = .int .i64 j) (h3 : lo ≤ i) (h4 : i ≤ j) (h5 : j ≤ hi) (h6 : w.grownBy wr (some g)) (h7 : RowI wr B (some ⟨g, 0, none⟩) n c l)
    (h8 : ∀ k, lo ≤ k → k < i → LtP lt (nth l k) x) (h9 : ∀ k, j ≤ k → k < hi → LtP lt x (nth l k)) : BinR g B n c lo hi lt l x w vi vj wr := ⟨i, j, h1, h2, h3, h4, h5, h6, h7, h8, h9⟩

set_option maxRecDepth 100000 in
set_option maxHeartbeats 4000000 in
theorem symMerge_left (g : Nat) (lt : Int → Int → Bool) (hw : Weak lt) (q : Nat) (R : World → Prop) (P : Int → Prop) (hc : Cmp g lt q R P) (B n c a m b : Nat) (l : List Int) (w : World) (h : MergeA g B n c a m b lt R P l w)
    (hma : m = a + 1) (hmb : m < b) (hbn : b ≤ n) (hn : n ≤ 1000000) :
    Calls Try.prog 28 #[.slice (some ⟨g, 0, none⟩) n c, .int .i64 (a : Int), .int .i64 (m : Int), .int .i64 (b : Int), .func (.func 18) #[] #[.pointer (some ⟨q, 0, none⟩)]] w (MergeR g B n c a b lt l w) := by
  have HA := hide h
  have HC := hide hc
  have HLEN := hide h.row.len
  have eg := Try.call18
  have t1 : ((m : Int) - (a : Int) == 1) = true := by simp; omega
  have HMA := hide hma
  have q1 : m ≤ a + 1 := by omega
  have q2 : a + 1 ≤ m := by omega
  clear hma
  clear h hc
  go_enter Try.func28, Try.ntmps28
  go_wp2_with fail
  go_loopw [10, 11] (fun vi vj wr => BinR g B n c m b lt l (nth l a) w vi vj wr) (fun vi vj _ => (intOf vj).toNat - (intOf vi).toNat)
  case atStart => exact BinR.mk m b rfl rfl (Nat.le_refl _) (by omega) (Nat.le_refl _) (World.grownBy.refl w _) HA.out.row (fun k h1 h2 => absurd h1 (by omega)) (fun k h1 h2 => absurd h1 (by omega))
  case round =>
    obtain ⟨i, j, rfl, rfl, hi, hij, hj, hgr, HL, H1, H2⟩ := hrel
    have HG := hide hgr
    clear hgr
    by_cases hlt : i < j
    · have d1 : (i : Int) < (j : Int) := by omega
      obtain ⟨h, hh⟩ : ∃ h, (i + j) / 2 = h := ⟨_, rfl⟩
      have b1 : i ≤ h := by omega
      have b2 : h < j := by omega
      have v0 : ((i : Int) + (j : Int)) / 2 = (h : Int) := by omega
      have HCALL := hide (fun W (hb : Below wr.heap.size wr W) => HC.out.call (nth l h) (nth l a) W (HC.out.goes _ _ (HC.out.goes _ _ HA.out.env HG.out) ⟨hb.os, hb.tape, hb.output, hb.size, fun u hu _ => hb.block u hu⟩) (HA.out.all _ (nth_mem (by rw [HLEN.out]; omega))) (HA.out.all _ (nth_mem (by rw [HLEN.out]; omega))))
      obtain ⟨cx, fx⟩ := HL.out.at_ (j := h) (by omega)
      obtain ⟨cy, fy⟩ := HL.out.at_ (j := a) (by omega)
      have nx : h < n := by omega
      have ny : a < n := by omega
      have x0 : (0 : Int) ≤ (h : Int) := by omega
      have x1 : (h : Int) < (n : Int) := by omega
      have y0 : (0 : Int) ≤ (a : Int) := by omega
      have y1 : (a : Int) < (n : Int) := by omega
      have HLOW := hide (show nth l a < nth l h from HA.out.cut a h (Nat.le_refl _) (by omega) (by omega) (by omega))
      clear hh
      go_wp2_with fail
      clear v0
      go_region_held3 (fun w' => w'.cell? ⟨g, h, none⟩ = some (.int .i64 (nth l h)) ∧ w'.cell? ⟨g, a, none⟩ = some (.int .i64 (nth l a))) (first | go_keep)
        (first
         | (go_at_call 18; (with_reducible refine (HCALL.out _ (Below.refl _ _).drew).mono ?_); rintro e w5 ⟨v, rfl, hv, hb5⟩; have HL5 := hide (show RowI w5 B (some ⟨g, 0, none⟩) n c l from RowG.below (RowG.drewN HL.out 1) hb5); have HG5 := hide (show w.grownBy w5 (some g) from (grown_drewN HG.out 1).trans ⟨hb5.os, hb5.tape, hb5.output, hb5.size, fun u hu _ => hb5.block u hu⟩); have HV := hide hv; clear hv hb5; obtain ⟨k1, _⟩ := HL5.out.at_ (j := h) nx; obtain ⟨k2, _⟩ := HL5.out.at_ (j := a) ny))
      clear k1 k2 cx cy fx fy x0 x1 y0 y1 HCALL
      cases hlt2 : lt (nth l h) (nth l a)
      · have hv := HV.out
        rw [hlt2] at hv
        have hv2 : ¬ (v < 0) := by simpa using hv
        have HP := hide ((LtP.up (lt := lt) HLOW.out).2 hlt2)
        clear hv hlt2
        go_wp2_with fail
        go_roundw
        case rel => exact BinR.mk i h rfl rfl hi b1 (by omega) HG5.out HL5.out H1.out (fun k h1 h2 => by
          by_cases e : k = h
          · rw [e]; exact HP.out
          · exact HP.out.tr hw (HA.out.right h k (by omega) (by omega) h2))
        case measure => simp [intOf]; omega
      · have hv := HV.out
        rw [hlt2] at hv
        have hv2 : v < 0 := by simpa using hv
        have HP := hide (show LtP lt (nth l h) (nth l a) from .inl hlt2)
        clear hv hlt2
        go_wp2_with fail
        go_roundw
        case rel => exact BinR.mk (h + 1) j (by first | rfl | go_num) rfl (by omega) (by omega) hj HG5.out HL5.out (fun k h1 h2 => by
          by_cases e : k = h
          · rw [e]; exact HP.out
          · exact (HA.out.right k h h1 (by omega) (by omega)).tr hw HP.out) H2.out
        case measure => simp [intOf]; omega
    · obtain rfl : i = j := by omega
      go_wp2_with fail
      go_loopw [13] (fun vk wr2 => ∃ (k : Nat) (l1 : List Int), vk = .int .i64 k ∧ a ≤ k ∧ k + 1 ≤ i ∧ w.grownBy wr2 (some g) ∧ Hid (RowI wr2 B (some ⟨g, 0, none⟩) n c l1) ∧ Hid (Up l l1 a k)) (fun vk _ => i - (intOf vk).toNat)
      case atStart => exact ⟨a, l, rfl, Nat.le_refl _, by omega, HG.out, HL.out, Up.start _ _⟩
      case round =>
        obtain ⟨k, l1, rfl, hak, hki, hgr2, HL2, HU⟩ := hrel
        have HG2 := hide hgr2
        clear hgr2
        by_cases hk : k + 1 < i
        · have d3 : (k : Int) < (i : Int) - 1 := by omega
          obtain ⟨ck, fk⟩ := HL2.out.at_ (j := k) (by omega)
          obtain ⟨cp, fp⟩ := HL2.out.at_ (j := k + 1) (by omega)
          have HX := hide (HL2.out.swap (i := k) (j := k + 1) (by omega) (by omega))
          have s0 : (0 : Int) ≤ (k : Int) := by omega
          have s1 : (k : Int) < (n : Int) := by omega
          have s2 : (0 : Int) ≤ (k : Int) + 1 := by omega
          have s3 : (k : Int) + 1 < (n : Int) := by omega
          have s4 : ((k : Int) + 1).toNat = k + 1 := by omega
          have s5 : IntKind.i64.wrap ((k : Int) + 1) = (k : Int) + 1 := IntWalk.i64_in _ (by omega)
          have hne : k ≠ k + 1 := by omega
          go_wp2_with fail
          go_region
          go_wp2_with fail
          have HX2 := hide (show RowI ((wr.setCell ⟨g, k, none⟩ (.int .i64 (nth l1 (k + 1)))).setCell ⟨g, k + 1, none⟩ (.int .i64 (nth l1 k))).drew B (some ⟨g, 0, none⟩) n c (swapL l1 k (k + 1)) from RowG.drewN HX.out 1)
          have HGX := hide (grown_drewN (grown_set (grown_set HG2.out k (.int .i64 (nth l1 (k + 1)))) (k + 1) (.int .i64 (nth l1 k))) 1)
          clear s5
          go_roundw
          case rel => exact ⟨k + 1, swapL l1 k (k + 1), by first | rfl | go_num, by omega, by omega, HGX.out, HX2.out, HU.out.step hak (by rw [HLEN.out]; omega)⟩
          case measure => simp [intOf]; omega
        · have d3 : ¬ ((k : Int) < (i : Int) - 1) := by omega
          have hki2 : k + 1 = i := by omega
          have HKI := hide hki2
          clear hki2
          go_wp2_with fail
          go_end0
          have e := HKI.out
          exact ⟨rfl, HG2.out, l1, HL2.out, HU.out.sub (Nat.le_refl _) hak (by omega), HU.out.srt hw hak (by omega) (by rw [← HMA.out]; exact HA.out.right) (fun x h1 h2 => H1.out x (by omega) (by omega)) (fun x h1 h2 => H2.out x (by omega) h2)⟩

set_option maxRecDepth 100000 in
set_option maxHeartbeats 4000000 in
theorem symMerge_right (g : Nat) (lt : Int → Int → Bool) (hw : Weak lt) (q : Nat) (R : World → Prop) (P : Int → Prop) (hc : Cmp g lt q R P) (B n c a m b : Nat) (l : List Int) (w : World) (h : MergeA g B n c a m b lt R P l w)
    (ham : a + 1 < m) (hmb : b = m + 1) (hbn : b ≤ n) (hn : n ≤ 1000000) :
    Calls Try.prog 28 #[.slice (some ⟨g, 0, none⟩) n c, .int .i64 (a : Int), .int .i64 (m : Int), .int .i64 (b : Int), .func (.func 18) #[] #[.pointer (some ⟨q, 0, none⟩)]] w (MergeR g B n c a b lt l w) := by
  have HA := hide h
  have HC := hide hc
  have HLEN := hide h.row.len
  have eg := Try.call18
  have t1 : ((m : Int) - (a : Int) == 1) = false := by simp; omega
  have t2 : ((b : Int) - (m : Int) == 1) = true := by simp; omega
  have HMB := hide hmb
  have q1 : b ≤ m + 1 := by omega
  have q2 : m + 1 ≤ b := by omega
  clear hmb
  clear h hc
  go_enter Try.func28, Try.ntmps28
  go_wp2_with fail
  go_loopw [14, 15] (fun vi vj wr => BinR g B n c a m lt l (nth l m) w vi vj wr) (fun vi vj _ => (intOf vj).toNat - (intOf vi).toNat)
  case atStart => exact BinR.mk a m rfl rfl (Nat.le_refl _) (by omega) (Nat.le_refl _) (World.grownBy.refl w _) HA.out.row (fun k h1 h2 => absurd h1 (by omega)) (fun k h1 h2 => absurd h1 (by omega))
  case round =>
    obtain ⟨i, j, rfl, rfl, hi, hij, hj, hgr, HL, H1, H2⟩ := hrel
    have HG := hide hgr
    clear hgr
    by_cases hlt : i < j
    · have d1 : (i : Int) < (j : Int) := by omega
      obtain ⟨h, hh⟩ : ∃ h, (i + j) / 2 = h := ⟨_, rfl⟩
      have b1 : i ≤ h := by omega
      have b2 : h < j := by omega
      have v0 : ((i : Int) + (j : Int)) / 2 = (h : Int) := by omega
      have HCALL := hide (fun W (hb : Below wr.heap.size wr W) => HC.out.call (nth l m) (nth l h) W (HC.out.goes _ _ (HC.out.goes _ _ HA.out.env HG.out) ⟨hb.os, hb.tape, hb.output, hb.size, fun u hu _ => hb.block u hu⟩) (HA.out.all _ (nth_mem (by rw [HLEN.out]; omega))) (HA.out.all _ (nth_mem (by rw [HLEN.out]; omega))))
      obtain ⟨cx, fx⟩ := HL.out.at_ (j := m) (by omega)
      obtain ⟨cy, fy⟩ := HL.out.at_ (j := h) (by omega)
      have nx : m < n := by omega
      have ny : h < n := by omega
      have x0 : (0 : Int) ≤ (m : Int) := by omega
      have x1 : (m : Int) < (n : Int) := by omega
      have y0 : (0 : Int) ≤ (h : Int) := by omega
      have y1 : (h : Int) < (n : Int) := by omega
      have HLOW := hide (show nth l h < nth l m from HA.out.cut h m (by omega) (by omega) (Nat.le_refl _) (by omega))
      clear hh
      go_wp2_with fail
      clear v0
      go_region_held3 (fun w' => w'.cell? ⟨g, m, none⟩ = some (.int .i64 (nth l m)) ∧ w'.cell? ⟨g, h, none⟩ = some (.int .i64 (nth l h))) (first | go_keep)
        (first
         | (go_at_call 18; (with_reducible refine (HCALL.out _ (Below.refl _ _).drew).mono ?_); rintro e w5 ⟨v, rfl, hv, hb5⟩; have HL5 := hide (show RowI w5 B (some ⟨g, 0, none⟩) n c l from RowG.below (RowG.drewN HL.out 1) hb5); have HG5 := hide (show w.grownBy w5 (some g) from (grown_drewN HG.out 1).trans ⟨hb5.os, hb5.tape, hb5.output, hb5.size, fun u hu _ => hb5.block u hu⟩); have HV := hide hv; clear hv hb5; obtain ⟨k1, _⟩ := HL5.out.at_ (j := m) nx; obtain ⟨k2, _⟩ := HL5.out.at_ (j := h) ny))
      clear k1 k2 cx cy fx fy x0 x1 y0 y1 HCALL
      cases hlt2 : lt (nth l m) (nth l h)
      · have hv := HV.out
        rw [hlt2] at hv
        have hv2 : ¬ (v < 0) := by simpa using hv
        have hv5 : (!decide (v < 0)) = true := by simp; omega
        have hv6 : decide (0 ≤ v) = true := by simp; omega
        have HP := hide ((LtP.up (lt := lt) HLOW.out).2 hlt2)
        clear hv hlt2
        go_wp2_with fail
        any_goals (first | (exact absurd (show (!decide (v < 0)) = false by assumption) (by rw [hv5]; simp)) | skip)
        go_roundw
        case rel => exact BinR.mk (h + 1) j (by first | rfl | go_num) rfl (by omega) (by omega) hj HG5.out HL5.out (fun k h1 h2 => by
          by_cases e : k = h
          · rw [e]; exact HP.out
          · exact (HA.out.left k h h1 (by omega) (by omega)).tr hw HP.out) H2.out
        case measure => simp [intOf]; omega
      · have hv := HV.out
        rw [hlt2] at hv
        have hv2 : v < 0 := by simpa using hv
        have hv5 : (!decide (v < 0)) = false := by simp; omega
        have hv6 : decide (0 ≤ v) = false := by simp; omega
        have HP := hide (show LtP lt (nth l m) (nth l h) from .inl hlt2)
        clear hv hlt2
        go_wp2_with fail
        any_goals (first | (exact absurd (show (!decide (v < 0)) = true by assumption) (by rw [hv5]; simp)) | skip)
        go_roundw
        case rel => exact BinR.mk i h rfl rfl hi b1 (by omega) HG5.out HL5.out H1.out (fun k h1 h2 => by
          by_cases e : k = h
          · rw [e]; exact HP.out
          · exact HP.out.tr hw (HA.out.left h k (by omega) (by omega) h2))
        case measure => simp [intOf]; omega
    · obtain rfl : i = j := by omega
      go_wp2_with fail
      go_loopw [17] (fun vk wr2 => ∃ (k : Nat) (l1 : List Int), vk = .int .i64 k ∧ i ≤ k ∧ k ≤ m ∧ w.grownBy wr2 (some g) ∧ Hid (RowI wr2 B (some ⟨g, 0, none⟩) n c l1) ∧ Hid (Down l l1 m k)) (fun vk _ => (intOf vk).toNat)
      case atStart => exact ⟨m, l, rfl, hj, Nat.le_refl _, HG.out, HL.out, Down.start _ _⟩
      case round =>
        obtain ⟨k, l1, rfl, hik, hkm, hgr2, HL2, HD⟩ := hrel
        have HG2 := hide hgr2
        clear hgr2
        by_cases hk : i < k
        · have d3 : (i : Int) < (k : Int) := by omega
          obtain ⟨p, hp⟩ : ∃ p, k = p + 1 := ⟨k - 1, by omega⟩
          have HKP := hide hp
          obtain ⟨ck, fk⟩ := HL2.out.at_ (j := k) (by omega)
          obtain ⟨cp, fp⟩ := HL2.out.at_ (j := p) (by omega)
          have HX := hide (HL2.out.swap (i := k) (j := p) (by omega) (by omega))
          have hd := HD.out
          rw [hp] at hd
          have HD2 := hide (hd.step (by omega) (by rw [HLEN.out]; omega))
          rw [← hp] at HD2
          have s0 : (0 : Int) ≤ (k : Int) := by omega
          have s1 : (k : Int) < (n : Int) := by omega
          have s2 : (0 : Int) ≤ (p : Int) := by omega
          have s3 : (p : Int) < (n : Int) := by omega
          have hne : k ≠ p := by omega
          have v5 : IntKind.i64.wrap ((k : Int) - 1) = (p : Int) := by rw [IntWalk.i64_in _ (by omega)]; omega
          have v6 : (k : Int) - 1 = (p : Int) := by omega
          clear hp hd
          go_wp2_with fail
          go_region
          go_wp2_with fail
          have HX2 := hide (show RowI ((wr.setCell ⟨g, k, none⟩ (.int .i64 (nth l1 p))).setCell ⟨g, p, none⟩ (.int .i64 (nth l1 k))).drew B (some ⟨g, 0, none⟩) n c (swapL l1 k p) from RowG.drewN HX.out 1)
          have HGX := hide (grown_drewN (grown_set (grown_set HG2.out k (.int .i64 (nth l1 p))) p (.int .i64 (nth l1 k))) 1)
          clear v5 v6
          go_roundw
          case rel => exact ⟨p, swapL l1 k p, rfl, by have := HKP.out; omega, by have := HKP.out; omega, HGX.out, HX2.out, HD2.out⟩
          case measure => have := HKP.out; simp [intOf]; omega
        · have d3 : ¬ ((i : Int) < (k : Int)) := by omega
          have HKI := hide (show k = i by omega)
          go_wp2_with fail
          go_end0
          have e := HKI.out
          have hd := HD.out
          rw [e] at hd
          clear d3
          exact ⟨rfl, HG2.out, l1, HL2.out, hd.sub hi hj (by omega), by rw [HMB.out]; exact hd.srt hw hi hj HA.out.left (fun x h1 h2 => H2.out x h1 h2) (fun x h1 h2 => H1.out x h1 h2)⟩
end Go.Proofs.Ytfeflmpdbejhjaa
