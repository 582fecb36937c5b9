/- Pieces, joined: StmR, StmM. -/
import Derived.Test.YtchcpeenpijekaaQ22

/- Go's slices.rotateCmpFunc at items. -/
namespace Go.Proofs.Ytchcpeenpijekaa
open Go.RowKit
set_option linter.unusedVariables false
namespace Stm

/-- Two rows of k elements have changed places. -/
structure Swp (l l1 : List Int) (a b k : Nat) : Prop where
  len : l1.length = l.length
  sw : ∀ i, i < k → nth l1 (a + i) = nth l (b + i) ∧ nth l1 (b + i) = nth l (a + i)
  out : ∀ i, (i < a ∨ a + k ≤ i) → (i < b ∨ b + k ≤ i) → nth l1 i = nth l i
theorem rot_gt {l l1 l2 : List Int} {m i j : Nat} (hij : j < i) (him : i ≤ m) (hs : Swp l l1 (m - i) m j) (h : Rot l1 l2 (m - (i - j)) m (m + j)) : Rot l l2 (m - i) m (m + j) := by
  have e0 : m - (i - j) = m - i + j := by omega
  rw [e0] at h
  refine ⟨h.len.trans hs.len, fun k hk => ?_, fun k hk => ?_, fun k hk => ?_⟩
  · rw [h.out k (by omega), hs.out k (by omega) (by omega)]
  · rw [h.out _ (by omega), (hs.sw k (by omega)).1]
  · by_cases e : k < j
    · have := h.lo k (by omega)
      rw [(hs.sw k e).2] at this
      rw [← this]
      congr 1
      omega
    · have := h.hi (k - j) (by omega)
      rw [hs.out _ (by omega) (by omega)] at this
      rw [show m - i + k = m - i + j + (k - j) by omega, ← this]
      congr 1
      omega
theorem rot_lt {l l1 l2 : List Int} {m i j : Nat} (hij : i < j) (him : i ≤ m) (hs : Swp l l1 (m - i) (m + j - i) i) (h : Rot l1 l2 (m - i) m (m + (j - i))) : Rot l l2 (m - i) m (m + j) := by
  have e0 : m + (j - i) = m + j - i := by omega
  rw [e0] at h
  refine ⟨h.len.trans hs.len, fun k hk => ?_, fun k hk => ?_, fun k hk => ?_⟩
  · rw [h.out k (by omega), hs.out k (by omega) (by omega)]
  · by_cases e : k < j - i
    · rw [h.lo k (by omega), hs.out _ (by omega) (by omega)]
    · have := h.hi (k - (j - i)) (by omega)
      rw [(hs.sw (k - (j - i)) (by omega)).1] at this
      rw [show m - i + k = m - i + (m + j - i - m) + (k - (j - i)) by omega, this]
      congr 1
      omega
  · rw [h.out _ (by omega)]
    have := (hs.sw k (by omega)).2
    rw [← this]
    congr 1
    omega
theorem rot_eq {l l1 : List Int} {m i : Nat} (him : i ≤ m) (hs : Swp l l1 (m - i) m i) : Rot l l1 (m - i) m (m + i) := by
  refine ⟨hs.len, fun k hk => hs.out k (by omega) (by omega), fun k hk => (hs.sw k (by omega)).1, fun k hk => ?_⟩
  have := (hs.sw k (by omega)).2
  rw [← this]
  congr 1
  omega

set_option maxRecDepth 100000 in
set_option maxHeartbeats 4000000 in
theorem rotate_any (f : Int → IV) (g : Nat) (B n c a m b : Nat) (l : List Int) (F : Value) (w : World) (h : RowI f w B (some ⟨g, 0, none⟩) n c l) (ham : a < m) (hmb : m < b) (hbn : b ≤ n) (hn : n ≤ 1000000) :
    Calls Try.prog 87 #[.slice (some ⟨g, 0, none⟩) n c, .int .i64 (a : Int), .int .i64 (m : Int), .int .i64 (b : Int), F] w fun e w' => e = .returned (.tuple #[]) ∧ w.grownBy w' (some g) ∧ ∃ l', RowI f w' B (some ⟨g, 0, none⟩) n c l' ∧ Rot l l' a m b := by
  have HR := hide h
  clear h
  have e1 : (m : Int) - (a : Int) = ((m - a : Nat) : Int) := by omega
  have e2 : (b : Int) - (m : Int) = ((b - m : Nat) : Int) := by omega
  have E1 := hide e1
  have E2 := hide e2
  clear e1 e2
  go_enter Try.func87, Try.ntmps87
  go_wp2_with fail
  go_loopw [10, 11] (fun vi vj wr => ∃ (i j : Nat) (l' : List Int), vi = .int .i64 i ∧ vj = .int .i64 j ∧ 0 < i ∧ 0 < j ∧ a + i ≤ m ∧ m + j ≤ b ∧ w.grownBy wr (some g) ∧ Hid (RowI f wr B (some ⟨g, 0, none⟩) n c l') ∧ Hid (∀ l2, Rot l' l2 (m - i) m (m + j) → Rot l l2 a m b)) (fun vi vj _ => (intOf vi).toNat + (intOf vj).toNat)
  case atStart => exact ⟨m - a, b - m, l, congrArg (Value.int .i64) E1.out, congrArg (Value.int .i64) E2.out, by omega, by omega, by omega, by omega, World.grownBy.refl w _, HR.out, fun l2 h => by
    rw [show m - (m - a) = a by omega, show m + (b - m) = b by omega] at h
    exact h⟩
  case round =>
    obtain ⟨i, j, l', rfl, rfl, hi, hj, hai, hjb, hgr, HL, HT⟩ := hrel
    have HG := hide hgr
    clear hgr
    have hl := HL.out.len
    have HLEN := hide hl
    clear hl
    by_cases hij : i = j
    · subst hij
      have d1 : ((i : Int) != (i : Int)) = false := by simp
      have v1 : (m : Int) - (i : Int) = ((m - i : Nat) : Int) := by omega
      have HSW := hide (swapRange_any f g B n c (m - i) m i l' F wr HL.out (by omega) (by omega) hn)
      rw [← v1] at HSW
      clear v1
      go_wp2_with fail
      refine HSW.out.mono ?_
      rintro e w1 ⟨rfl, hg1, l1, hr1, hs1, hs2⟩
      have HX := hide (show RowI f w1 B (some ⟨g, 0, none⟩) n c l1 ∧ w.grownBy w1 (some g) ∧ Rot l l1 a m b from ⟨hr1, HG.out.trans hg1, HT.out l1 (rot_eq (by omega) ⟨by rw [hr1.len, HLEN.out], hs1, hs2⟩)⟩)
      clear hg1 hr1 hs1 hs2
      go_wp2_with fail
      go_end0
      exact ⟨rfl, HX.out.2.1, l1, HX.out.1, HX.out.2.2⟩
    · have d1 : ((i : Int) != (j : Int)) = true := by simp; omega
      by_cases hgt : j < i
      · have d2 : (j : Int) < (i : Int) := by omega
        have v1 : (m : Int) - (i : Int) = ((m - i : Nat) : Int) := by omega
        have HSW := hide (swapRange_any f g B n c (m - i) m j l' F wr HL.out (by omega) (by omega) hn)
        rw [← v1] at HSW
        have HE := hide (show (i : Int) - (j : Int) = ((i - j : Nat) : Int) by omega)
        clear v1 hij
        go_wp2_with fail
        refine HSW.out.mono ?_
        rintro e w1 ⟨rfl, hg1, l1, hr1, hs1, hs2⟩
        have HX := hide (show RowI f w1 B (some ⟨g, 0, none⟩) n c l1 ∧ w.grownBy w1 (some g) ∧ (∀ l2, Rot l1 l2 (m - (i - j)) m (m + j) → Rot l l2 a m b) from ⟨hr1, HG.out.trans hg1, fun l2 h2 => HT.out l2 (rot_gt hgt (by omega) ⟨by rw [hr1.len, HLEN.out], hs1, hs2⟩ h2)⟩)
        clear hg1 hr1 hs1 hs2
        go_wp2_with fail
        go_roundw
        case rel => exact ⟨i - j, j, l1, congrArg (Value.int .i64) HE.out, rfl, by omega, hj, by omega, hjb, HX.out.2.1, HX.out.1, HX.out.2.2⟩
        case measure => simp [intOf]; omega
      · have d2 : ¬ ((j : Int) < (i : Int)) := by omega
        have v1 : (m : Int) - (i : Int) = ((m - i : Nat) : Int) := by omega
        have v2 : (m : Int) + (j : Int) - (i : Int) = ((m + j - i : Nat) : Int) := by omega
        have HSW := hide (swapRange_any f g B n c (m - i) (m + j - i) i l' F wr HL.out (by omega) (by omega) hn)
        rw [← v1, ← v2] at HSW
        have HE := hide (show (j : Int) - (i : Int) = ((j - i : Nat) : Int) by omega)
        have hlt : i < j := by omega
        clear v1 v2 hij
        go_wp2_with fail
        refine HSW.out.mono ?_
        rintro e w1 ⟨rfl, hg1, l1, hr1, hs1, hs2⟩
        have HX := hide (show RowI f w1 B (some ⟨g, 0, none⟩) n c l1 ∧ w.grownBy w1 (some g) ∧ (∀ l2, Rot l1 l2 (m - i) m (m + (j - i)) → Rot l l2 a m b) from ⟨hr1, HG.out.trans hg1, fun l2 h2 => HT.out l2 (rot_lt hlt (by omega) ⟨by rw [hr1.len, HLEN.out], hs1, hs2⟩ h2)⟩)
        clear hg1 hr1 hs1 hs2
        go_wp2_with fail
        go_roundw
        case rel => exact ⟨i, j - i, l1, rfl, congrArg (Value.int .i64) HE.out, hi, by omega, hai, by omega, HX.out.2.1, HX.out.1, HX.out.2.2⟩
        case measure => simp [intOf]; omega
end Stm
end Go.Proofs.Ytchcpeenpijekaa

/- Go's slices.symMergeCmpFunc at items, by words.Menu's test: one element on one side. -/
namespace Go.Proofs.Ytchcpeenpijekaa
open Go.RowKit
set_option linter.unusedVariables false
namespace Stm

/-- What a merge leaves. -/
def MergeR (f : Int → IV) (g B n c a b : Nat) (lt : Int → Int → Bool) (l : List Int) (w : World) (e : Ending) (w' : World) : Prop :=
  e = .returned (.tuple #[]) ∧ w.grownBy w' (some g) ∧ ∃ l', RowI f w' B (some ⟨g, 0, none⟩) n c l' ∧ Sub a b l l' ∧ Srt lt l' a b
/-- What a merge asks. -/
structure MergeA (f : Int → IV) (g B n c a m b : Nat) (lt : Int → Int → Bool) (R : World → Prop) (P : Int → Prop) (l : List Int) (w : World) : Prop where
  row : RowI f w B (some ⟨g, 0, none⟩) n c l
  env : R w
  all : ∀ x ∈ l, P x
  left : Srt lt l a m
  right : Srt lt l m b
  cut : Cutl l a m b
/-- A search between two places: what lies ahead of i is ahead of x, what lies from j on is behind it. -/
def BinR (f : Int → IV) (g B n c lo hi : Nat) (lt : Int → Int → Bool) (l : List Int) (x : Int) (w : World) (vi vj : Value) (wr : World) : Prop :=
  ∃ (i j : Nat), vi = .int .i64 i ∧ vj = .int .i64 j ∧ lo ≤ i ∧ i ≤ j ∧ j ≤ hi ∧ w.grownBy wr (some g) ∧ Hid (RowI f wr B (some ⟨g, 0, none⟩) n c l) ∧ Hid (∀ k, lo ≤ k → k < i → LtP lt (nth l k) x) ∧ Hid (∀ k, j ≤ k → k < hi → LtP lt x (nth l k))
theorem BinR.mk {f : Int → IV} {g B n c lo hi : Nat} {lt : Int → Int → Bool} {l : List Int} {x : Int} {w wr : World} {vi vj : Value} (i j : Nat) (h1 : vi = .int .i64 i) (h2 : vj = .int .i64 j) (h3 : lo ≤ i) (h4 : i ≤ j) (h5 : j ≤ hi) (h6 : w.grownBy wr (some g)) (h7 : RowI f wr B (some ⟨g, 0, none⟩) n c l)
    (h8 : ∀ k, lo ≤ k → k < i → LtP lt (nth l k) x) (h9 : ∀ k, j ≤ k → k < hi → LtP lt x (nth l k)) : BinR f g B n c lo hi lt l x w vi vj wr := ⟨i, j, h1, h2, h3, h4, h5, h6, h7, h8, h9⟩

set_option maxRecDepth 100000 in
set_option maxHeartbeats 4000000 in
theorem symMerge_left (f : Int → IV) (g : Nat) (lt : Int → Int → Bool) (hw : Weak lt) (R : World → Prop) (P : Int → Prop) (hc : Cmp f g lt R P) (B n c a m b : Nat) (l : List Int) (w : World) (h : MergeA f g B n c a m b lt R P l w)
    (hma : m = a + 1) (hmb : m < b) (hbn : b ≤ n) (hn : n ≤ 1000000) :
    Calls Try.prog 83 #[.slice (some ⟨g, 0, none⟩) n c, .int .i64 (a : Int), .int .i64 (m : Int), .int .i64 (b : Int), .func (.func 62) #[] #[]] w (MergeR f g B n c a b lt l w) := by
  have HA := hide h
  have HC := hide hc
  have HLEN := hide h.row.len
  have eg := Try.call62
  have t1 : ((m : Int) - (a : Int) == 1) = true := by simp; omega
  have HMA := hide hma
  have q1 : m ≤ a + 1 := by omega
  have q2 : a + 1 ≤ m := by omega
  clear hma
  clear h hc
  go_enter Try.func83, Try.ntmps83
  go_wp2_with fail
  go_loopw [10, 11] (fun vi vj wr => BinR f g B n c m b lt l (nth l a) w vi vj wr) (fun vi vj _ => (intOf vj).toNat - (intOf vi).toNat)
  case atStart => exact BinR.mk m b rfl rfl (Nat.le_refl _) (by omega) (Nat.le_refl _) (World.grownBy.refl w _) HA.out.row (fun k h1 h2 => absurd h1 (by omega)) (fun k h1 h2 => absurd h1 (by omega))
  case round =>
    obtain ⟨i, j, rfl, rfl, hi, hij, hj, hgr, HL, H1, H2⟩ := hrel
    have HG := hide hgr
    clear hgr
    by_cases hlt : i < j
    · have d1 : (i : Int) < (j : Int) := by omega
      obtain ⟨h, hh⟩ : ∃ h, (i + j) / 2 = h := ⟨_, rfl⟩
      have b1 : i ≤ h := by omega
      have b2 : h < j := by omega
      have v0 : ((i : Int) + (j : Int)) / 2 = (h : Int) := by omega
      have HCALL := hide (fun W (hb : Below wr.heap.size wr W) => HC.out.call (nth l h) (nth l a) W (HC.out.goes _ _ (HC.out.goes _ _ HA.out.env HG.out) ⟨hb.os, hb.tape, hb.output, hb.size, fun u hu _ => hb.block u hu⟩) (HA.out.all _ (nth_mem (by rw [HLEN.out]; omega))) (HA.out.all _ (nth_mem (by rw [HLEN.out]; omega))))
      obtain ⟨cx, cxz, fx, fxz⟩ := HL.out.at_ (j := h) (by omega)
      obtain ⟨cy, cyz, fy, fyz⟩ := HL.out.at_ (j := a) (by omega)
      have nx : h < n := by omega
      have ny : a < n := by omega
      have x0 : (0 : Int) ≤ (h : Int) := by omega
      have x1 : (h : Int) < (n : Int) := by omega
      have y0 : (0 : Int) ≤ (a : Int) := by omega
      have y1 : (a : Int) < (n : Int) := by omega
      have HLOW := hide (show nth l a < nth l h from HA.out.cut a h (Nat.le_refl _) (by omega) (by omega) (by omega))
      clear hh
      go_wp2_with fail
      clear v0
      go_region_held3 (fun w' => w'.cell? ⟨g, h * 2, none⟩ = some (.slice (f (nth l h)).A (f (nth l h)).n (f (nth l h)).c) ∧ w'.cell? ⟨g, h * 2 + 1, none⟩ = some (.int .i64 ((f (nth l h)).k : Nat)) ∧ w'.cell? ⟨g, a * 2, none⟩ = some (.slice (f (nth l a)).A (f (nth l a)).n (f (nth l a)).c) ∧ w'.cell? ⟨g, a * 2 + 1, none⟩ = some (.int .i64 ((f (nth l a)).k : Nat))) (first | go_keep)
        (first
         | (go_at_call 62; (with_reducible refine (HCALL.out _ (Below.refl _ _).drew).mono ?_); rintro e w5 ⟨v, rfl, hv, hb5⟩; have HL5 := hide (show RowI f w5 B (some ⟨g, 0, none⟩) n c l from RowG.below (RowG.drewN HL.out 1) hb5); have HG5 := hide (show w.grownBy w5 (some g) from (grown_drewN HG.out 1).trans ⟨hb5.os, hb5.tape, hb5.output, hb5.size, fun u hu _ => hb5.block u hu⟩); have HV := hide hv; clear hv hb5; obtain ⟨k1, k1z, _, _⟩ := HL5.out.at_ (j := h) nx; obtain ⟨k2, k2z, _, _⟩ := HL5.out.at_ (j := a) ny))
      clear k1 k2 k1z k2z cx cy cxz cyz fx fy fxz fyz x0 x1 y0 y1 HCALL
      cases hlt2 : lt (nth l h) (nth l a)
      · have hv := HV.out
        rw [hlt2] at hv
        have hv2 : ¬ (v < 0) := by simpa using hv
        have HP := hide ((LtP.up (lt := lt) HLOW.out).2 hlt2)
        clear hv hlt2
        go_wp2_with fail
        go_roundw
        case rel => exact BinR.mk i h rfl rfl hi b1 (by omega) HG5.out HL5.out H1.out (fun k h1 h2 => by
          by_cases e : k = h
          · rw [e]; exact HP.out
          · exact HP.out.tr hw (HA.out.right h k (by omega) (by omega) h2))
        case measure => simp [intOf]; omega
      · have hv := HV.out
        rw [hlt2] at hv
        have hv2 : v < 0 := by simpa using hv
        have HP := hide (show LtP lt (nth l h) (nth l a) from .inl hlt2)
        clear hv hlt2
        go_wp2_with fail
        go_roundw
        case rel => exact BinR.mk (h + 1) j (by first | rfl | go_num) rfl (by omega) (by omega) hj HG5.out HL5.out (fun k h1 h2 => by
          by_cases e : k = h
          · rw [e]; exact HP.out
          · exact (HA.out.right k h h1 (by omega) (by omega)).tr hw HP.out) H2.out
        case measure => simp [intOf]; omega
    · obtain rfl : i = j := by omega
      go_wp2_with fail
      go_loopw [13] (fun vk wr2 => ∃ (k : Nat) (l1 : List Int), vk = .int .i64 k ∧ a ≤ k ∧ k + 1 ≤ i ∧ w.grownBy wr2 (some g) ∧ Hid (RowI f wr2 B (some ⟨g, 0, none⟩) n c l1) ∧ Hid (Up l l1 a k)) (fun vk _ => i - (intOf vk).toNat)
      case atStart => exact ⟨a, l, rfl, Nat.le_refl _, by omega, HG.out, HL.out, Up.start _ _⟩
      case round =>
        obtain ⟨k, l1, rfl, hak, hki, hgr2, HL2, HU⟩ := hrel
        have HG2 := hide hgr2
        clear hgr2
        by_cases hk : k + 1 < i
        · have d3 : (k : Int) < (i : Int) - 1 := by omega
          obtain ⟨ck, ckz, fk, fkz⟩ := HL2.out.at_ (j := k) (by omega)
          obtain ⟨cp, cpz, fp, fpz⟩ := HL2.out.at_ (j := k + 1) (by omega)
          have HX := hide (HL2.out.swap (i := k) (j := k + 1) (by omega) (by omega))
          have s0 : (0 : Int) ≤ (k : Int) := by omega
          have s1 : (k : Int) < (n : Int) := by omega
          have s2 : (0 : Int) ≤ (k : Int) + 1 := by omega
          have s3 : (k : Int) + 1 < (n : Int) := by omega
          have s4 : ((k : Int) + 1).toNat = k + 1 := by omega
          have s5 : IntKind.i64.wrap ((k : Int) + 1) = (k : Int) + 1 := IntWalk.i64_in _ (by omega)
          have hne : k ≠ k + 1 := by omega
          go_wp2_with fail
          go_region
          go_wp2_with fail
          have HX2 := hide (show RowI f ((((wr.setCell ⟨g, k * 2, none⟩ (.slice (f (nth l1 (k + 1))).A (f (nth l1 (k + 1))).n (f (nth l1 (k + 1))).c)).setCell ⟨g, k * 2 + 1, none⟩ (.int .i64 ((f (nth l1 (k + 1))).k : Nat))).setCell ⟨g, (k + 1) * 2, none⟩ (.slice (f (nth l1 k)).A (f (nth l1 k)).n (f (nth l1 k)).c)).setCell ⟨g, (k + 1) * 2 + 1, none⟩ (.int .i64 ((f (nth l1 k)).k : Nat))).drew B (some ⟨g, 0, none⟩) n c (swapL l1 k (k + 1)) from RowG.drewN HX.out 1)
          have HGX := hide (grown_drewN (grown_set (grown_set (grown_set (grown_set HG2.out (k * 2) (.slice (f (nth l1 (k + 1))).A (f (nth l1 (k + 1))).n (f (nth l1 (k + 1))).c)) (k * 2 + 1) (.int .i64 ((f (nth l1 (k + 1))).k : Nat))) ((k + 1) * 2) (.slice (f (nth l1 k)).A (f (nth l1 k)).n (f (nth l1 k)).c)) ((k + 1) * 2 + 1) (.int .i64 ((f (nth l1 k)).k : Nat))) 1)
          clear s5
          go_roundw
          case rel => exact ⟨k + 1, swapL l1 k (k + 1), by first | rfl | go_num, by omega, by omega, HGX.out, HX2.out, HU.out.step hak (by rw [HLEN.out]; omega)⟩
          case measure => simp [intOf]; omega
        · have d3 : ¬ ((k : Int) < (i : Int) - 1) := by omega
          have hki2 : k + 1 = i := by omega
          have HKI := hide hki2
          clear hki2
          go_wp2_with fail
          go_end0
          have e := HKI.out
          exact ⟨rfl, HG2.out, l1, HL2.out, HU.out.sub (Nat.le_refl _) hak (by omega), HU.out.srt hw hak (by omega) (by rw [← HMA.out]; exact HA.out.right) (fun x h1 h2 => H1.out x (by omega) (by omega)) (fun x h1 h2 => H2.out x (by omega) h2)⟩

set_option maxRecDepth 100000 in
set_option maxHeartbeats 4000000 in
theorem symMerge_right (f : Int → IV) (g : Nat) (lt : Int → Int → Bool) (hw : Weak lt) (R : World → Prop) (P : Int → Prop) (hc : Cmp f g lt R P) (B n c a m b : Nat) (l : List Int) (w : World) (h : MergeA f g B n c a m b lt R P l w)
    (ham : a + 1 < m) (hmb : b = m + 1) (hbn : b ≤ n) (hn : n ≤ 1000000) :
    Calls Try.prog 83 #[.slice (some ⟨g, 0, none⟩) n c, .int .i64 (a : Int), .int .i64 (m : Int), .int .i64 (b : Int), .func (.func 62) #[] #[]] w (MergeR f g B n c a b lt l w) := by
  have HA := hide h
  have HC := hide hc
  have HLEN := hide h.row.len
  have eg := Try.call62
  have t1 : ((m : Int) - (a : Int) == 1) = false := by simp; omega
  have t2 : ((b : Int) - (m : Int) == 1) = true := by simp; omega
  have HMB := hide hmb
  have q1 : b ≤ m + 1 := by omega
  have q2 : m + 1 ≤ b := by omega
  clear hmb
  clear h hc
  go_enter Try.func83, Try.ntmps83
  go_wp2_with fail
  go_loopw [14, 15] (fun vi vj wr => BinR f g B n c a m lt l (nth l m) w vi vj wr) (fun vi vj _ => (intOf vj).toNat - (intOf vi).toNat)
  case atStart => exact BinR.mk a m rfl rfl (Nat.le_refl _) (by omega) (Nat.le_refl _) (World.grownBy.refl w _) HA.out.row (fun k h1 h2 => absurd h1 (by omega)) (fun k h1 h2 => absurd h1 (by omega))
  case round =>
    obtain ⟨i, j, rfl, rfl, hi, hij, hj, hgr, HL, H1, H2⟩ := hrel
    have HG := hide hgr
    clear hgr
    by_cases hlt : i < j
    · have d1 : (i : Int) < (j : Int) := by omega
      obtain ⟨h, hh⟩ : ∃ h, (i + j) / 2 = h := ⟨_, rfl⟩
      have b1 : i ≤ h := by omega
      have b2 : h < j := by omega
      have v0 : ((i : Int) + (j : Int)) / 2 = (h : Int) := by omega
      have HCALL := hide (fun W (hb : Below wr.heap.size wr W) => HC.out.call (nth l m) (nth l h) W (HC.out.goes _ _ (HC.out.goes _ _ HA.out.env HG.out) ⟨hb.os, hb.tape, hb.output, hb.size, fun u hu _ => hb.block u hu⟩) (HA.out.all _ (nth_mem (by rw [HLEN.out]; omega))) (HA.out.all _ (nth_mem (by rw [HLEN.out]; omega))))
      obtain ⟨cx, cxz, fx, fxz⟩ := HL.out.at_ (j := m) (by omega)
      obtain ⟨cy, cyz, fy, fyz⟩ := HL.out.at_ (j := h) (by omega)
      have nx : m < n := by omega
      have ny : h < n := by omega
      have x0 : (0 : Int) ≤ (m : Int) := by omega
      have x1 : (m : Int) < (n : Int) := by omega
      have y0 : (0 : Int) ≤ (h : Int) := by omega
      have y1 : (h : Int) < (n : Int) := by omega
      have HLOW := hide (show nth l h < nth l m from HA.out.cut h m (by omega) (by omega) (Nat.le_refl _) (by omega))
      clear hh
      go_wp2_with fail
      clear v0
      go_region_held3 (fun w' => w'.cell? ⟨g, m * 2, none⟩ = some (.slice (f (nth l m)).A (f (nth l m)).n (f (nth l m)).c) ∧ w'.cell? ⟨g, m * 2 + 1, none⟩ = some (.int .i64 ((f (nth l m)).k : Nat)) ∧ w'.cell? ⟨g, h * 2, none⟩ = some (.slice (f (nth l h)).A (f (nth l h)).n (f (nth l h)).c) ∧ w'.cell? ⟨g, h * 2 + 1, none⟩ = some (.int .i64 ((f (nth l h)).k : Nat))) (first | go_keep)
        (first
         | (go_at_call 62; (with_reducible refine (HCALL.out _ (Below.refl _ _).drew).mono ?_); rintro e w5 ⟨v, rfl, hv, hb5⟩; have HL5 := hide (show RowI f w5 B (some ⟨g, 0, none⟩) n c l from RowG.below (RowG.drewN HL.out 1) hb5); have HG5 := hide (show w.grownBy w5 (some g) from (grown_drewN HG.out 1).trans ⟨hb5.os, hb5.tape, hb5.output, hb5.size, fun u hu _ => hb5.block u hu⟩); have HV := hide hv; clear hv hb5; obtain ⟨k1, k1z, _, _⟩ := HL5.out.at_ (j := m) nx; obtain ⟨k2, k2z, _, _⟩ := HL5.out.at_ (j := h) ny))
      clear k1 k2 k1z k2z cx cy cxz cyz fx fy fxz fyz x0 x1 y0 y1 HCALL
      cases hlt2 : lt (nth l m) (nth l h)
      · have hv := HV.out
        rw [hlt2] at hv
        have hv2 : ¬ (v < 0) := by simpa using hv
        have hv5 : (!decide (v < 0)) = true := by simp; omega
        have hv6 : decide (0 ≤ v) = true := by simp; omega
        have HP := hide ((LtP.up (lt := lt) HLOW.out).2 hlt2)
        clear hv hlt2
        go_wp2_with fail
        any_goals (first | (exact absurd (show (!decide (v < 0)) = false by assumption) (by rw [hv5]; simp)) | skip)
        go_roundw
        case rel => exact BinR.mk (h + 1) j (by first | rfl | go_num) rfl (by omega) (by omega) hj HG5.out HL5.out (fun k h1 h2 => by
          by_cases e : k = h
          · rw [e]; exact HP.out
          · exact (HA.out.left k h h1 (by omega) (by omega)).tr hw HP.out) H2.out
        case measure => simp [intOf]; omega
      · have hv := HV.out
        rw [hlt2] at hv
        have hv2 : v < 0 := by simpa using hv
        have hv5 : (!decide (v < 0)) = false := by simp; omega
        have hv6 : decide (0 ≤ v) = false := by simp; omega
        have HP := hide (show LtP lt (nth l m) (nth l h) from .inl hlt2)
        clear hv hlt2
        go_wp2_with fail
        any_goals (first | (exact absurd (show (!decide (v < 0)) = true by assumption) (by rw [hv5]; simp)) | skip)
        go_roundw
        case rel => exact BinR.mk i h rfl rfl hi b1 (by omega) HG5.out HL5.out H1.out (fun k h1 h2 => by
          by_cases e : k = h
          · rw [e]; exact HP.out
          · exact HP.out.tr hw (HA.out.left h k (by omega) (by omega) h2))
        case measure => simp [intOf]; omega
    · obtain rfl : i = j := by omega
      go_wp2_with fail
      go_loopw [17] (fun vk wr2 => ∃ (k : Nat) (l1 : List Int), vk = .int .i64 k ∧ i ≤ k ∧ k ≤ m ∧ w.grownBy wr2 (some g) ∧ Hid (RowI f wr2 B (some ⟨g, 0, none⟩) n c l1) ∧ Hid (Down l l1 m k)) (fun vk _ => (intOf vk).toNat)
      case atStart => exact ⟨m, l, rfl, hj, Nat.le_refl _, HG.out, HL.out, Down.start _ _⟩
      case round =>
        obtain ⟨k, l1, rfl, hik, hkm, hgr2, HL2, HD⟩ := hrel
        have HG2 := hide hgr2
        clear hgr2
        by_cases hk : i < k
        · have d3 : (i : Int) < (k : Int) := by omega
          obtain ⟨p, hp⟩ : ∃ p, k = p + 1 := ⟨k - 1, by omega⟩
          have HKP := hide hp
          obtain ⟨ck, ckz, fk, fkz⟩ := HL2.out.at_ (j := k) (by omega)
          obtain ⟨cp, cpz, fp, fpz⟩ := HL2.out.at_ (j := p) (by omega)
          have HX := hide (HL2.out.swap (i := k) (j := p) (by omega) (by omega))
          have hd := HD.out
          rw [hp] at hd
          have HD2 := hide (hd.step (by omega) (by rw [HLEN.out]; omega))
          rw [← hp] at HD2
          have s0 : (0 : Int) ≤ (k : Int) := by omega
          have s1 : (k : Int) < (n : Int) := by omega
          have s2 : (0 : Int) ≤ (p : Int) := by omega
          have s3 : (p : Int) < (n : Int) := by omega
          have hne : k ≠ p := by omega
          have v5 : IntKind.i64.wrap ((k : Int) - 1) = (p : Int) := by rw [IntWalk.i64_in _ (by omega)]; omega
          have v6 : (k : Int) - 1 = (p : Int) := by omega
          clear hp hd
          go_wp2_with fail
          go_region
          go_wp2_with fail
          have HX2 := hide (show RowI f ((((wr.setCell ⟨g, k * 2, none⟩ (.slice (f (nth l1 p)).A (f (nth l1 p)).n (f (nth l1 p)).c)).setCell ⟨g, k * 2 + 1, none⟩ (.int .i64 ((f (nth l1 p)).k : Nat))).setCell ⟨g, p * 2, none⟩ (.slice (f (nth l1 k)).A (f (nth l1 k)).n (f (nth l1 k)).c)).setCell ⟨g, p * 2 + 1, none⟩ (.int .i64 ((f (nth l1 k)).k : Nat))).drew B (some ⟨g, 0, none⟩) n c (swapL l1 k p) from RowG.drewN HX.out 1)
          have HGX := hide (grown_drewN (grown_set (grown_set (grown_set (grown_set HG2.out (k * 2) (.slice (f (nth l1 p)).A (f (nth l1 p)).n (f (nth l1 p)).c)) (k * 2 + 1) (.int .i64 ((f (nth l1 p)).k : Nat))) (p * 2) (.slice (f (nth l1 k)).A (f (nth l1 k)).n (f (nth l1 k)).c)) (p * 2 + 1) (.int .i64 ((f (nth l1 k)).k : Nat))) 1)
          clear v5 v6
          go_roundw
          case rel => exact ⟨p, swapL l1 k p, rfl, by have := HKP.out; omega, by have := HKP.out; omega, HGX.out, HX2.out, HD2.out⟩
          case measure => have := HKP.out; simp [intOf]; omega
        · have d3 : ¬ ((i : Int) < (k : Int)) := by omega
          have HKI := hide (show k = i by omega)
          go_wp2_with fail
          go_end0
          have e := HKI.out
          have hd := HD.out
          rw [e] at hd
          clear d3
          exact ⟨rfl, HG2.out, l1, HL2.out, hd.sub hi hj (by omega), by rw [HMB.out]; exact hd.srt hw hi hj HA.out.left (fun x h1 h2 => H2.out x h1 h2) (fun x h1 h2 => H1.out x h1 h2)⟩
end Stm
end Go.Proofs.Ytchcpeenpijekaa
