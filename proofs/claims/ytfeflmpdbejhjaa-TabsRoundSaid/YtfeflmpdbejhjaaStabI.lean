/- Go's slices.insertionSortCmpFunc, swapRangeCmpFunc at ints, by tabs.Order's test. -/
import Derived.Test.YtfeflmpdbejhjaaStabP
import Derived.Test.YtfeflmpdbejhjaaRowG
import Derived.RegionTactic
import Derived.ChangeAlike
import Derived.BigRegion
import Derived.Deep.LoopGhost
namespace Go.Proofs.Ytfeflmpdbejhjaa
open Go.RowKit
set_option linter.unusedVariables false

def ints (l : List Int) : List (List Value) := l.map fun x => [.int .i64 x]
theorem ints_at {l : List Int} {j : Nat} (h : j < l.length) : (ints l)[j]? = some [.int .i64 (nth l j)] := by simp [ints, h, nth_eq]
theorem ints_set (l : List Int) (j : Nat) (x : Int) : (ints l).set j ([Value.int .i64 (nth l j)].set 0 (.int .i64 x)) = ints (l.set j x) := by simp [ints, List.map_set]
/-- A row of ints of the call's own. -/
abbrev RowI (w : World) (B : Nat) (A : Option Addr) (n c : Nat) (l : List Int) : Prop := RowG w 3 1 B A n c (ints l)
theorem RowI.len {w : World} {B n c : Nat} {A : Option Addr} {l : List Int} (h : RowI w B A n c l) : l.length = n := by have := h.cnt; simpa [ints] using this
theorem RowI.at_ {w : World} {B n c g : Nat} {l : List Int} (h : RowI w B (some ⟨g, 0, none⟩) n c l) {j : Nat} (hj : j < n) : w.cell? ⟨g, j, none⟩ = some (.int .i64 (nth l j)) ∧ w.frozen? ⟨g, j, none⟩ = false := by
  obtain ⟨g', e, h1, h2⟩ := h.cell (i := 0) (ints_at (by rw [h.len]; exact hj)) (by omega) rfl
  injection e with e
  injection e with e
  subst e
  rw [Nat.mul_one, Nat.add_zero] at h1 h2
  exact ⟨h1, h2⟩
theorem RowI.put {w : World} {B n c g : Nat} {l : List Int} (h : RowI w B (some ⟨g, 0, none⟩) n c l) {j : Nat} (hj : j < n) (x : Int) : RowI (w.setCell ⟨g, j, none⟩ (.int .i64 x)) B (some ⟨g, 0, none⟩) n c (l.set j x) := by
  have := RowG.set h (i := 0) (u := .int .i64 x) (ints_at (by rw [h.len]; exact hj)) (by omega) rfl
  rw [ints_set, Nat.mul_one, Nat.add_zero] at this
  exact this
theorem RowI.swap {w : World} {B n c g : Nat} {l : List Int} (h : RowI w B (some ⟨g, 0, none⟩) n c l) {i j : Nat} (hi : i < n) (hj : j < n) : RowI ((w.setCell ⟨g, i, none⟩ (.int .i64 (nth l j))).setCell ⟨g, j, none⟩ (.int .i64 (nth l i))) B (some ⟨g, 0, none⟩) n c (swapL l i j) :=
  (h.put hi _).put hj _

/-- What the sort asks of its test: a call on two of the elements answers a number that is below 0 just if lt says so; R is what it needs, and goes on. -/
structure Cmp (g : Nat) (lt : Int → Int → Bool) (q : Nat) (R : World → Prop) (P : Int → Prop) : Prop where
  call : ∀ x y W, R W → P x → P y → Calls Try.prog 18 #[.int .i64 x, .int .i64 y, .pointer (some ⟨q, 0, none⟩)] W fun e W' => ∃ v : Int, e = .returned (.int .i64 v) ∧ decide (v < 0) = lt x y ∧ Below W.heap.size W W'
  goes : ∀ W W', R W → W.grownBy W' (some g) → R W'

set_option maxRecDepth 100000 in
set_option maxHeartbeats 4000000 in
theorem swapRange_any (g : Nat) (B n c a b k : Nat) (l : List Int) (F : Value) (w : World) (h : RowI w B (some ⟨g, 0, none⟩) n c l) (hab : a + k ≤ b) (hbn : b + k ≤ n) (hn : n ≤ 1000000) :
    Calls Try.prog 30 #[.slice (some ⟨g, 0, none⟩) n c, .int .i64 (a : Int), .int .i64 (b : Int), .int .i64 (k : Int), F] w fun e w' => e = .returned (.tuple #[]) ∧ w.grownBy w' (some g) ∧ ∃ l', RowI w' B (some ⟨g, 0, none⟩) n c l' ∧
      (∀ i, i < k → nth l' (a + i) = nth l (b + i) ∧ nth l' (b + i) = nth l (a + i)) ∧ (∀ i, (i < a ∨ a + k ≤ i) → (i < b ∨ b + k ≤ i) → nth l' i = nth l i) := by
  have HR := hide h
  clear h
  go_enter Try.func30, Try.ntmps30
  go_wp2_with fail
  go_loopw [10] (fun i wr => ∃ (j : Nat) (l' : List Int), j ≤ k ∧ i = .int .i64 j ∧ w.grownBy wr (some g) ∧ Hid (RowI wr B (some ⟨g, 0, none⟩) n c l') ∧
    Hid (∀ i, i < j → nth l' (a + i) = nth l (b + i) ∧ nth l' (b + i) = nth l (a + i)) ∧ Hid (∀ i, (i < a ∨ a + j ≤ i) → (i < b ∨ b + j ≤ i) → nth l' i = nth l i)) (fun i _ => k - (intOf i).toNat)
  case atStart => exact ⟨0, l, Nat.zero_le _, rfl, World.grownBy.refl w _, HR.out, (fun i hi => absurd hi (by omega)), fun _ _ _ => rfl⟩
  case round =>
    obtain ⟨j, l', hj, rfl, hgr, HL, H1, H2⟩ := hrel
    have HG := hide hgr
    clear hgr
    by_cases hlt : j < k
    · obtain ⟨ca, fa⟩ := HL.out.at_ (j := a + j) (by omega)
      obtain ⟨cb, fb⟩ := HL.out.at_ (j := b + j) (by omega)
      have HX := hide (HL.out.swap (i := a + j) (j := b + j) (by omega) (by omega))
      have hlen := HL.out.len
      have s0 : (0 : Int) ≤ (a : Int) + (j : Int) := by omega
      have s1 : (a : Int) + (j : Int) < (n : Int) := by omega
      have s2 : (0 : Int) ≤ (b : Int) + (j : Int) := by omega
      have s3 : (b : Int) + (j : Int) < (n : Int) := by omega
      have s4 : ((a : Int) + (j : Int)).toNat = a + j := by omega
      have s5 : ((b : Int) + (j : Int)).toNat = b + j := by omega
      have s6 : IntKind.i64.wrap ((a : Int) + (j : Int)) = (a : Int) + (j : Int) := IntWalk.i64_in _ (by omega)
      have s7 : IntKind.i64.wrap ((b : Int) + (j : Int)) = (b : Int) + (j : Int) := IntWalk.i64_in _ (by omega)
      have hne : a + j ≠ b + j := by omega
      go_wp2_with fail
      go_region
      go_wp2_with fail
      have HX2 := hide (show RowI ((wr.setCell ⟨g, a + j, none⟩ (.int .i64 (nth l' (b + j)))).setCell ⟨g, b + j, none⟩ (.int .i64 (nth l' (a + j)))).drew B (some ⟨g, 0, none⟩) n c (swapL l' (a + j) (b + j)) from RowG.drewN HX.out 1)
      have HG2 := hide (grown_drewN (grown_set (grown_set HG.out (a + j) (.int .i64 (nth l' (b + j)))) (b + j) (.int .i64 (nth l' (a + j)))) 1)
      have HN := hide (fun q => swapL_nth (l := l') (i := a + j) (j := b + j) (by omega) (by omega) q)
      go_roundw
      case rel => exact ⟨j + 1, _, by omega, by go_num, HG2.out, HX2.out, (fun i hi => by
        by_cases e : i = j
        · subst e
          rw [HN.out, HN.out, if_neg (by omega), if_pos rfl, if_pos rfl]
          exact ⟨H2.out (b + i) (by omega) (by omega), H2.out (a + i) (by omega) (by omega)⟩
        · rw [HN.out, HN.out, if_neg (by omega), if_neg (by omega), if_neg (by omega), if_neg (by omega)]
          exact H1.out i (by omega)), (fun i h1 h2 => by
        rw [HN.out, if_neg (by omega), if_neg (by omega)]
        exact H2.out i (by omega) (by omega))⟩
      case measure => simp [intOf]; omega
    · obtain rfl : j = k := by omega
      go_wp2_with fail
      go_end0
      exact ⟨rfl, HG.out, l', HL.out, H1.out, H2.out⟩

/-- Two rows beside each other of unlike lengths: what a part of the exchange leaves. -/
theorem rot_left {l0 l l' : List Int} {a m b i j : Nat} (hi : i ≤ m - a) (hj : j ≤ b - m) (ham : a ≤ m) (hmb : m ≤ b) : True := trivial

set_option maxRecDepth 100000 in
set_option maxHeartbeats 4000000 in
theorem insertion_any (g : Nat) (lt : Int → Int → Bool) (hw : Weak lt) (q : Nat) (R : World → Prop) (P : Int → Prop) (hc : Cmp g lt q R P) (B n c a b : Nat) (l : List Int) (w : World) (h : RowI w B (some ⟨g, 0, none⟩) n c l) (hR : R w) (hP : ∀ x ∈ l, P x)
    (hab : a ≤ b) (hbn : b ≤ n) (hn : n ≤ 1000000) (hup : ∀ i j, a ≤ i → i < j → j < b → nth l i < nth l j) :
    Calls Try.prog 27 #[.slice (some ⟨g, 0, none⟩) n c, .int .i64 (a : Int), .int .i64 (b : Int), .func (.func 18) #[] #[.pointer (some ⟨q, 0, none⟩)]] w fun e w' => e = .returned (.tuple #[]) ∧ w.grownBy w' (some g) ∧ ∃ l', RowI w' B (some ⟨g, 0, none⟩) n c l' ∧ Sub a b l l' ∧ Srt lt l' a b := by
  have HR := hide h
  have HRR := hide hR
  have HC := hide hc
  have HP := hide hP
  have HUP := hide hup
  have eg := Try.call18
  clear h hR hc hP hup
  go_enter Try.func27, Try.ntmps27
  go_wp2_with fail
  go_loopg [8] (b - a) (fun g1 vi wr => ∃ (i : Nat) (l1 : List Int), vi = .int .i64 i ∧ a < i ∧ i ≤ b + 1 ∧ b + 1 - i ≤ g1 + 1 ∧ w.grownBy wr (some g) ∧ Hid (RowI wr B (some ⟨g, 0, none⟩) n c l1) ∧ Hid (Sub a (min i b) l l1) ∧ Hid (Srt lt l1 a (min i b)))
  case atStart => exact ⟨a + 1, l, by go_num, by omega, by omega, by omega, World.grownBy.refl w _, HR.out, Sub.refl _ _ _, fun x y h1 h2 h3 => by omega⟩
  case round =>
    obtain ⟨gO, rfl⟩ : ∃ gO : Nat, gO = gk := ⟨_, rfl⟩
    obtain ⟨i, l1, rfl, hai, hib, hg1, hgr, HL, HS, HT⟩ := hrel
    have HG := hide hgr
    clear hgr
    by_cases hlt : i < b
    · have hmin : min i b = i := by omega
      rw [hmin] at HS HT
      clear hmin
      have hlen := HL.out.len
      have hl0 := HR.out.len
      -- the elements ahead have lower numbers
      have HLOW := hide (fun (k : Nat) (h1 : a ≤ k) (h2 : k < i) => show nth l1 k < nth l1 i from by
        obtain ⟨u, q1, q2, e⟩ := HS.out.in_ k h1 h2
        rw [e, HS.out.out i (by omega)]
        exact HUP.out u i q1 q2 hlt)
      have HPI := hide (fun (k : Nat) (h1 : k < n) => show P (nth l1 k) from by
        by_cases e : a ≤ k ∧ k < i
        · obtain ⟨u, q1, q2, e⟩ := HS.out.in_ k e.1 e.2
          rw [e]
          exact HP.out _ (nth_mem (by omega))
        · rw [HS.out.out k (by omega)]
          exact HP.out _ (nth_mem (by omega)))
      go_wp2_with fail
      go_loopg [9] i (fun g2 vj wr2 => ∃ (j : Nat) (l2 : List Int), vj = .int .i64 j ∧ a ≤ j ∧ j ≤ i ∧ j ≤ g2 ∧ w.grownBy wr2 (some g) ∧ Hid (RowI wr2 B (some ⟨g, 0, none⟩) n c l2) ∧ Hid (Down l1 l2 i j) ∧ Hid (∀ k, j ≤ k → k < i → LtP lt (nth l1 i) (nth l1 k)))
      case atStart => exact ⟨i, l1, rfl, by omega, Nat.le_refl _, Nat.le_refl _, HG.out, HL.out, Down.start _ _, fun k h1 h2 => by omega⟩
      case round =>
        obtain ⟨j, l2, rfl, haj, hji, hg2, hgr2, HL2, HD, HK⟩ := hrel
        have HG2 := hide hgr2
        clear hgr2
        -- where it stands at last
        have HOUT := hide (fun (hst : j = a ∨ lt (nth l1 i) (nth l1 (j - 1)) = false) => show Sub a (min (i + 1) b) l l2 ∧ Srt lt l2 a (min (i + 1) b) from by
          have hd := HD.out
          rw [show min (i + 1) b = i + 1 by omega]
          refine ⟨(HS.out.wider (Nat.le_refl _) (by omega)).trans (hd.sub haj hji (by omega)), hd.srt hw haj hji HT.out HK.out fun k h1 h2 => ?_⟩
          rcases hst with e | e
          · omega
          · have h3 : LtP lt (nth l1 (j - 1)) (nth l1 i) := (LtP.up (HLOW.out (j - 1) (by omega) (by omega))).2 e
            by_cases ek : k = j - 1
            · rw [ek]; exact h3
            · exact (HT.out k (j - 1) h1 (by omega) (by omega)).tr hw h3)
        by_cases hja : a < j
        · obtain ⟨p, hp⟩ : ∃ p, j = p + 1 := ⟨j - 1, by omega⟩
          have HJP := hide hp
          obtain ⟨cj, fj⟩ := HL2.out.at_ (j := j) (by omega)
          obtain ⟨cp, fp⟩ := HL2.out.at_ (j := p) (by omega)
          rw [HD.out.at_] at cj
          rw [HD.out.lo p (by omega)] at cp
          have HCALL := hide (fun W (hb : Below wr.heap.size wr W) => HC.out.call (nth l1 i) (nth l1 p) W (HC.out.goes _ _ (HC.out.goes _ _ HRR.out HG2.out) ⟨hb.os, hb.tape, hb.output, hb.size, fun u hu _ => hb.block u hu⟩) (HPI.out i (by omega)) (HPI.out p (by omega)))
          have hji1 : j - 1 = p := by omega
          rw [hji1] at HOUT
          have e1 : IntKind.i64.wrap ((j : Int) - 1) = (p : Int) := by rw [IntWalk.i64_in _ (by omega)]; omega
          have p0 : (0 : Int) ≤ (j : Int) := by omega
          have p1 : (j : Int) < (n : Int) := by omega
          have p2 : (0 : Int) ≤ (p : Int) := by omega
          have p3 : (p : Int) < (n : Int) := by omega
          have p4 : (a : Int) < (j : Int) := by omega
          have p5 : decide (a < j) = true := by simp; omega
          have hjn : j < n := by omega
          have hpn : p < n := by omega
          have hpi : p + 1 ≤ i := by omega
          have hil : i < l1.length := by omega
          have hjp : j ≠ p := by omega
          clear hp hji1
          go_wp2_with fail
          go_region_held3 (fun w' => w'.cell? ⟨g, j, none⟩ = some (.int .i64 (nth l1 i)) ∧ w'.cell? ⟨g, p, none⟩ = some (.int .i64 (nth l1 p))) (first | go_keep)
            (first
             | (go_at_call 18; (with_reducible refine (HCALL.out _ (Below.refl _ _).drew).mono ?_); rintro e w5 ⟨v, rfl, hv, hb5⟩; have HL5 := hide (show RowI w5 B (some ⟨g, 0, none⟩) n c l2 from RowG.below (RowG.drewN HL2.out 1) hb5); have HG5 := hide (show w.grownBy w5 (some g) from (grown_drewN HG2.out 1).trans ⟨hb5.os, hb5.tape, hb5.output, hb5.size, fun u hu _ => hb5.block u hu⟩); have HV := hide hv; clear hv hb5; obtain ⟨k1, k3⟩ := HL5.out.at_ (j := j) hjn; obtain ⟨k2, k4⟩ := HL5.out.at_ (j := p) hpn; rw [HD.out.at_] at k1; rw [HD.out.lo p (.inl (by have := HJP.out; clear e1; omega))] at k2))
          cases hlt2 : lt (nth l1 i) (nth l1 p)
          · have hv := HV.out
            rw [hlt2] at hv
            have hv2 : ¬ (v < 0) := by simpa using hv
            have HO := hide (HOUT.out (.inr hlt2))
            have hmin : min (i + 1) b = i + 1 := by clear e1; omega
            rw [hmin] at HO
            clear hv hlt2 hmin
            go_wp2_with fail
            clear e1
            go_roundg (b - (i + 1))
            case measure => omega
            case rel => exact ⟨i + 1, l2, by go_num, by omega, by omega, by omega, HG5.out, HL5.out, by rw [show min (i + 1) b = i + 1 by omega]; exact HO.out.1, by rw [show min (i + 1) b = i + 1 by omega]; exact HO.out.2⟩
          · have hv := HV.out
            rw [hlt2] at hv
            have hv2 : v < 0 := by simpa using hv
            have HLT := hide hlt2
            have HX := hide (HL5.out.swap (i := j) (j := p) hjn hpn)
            have hd := HD.out
            rw [HJP.out] at hd
            have HD2 := hide (hd.step hpi hil)
            rw [← HJP.out] at HD2
            have ej : nth l2 j = nth l1 i := HD.out.at_
            have ep : nth l2 p = nth l1 p := HD.out.lo p (.inl (by have := HJP.out; clear e1; omega))
            rw [ej, ep] at HX
            clear hv hlt2 ej ep hd
            go_wp2_with fail
            go_region
            go_wp2_with fail
            have HX2 := hide (show RowI ((w5.setCell ⟨g, j, none⟩ (.int .i64 (nth l1 p))).setCell ⟨g, p, none⟩ (.int .i64 (nth l1 i))).drew B (some ⟨g, 0, none⟩) n c (swapL l2 j p) from RowG.drewN HX.out 1)
            have HGX := hide (grown_drewN (grown_set (grown_set HG5.out j (.int .i64 (nth l1 p))) p (.int .i64 (nth l1 i))) 1)
            clear e1
            go_roundg p
            case measure => have := HJP.out; omega
            case rel => exact ⟨p, swapL l2 j p, rfl, by have := HJP.out; omega, by omega, by have := HJP.out; omega, HGX.out, HX2.out, HD2.out, fun k h1 h2 => by
              by_cases e : k = p
              · rw [e]; exact .inl HLT.out
              · exact HK.out k (by have := HJP.out; omega) h2⟩
        · have d1 : decide (a < j) = false := by simp; omega
          have d2 : ¬ ((a : Int) < (j : Int)) := by omega
          have HO := hide (HOUT.out (.inl (by omega)))
          go_wp2_with fail
          go_quiet (fail)
          go_wp2_with fail
          go_roundg (b - (i + 1))
          case measure => omega
          case rel => exact ⟨i + 1, l2, by go_num, by omega, by omega, by omega, grown_drewN HG2.out _, RowG.drewN HL2.out _, HO.out.1, HO.out.2⟩
    · have hmin : min i b = b := by omega
      rw [hmin] at HS HT
      clear hmin
      go_wp2_with fail
      go_end0
      exact ⟨rfl, HG.out, l1, HL.out, HS.out, HT.out⟩
end Go.Proofs.Ytfeflmpdbejhjaa
