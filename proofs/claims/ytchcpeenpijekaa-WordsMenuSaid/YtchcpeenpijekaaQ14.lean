/- Pieces, joined: SrtE, SrtF. -/
import Derived.Test.YtchcpeenpijekaaQ13

/- Go's sort of runes, walked: siftDownOrdered, heapSortOrdered. -/
namespace Go.Proofs.Ytchcpeenpijekaa
open Go.RowKit
set_option linter.unusedVariables false

/-- A heap: from lo on ahead of hi each one is at least its two children's. -/
def Heap (l : List Int) (f lo hi : Nat) : Prop := ∀ i, lo ≤ i → ∀ c, (c = 2 * i + 1 ∨ c = 2 * i + 2) → c < hi → nth l (f + c) ≤ nth l (f + i)
/-- A heap, but at r. -/
structure Sift (l : List Int) (f lo hi r : Nat) : Prop where
  rest : ∀ i, lo ≤ i → i ≠ r → ∀ c, (c = 2 * i + 1 ∨ c = 2 * i + 2) → c < hi → nth l (f + c) ≤ nth l (f + i)
  over : ∀ p, lo ≤ p → (r = 2 * p + 1 ∨ r = 2 * p + 2) → ∀ c, (c = 2 * r + 1 ∨ c = 2 * r + 2) → c < hi → nth l (f + c) ≤ nth l (f + p)
theorem Sift.start {l : List Int} {f lo hi : Nat} (h : Heap l f (lo + 1) hi) : Sift l f lo hi lo :=
  ⟨fun i h1 h2 c hc hh => h i (by omega) c hc hh, fun p h1 h2 => by omega⟩
theorem Sift.stop {l : List Int} {f lo hi r : Nat} (h : Sift l f lo hi r) (k : ∀ c, (c = 2 * r + 1 ∨ c = 2 * r + 2) → c < hi → nth l (f + c) ≤ nth l (f + r)) : Heap l f lo hi := fun i h1 c hc hh => by
  by_cases e : i = r
  · subst e; exact k c hc hh
  · exact h.rest i h1 e c hc hh
theorem Sift.step {l : List Int} {f lo hi r j : Nat} (h : Sift l f lo hi r) (hr : lo ≤ r) (hj : j = 2 * r + 1 ∨ j = 2 * r + 2) (hjh : j < hi) (hl : f + hi ≤ l.length)
    (hbig : ∀ c, (c = 2 * r + 1 ∨ c = 2 * r + 2) → c < hi → nth l (f + c) ≤ nth l (f + j)) (hlt : nth l (f + r) < nth l (f + j)) : Sift (swapL l (f + r) (f + j)) f lo hi j := by
  have hn := fun k => swapL_nth (l := l) (i := f + r) (j := f + j) (by omega) (by omega) k
  refine ⟨fun i h1 h2 c hc hh => ?_, fun p h1 h2 c hc hh => ?_⟩
  · rw [hn, hn, if_neg (show ¬ f + i = f + j by omega)]
    by_cases e : i = r
    · subst e
      rw [if_pos (show f + i = f + i from rfl)]
      by_cases e2 : c = j
      · subst e2; rw [if_pos rfl]; omega
      · rw [if_neg (show ¬ f + c = f + j by omega), if_neg (show ¬ f + c = f + i by omega)]
        exact hbig c hc hh
    · rw [if_neg (show ¬ f + i = f + r by omega)]
      by_cases e2 : c = j
      · omega
      · rw [if_neg (show ¬ f + c = f + j by omega)]
        by_cases e3 : c = r
        · subst e3
          rw [if_pos rfl]
          exact h.over i h1 hc j hj hjh
        · rw [if_neg (show ¬ f + c = f + r by omega)]
          exact h.rest i h1 e c hc hh
  · have e : p = r := by omega
    subst e
    rw [hn, hn, if_neg (show ¬ f + c = f + j by omega), if_neg (show ¬ f + c = f + p by omega), if_neg (show ¬ f + p = f + j by omega), if_pos rfl]
    exact h.rest j (by omega) (by omega) c hc hh
theorem Heap.top {l : List Int} {f hi : Nat} (h : Heap l f 0 hi) : ∀ j, j < hi → nth l (f + j) ≤ nth l (f + 0) := fun j => by
  induction j using Nat.strongRecOn with
  | _ j ih =>
    intro hj
    by_cases e : j = 0
    · subst e; exact Int.le_refl _
    · exact Int.le_trans (h ((j - 1) / 2) (Nat.zero_le _) j (by omega) hj) (ih ((j - 1) / 2) (by omega) (by omega))

set_option maxRecDepth 100000 in
set_option maxHeartbeats 4000000 in
theorem sift_any (g B n c lo hi f : Nat) (l : List Int) (w : World) (h : Own w B (some ⟨g, 0, none⟩) n c l) (hlo : lo ≤ hi) (hbn : f + hi ≤ n) (hn : n ≤ 1000000) (hp : Heap l f (lo + 1) hi) :
    Calls Try.prog 100 #[.slice (some ⟨g, 0, none⟩) n c, .int .i64 (lo : Int), .int .i64 (hi : Int), .int .i64 (f : Int)] w fun e w' => e = .returned (.tuple #[]) ∧ ∃ l', Srt w w' B g n c f (f + hi) l l' ∧ Heap l' f lo hi := by
  have HR := hide (Srt.refl h f (f + hi))
  have HS := hide (Sift.start hp)
  clear h hp
  go_enter Try.func100, Try.ntmps100
  go_wp2_with fail
  go_loopw [8] (fun vi wr => ∃ (r : Nat) (l1 : List Int), vi = .int .i64 r ∧ lo ≤ r ∧ r ≤ hi ∧ Hid (Srt w wr B g n c f (f + hi) l l1) ∧ Hid (Sift l1 f lo hi r)) (fun vi _ => hi - (intOf vi).toNat)
  case atStart => exact ⟨lo, l, rfl, Nat.le_refl _, hlo, HR.out, HS.out⟩
  case round =>
    obtain ⟨r, l1, rfl, hr, hrh, HL, HD⟩ := hrel
    by_cases hk : 2 * r + 1 < hi
    · obtain ⟨k, hkk⟩ : ∃ k, 2 * r + 1 = k := ⟨_, rfl⟩
      have e1 : IntKind.i64.wrap (2 * (r : Int) + 1) = (k : Int) := by rw [IntWalk.i64_in _ (by omega)]; omega
      have hkh : k < hi := by omega
      have HKK := hide hkk
      clear hk hkk
      obtain ⟨p, hp⟩ : ∃ p, f + k = p := ⟨_, rfl⟩
      have e2 : IntKind.i64.wrap ((f : Int) + (k : Int)) = (p : Int) := by rw [IntWalk.i64_in _ (by omega)]; omega
      have hpn : p < n := by omega
      obtain ⟨k2, hk2⟩ : ∃ k2, k + 1 = k2 := ⟨_, rfl⟩
      have e3 : IntKind.i64.wrap ((k : Int) + 1) = (k2 : Int) := by rw [IntWalk.i64_in _ (by omega)]; omega
      obtain ⟨p2, hp2⟩ : ∃ p2, p + 1 = p2 := ⟨_, rfl⟩
      have e4 : IntKind.i64.wrap ((p : Int) + 1) = (p2 : Int) := by rw [IntWalk.i64_in _ (by omega)]; omega
      have HP := hide (And.intro hp (And.intro hk2 hp2))
      have e5 : k2 < hi → p2 < n := by omega
      have hk2n : k2 ≤ n := by omega
      have hrn : r < n := by have := HKK.out; omega
      have hk2h : k2 ≤ hi := by omega
      clear hp hk2 hp2
      go_upto_region 3 with fail
      go_cut [36] (fun ss wx => ∃ (bb : Bool) (q : Nat), ss = .bool bb ∧ wx = wr.drewN q ∧ Hid (bb = (decide (k2 < hi) && ltB (nth l1 p) (nth l1 p2))))
      case first =>
        by_cases h2 : k2 < hi
        · have hp2n := e5 h2
          obtain ⟨cp, -⟩ := HL.out.own.at_ (j := p) hpn
          obtain ⟨cp2, -⟩ := HL.out.own.at_ (j := p2) hp2n
          obtain ⟨x, hx⟩ : ∃ x, nth l1 p = x := ⟨_, rfl⟩
          obtain ⟨y, hy⟩ : ∃ y, nth l1 p2 = y := ⟨_, rfl⟩
          rw [hx] at cp
          rw [hy] at cp2
          have HXY := hide (And.intro hx hy)
          have hd : decide (k2 < hi) = true := by simp; omega
          clear hx hy e1 e5
          cases hlt2 : ltB x y
          · have HLT := hide hlt2
            clear hlt2
            go_quiet ((go_at_call 94; exact Calls.quiet_of_same ((less_no x y _ (by have := ltB_no HLT.out; omega)).mono fun e w' h => ⟨h.1, h.2.symm⟩)))
            go_wp2_with fail
            go_meet
            exact ⟨_, nq, rfl, rfl, by rw [HXY.out.1, HXY.out.2, HLT.out, Bool.and_false]; rfl⟩
          · have HLT := hide hlt2
            clear hlt2
            go_quiet ((go_at_call 94; exact Calls.quiet_of_same ((less_yes x y _ (ltB_yes HLT.out)).mono fun e w' h => ⟨h.1, h.2.symm⟩)))
            go_wp2_with fail
            go_meet
            exact ⟨_, nq, rfl, rfl, by rw [HXY.out.1, HXY.out.2, HLT.out, hd]; rfl⟩
        · have hd : decide (k2 < hi) = false := by simp; omega
          have hd2 : hi ≤ k2 := by omega
          clear e1 e5
          go_quiet (fail)
          go_wp2_with fail
          go_meet
          exact ⟨_, nq, rfl, rfl, by rw [hd]; rfl⟩
      case rest =>
        obtain ⟨bb, q, rfl, rfl, HB⟩ := hcut
        have HL2 := hide (HL.out.drewN q)
        generalize wr.drewN q = wq at HL2 ⊢
        clear HL e1
        go_upto_if 36 with fail
        go_cut [9] (fun ss wx => ∃ (j : Nat), ss = .int .i64 j ∧ wx = wq ∧ Hid ((j = 2 * r + 1 ∨ j = 2 * r + 2) ∧ j < hi ∧ ∀ c, (c = 2 * r + 1 ∨ c = 2 * r + 2) → c < hi → nth l1 (f + c) ≤ nth l1 (f + j)))
        case first =>
          cases bb
          · go_wp2_with fail
            go_meet
            refine ⟨k, rfl, rfl, by have := HKK.out; omega, hkh, fun c hc hh => ?_⟩
            have hb := HB.out
            have h1 := HKK.out
            have h2 := HP.out
            rcases hc with rfl | rfl
            · rw [h1]; exact Int.le_refl _
            · have hd : decide (k2 < hi) = true := by simp; omega
              rw [hd, Bool.true_and] at hb
              have := ltB_no hb.symm
              rw [show f + (2 * r + 2) = p2 by omega, show f + k = p by omega]
              exact this
          · go_wp2_with fail
            go_meet
            have hb := HB.out
            have h1 := HKK.out
            have h2 := HP.out
            have h3 : k2 < hi ∧ ltB (nth l1 p) (nth l1 p2) = true := by simpa using hb.symm
            refine ⟨k2, rfl, rfl, by omega, h3.1, fun c hc hh => ?_⟩
            rcases hc with rfl | rfl
            · have := ltB_yes h3.2
              rw [show f + (2 * r + 1) = p by omega, show f + k2 = p2 by omega]
              omega
            · rw [show f + (2 * r + 2) = p2 by omega, show f + k2 = p2 by omega]; exact Int.le_refl _
        case rest =>
          obtain ⟨j, rfl, hwc, HJ⟩ := hcut
          rw [hwc]
          clear hwc HB HP HKK e2 e3 e4 e5 hpn hk2n hk2h hkh
          obtain ⟨a, ha⟩ : ∃ a, f + r = a := ⟨_, rfl⟩
          obtain ⟨b, hb⟩ : ∃ b, f + j = b := ⟨_, rfl⟩
          have hj1 : j < hi := HJ.out.2.1
          have hjr : r < j := by have := HJ.out.1; omega
          have e1 : IntKind.i64.wrap ((f : Int) + (r : Int)) = (a : Int) := by rw [IntWalk.i64_in _ (by omega)]; omega
          have e2 : IntKind.i64.wrap ((f : Int) + (j : Int)) = (b : Int) := by rw [IntWalk.i64_in _ (by omega)]; omega
          have han : a < n := by omega
          have hbn2 : b < n := by omega
          have hab : a ≠ b := by omega
          have HAB := hide (And.intro ha hb)
          clear ha hb
          obtain ⟨ca, fa⟩ := HL2.out.own.at_ (j := a) han
          obtain ⟨cb, fb⟩ := HL2.out.own.at_ (j := b) hbn2
          obtain ⟨x, hx⟩ : ∃ x, nth l1 a = x := ⟨_, rfl⟩
          obtain ⟨y, hy⟩ : ∃ y, nth l1 b = y := ⟨_, rfl⟩
          rw [hx] at ca
          rw [hy] at cb
          have HXY := hide (And.intro hx hy)
          clear hx hy
          cases hlt2 : ltB x y
          · have HLT := hide hlt2
            clear hlt2
            go_wp2_with fail
            go_quiet ((go_at_call 94; exact Calls.quiet_of_same ((less_no x y _ (by have := ltB_no HLT.out; omega)).mono fun e w' h => ⟨h.1, h.2.symm⟩)))
            have HL3 := hide (HL2.out.drewN nq)
            clear ca cb fa fb
            go_wp2_with fail
            refine bodyPost_ret (results_none rfl _ _ _) rfl ?_
            refine ⟨rfl, l1, HL3.out, HD.out.stop fun c hc hh => Int.le_trans (HJ.out.2.2 c hc hh) ?_⟩
            rw [HAB.out.1, HAB.out.2, HXY.out.1, HXY.out.2]
            exact ltB_no HLT.out
          · have HLT := hide hlt2
            clear hlt2
            go_wp2_with fail
            go_quiet ((go_at_call 94; exact Calls.quiet_of_same ((less_yes x y _ (ltB_yes HLT.out)).mono fun e w' h => ⟨h.1, h.2.symm⟩)))
            have HL3 := hide (HL2.out.drewN nq)
            have HX := hide (HL3.out.swap (i := a) (j := b) (by have := HAB.out; omega) (by have := HAB.out; omega) (by have := HAB.out; omega) (by have := HAB.out; omega) hbn)
            have hd := HD.out.step hr HJ.out.1 hj1 (by rw [HL2.out.own.len]; exact hbn) HJ.out.2.2 (by rw [HAB.out.1, HAB.out.2, HXY.out.1, HXY.out.2]; exact ltB_yes HLT.out)
            rw [HAB.out.1, HAB.out.2] at hd
            have HD2 := hide hd
            rw [HXY.out.1, HXY.out.2] at HX
            obtain ⟨wz, hwz⟩ : ∃ wz, wz = wq.drewN nq := ⟨_, rfl⟩
            have cj2 : wz.cell? ⟨g, a, none⟩ = some (.int .i32 x) := by rw [hwz]; exact ca
            have cp2 : wz.cell? ⟨g, b, none⟩ = some (.int .i32 y) := by rw [hwz]; exact cb
            have fj2 : wz.frozen? ⟨g, a, none⟩ = false := by rw [hwz]; exact fa
            have fp2 : wz.frozen? ⟨g, b, none⟩ = false := by rw [hwz]; exact fb
            rw [← hwz] at HX ⊢
            clear hwz ca cb fa fb hd HL3
            go_wp2_with fail
            go_region
            go_wp2_with fail
            clear e1 e2
            go_roundw
            case rel => exact ⟨j, swapL l1 a b, rfl, by omega, by omega, HX.out, HD2.out⟩
            case measure => simp [intOf]; omega
    · have d1 : hi ≤ 2 * r + 1 := by omega
      go_wp2_with fail
      go_end0
      exact ⟨rfl, l1, HL.out, HD.out.stop fun c hc hh => by omega⟩
end Go.Proofs.Ytchcpeenpijekaa

/- Go's sort of runes, walked: heapSortOrdered. -/
namespace Go.Proofs.Ytchcpeenpijekaa
open Go.RowKit
set_option linter.unusedVariables false

/-- The heap's part of a row up to k, the sorted part behind it. -/
structure HS (l : List Int) (a L k : Nat) : Prop where
  heap : Heap l a 0 k
  asc : Asc l (a + k) (a + L)
  le : ∀ p q, p < k → k ≤ q → q < L → nth l (a + p) ≤ nth l (a + q)
theorem HS.start {l : List Int} {a L : Nat} (h : Heap l a 0 L) : HS l a L L := ⟨h, Asc.small (by omega), fun p q h1 h2 h3 => by omega⟩
theorem HS.stop {l : List Int} {a L : Nat} (h : HS l a L 0) : Asc l a (a + L) := h.asc
theorem HS.swapped {l : List Int} {a L i : Nat} (h : HS l a L (i + 1)) (hi : i < L) (hl : a + L ≤ l.length) : Heap (swapL l a (a + i)) a (0 + 1) i := fun j hj c hc hh => by
  have hn := fun k => swapL_nth (l := l) (i := a) (j := a + i) (by omega) (by omega) k
  rw [hn, hn, if_neg (by omega), if_neg (by omega), if_neg (by omega), if_neg (by omega)]
  exact h.heap j (by omega) c hc (by omega)
theorem HS.step {l l3 : List Int} {a L i : Nat} (h : HS l a L (i + 1)) (hi : i < L) (hl : a + L ≤ l.length) (pm : Pm a (a + i) (swapL l a (a + i)) l3) (hp : Heap l3 a 0 i) : HS l3 a L i := by
  have hn := fun k => swapL_nth (l := l) (i := a) (j := a + i) (by omega) (by omega) k
  have top := h.heap.top
  refine ⟨hp, fun p q h1 h2 h3 => ?_, fun p q h1 h2 h3 => ?_⟩
  · rw [pm.out p (by omega), pm.out q (by omega), hn, hn, if_neg (show ¬ q = a + i by omega), if_neg (show ¬ q = a by omega)]
    by_cases e : p = a + i
    · rw [if_pos e]
      have := h.le 0 (q - a) (by omega) (by omega) (by omega)
      rw [show a + (q - a) = q by omega] at this
      exact this
    · rw [if_neg e, if_neg (by omega)]
      exact h.asc p q (by omega) h2 h3
  · obtain ⟨j, j1, j2, e⟩ := pm.in_ (a + p) (by omega) (by omega)
    have hj : ∃ j', j' < i + 1 ∧ nth (swapL l a (a + i)) j = nth l (a + j') := by
      rw [hn, if_neg (by omega)]
      by_cases e2 : j = a
      · exact ⟨i, by omega, by rw [if_pos e2]⟩
      · exact ⟨j - a, by omega, by rw [if_neg e2, show a + (j - a) = j by omega]⟩
    obtain ⟨j', hj1, hj2⟩ := hj
    rw [e, hj2, pm.out (a + q) (by omega), hn]
    by_cases e3 : q = i
    · rw [if_pos (by omega)]; exact top j' hj1
    · rw [if_neg (by omega), if_neg (by omega)]
      exact h.le j' q hj1 (by omega) h3

set_option maxRecDepth 100000 in
set_option maxHeartbeats 4000000 in
theorem heapsort_any (g B n c a b : Nat) (l : List Int) (w : World) (h : Own w B (some ⟨g, 0, none⟩) n c l) (hab : a < b) (hbn : b ≤ n) (hn : n ≤ 1000000) :
    Calls Try.prog 89 #[.slice (some ⟨g, 0, none⟩) n c, .int .i64 (a : Int), .int .i64 (b : Int)] w fun e w' => e = .returned (.tuple #[]) ∧ ∃ l', Srt w w' B g n c a b l l' ∧ Asc l' a b := by
  obtain ⟨L, hL⟩ : ∃ L, b = a + L := ⟨b - a, by omega⟩
  have HBL := hide hL
  have hL1 : 1 ≤ L := by omega
  have hLn : a + L ≤ n := by omega
  obtain ⟨m, hm⟩ : ∃ m, L - 1 = m := ⟨_, rfl⟩
  obtain ⟨q, hq⟩ : ∃ q, m / 2 = q := ⟨_, rfl⟩
  have hqq : 2 * q ≤ m ∧ m < 2 * q + 2 := by omega
  have HR := hide (Srt.refl h a b)
  have hH : Heap l a (q + 1) L := fun i h1 c hc hh => by omega
  have HH := hide hH
  have HSF := hide (fun (W : World) (l1 : List Int) (lo hi : Nat) (hW : Own W B (some ⟨g, 0, none⟩) n c l1) (h1 : lo ≤ hi) (h2 : a + hi ≤ n) (h3 : Heap l1 a (lo + 1) hi) => sift_any g B n c lo hi a l1 W hW h1 h2 hn h3)
  have e0 : IntKind.i64.wrap ((b : Int) - (a : Int)) = (L : Int) := by rw [IntWalk.i64_in _ (by omega)]; omega
  have e1 : IntKind.i64.wrap ((L : Int) - 1) = (m : Int) := by rw [IntWalk.i64_in _ (by omega)]; omega
  have e2 : (m : Int) / 2 = (q : Int) := by omega
  have HM := hide (And.intro hm (And.intro hq hqq))
  have hqL : q + 1 ≤ L := by omega
  have hmL : m + 1 = L := by omega
  have HML := hide hmL
  clear h hH hm hq hqq hmL hab hL
  go_enter Try.func89, Try.ntmps89
  go_wp2_with fail
  go_loopw [9] (fun vi wr => ∃ (z : Int) (k : Nat) (l1 : List Int), vi = .int .i64 z ∧ z + 1 = (k : Int) ∧ k ≤ L ∧ Hid (Srt w wr B g n c a b l l1) ∧ Hid (Heap l1 a k L)) (fun vi _ => (intOf vi + 1).toNat)
  case atStart => exact ⟨q, q + 1, l, rfl, by omega, hqL, HR.out, HH.out⟩
  case round =>
    obtain ⟨z, k, l1, rfl, hz, hk, HL, HD⟩ := hrel
    by_cases hz0 : 0 ≤ z
    · obtain ⟨i, rfl⟩ : ∃ i : Nat, z = (i : Int) := ⟨z.toNat, by omega⟩
      obtain rfl : k = i + 1 := by omega
      have e3 : IntKind.i64.wrap ((i : Int) - 1) = (i : Int) - 1 := IntWalk.i64_in _ (by omega)
      clear e2 e1 e0
      go_wp2_with fail
      refine (HSF.out wr l1 i L HL.out.own (by omega) hLn HD.out).mono ?_
      rintro e w1 ⟨rfl, l2, hs, hh⟩
      have HL2 := hide (HL.out.trans (hs.wider (Nat.le_refl _) (Nat.le_of_eq HBL.out.symm)))
      have HD2 := hide hh
      clear hs hh HL HD
      go_wp2_with fail
      clear e3
      go_roundw
      case rel => exact ⟨(i : Int) - 1, i, l2, rfl, by omega, by omega, HL2.out, HD2.out⟩
      case measure => simp [intOf]
    · obtain rfl : z = -1 := by omega
      obtain rfl : k = 0 := by omega
      have HD1 := hide (HS.start HD.out)
      clear HD hz hz0 hk
      go_wp2_with fail
      go_loopw [10] (fun vi wr2 => ∃ (z : Int) (k : Nat) (l2 : List Int), vi = .int .i64 z ∧ z + 1 = (k : Int) ∧ k ≤ L ∧ Hid (Srt w wr2 B g n c a b l l2) ∧ Hid (HS l2 a L k)) (fun vi _ => (intOf vi + 1).toNat)
      case atStart => exact ⟨m, L, l1, rfl, by have := HML.out; omega, Nat.le_refl _, HL.out, HD1.out⟩
      case round =>
        obtain ⟨z, k, l2, rfl, hz, hk, HL2, HD2⟩ := hrel
        by_cases hz0 : 0 ≤ z
        · obtain ⟨i, rfl⟩ : ∃ i : Nat, z = (i : Int) := ⟨z.toNat, by omega⟩
          obtain rfl : k = i + 1 := by omega
          have hiL : i < L := by omega
          have e3 : IntKind.i64.wrap ((i : Int) - 1) = (i : Int) - 1 := IntWalk.i64_in _ (by omega)
          obtain ⟨p, hp⟩ : ∃ p, a + i = p := ⟨_, rfl⟩
          have e4 : IntKind.i64.wrap ((a : Int) + (i : Int)) = (p : Int) := by rw [IntWalk.i64_in _ (by omega)]; omega
          have hpn : p < n := by omega
          have han : a < n := by omega
          have HP := hide hp
          have HXH := hide (HD2.out.swapped hiL (by rw [HL2.out.own.len]; exact hLn))
          rw [hp] at HXH
          clear e2 e1 e0 hp hz
          obtain ⟨ca, fa⟩ := HL2.out.own.at_ (j := a) han
          obtain ⟨cp, fp⟩ := HL2.out.own.at_ (j := p) hpn
          have HX := hide (HL2.out.swap (i := a) (j := p) (Nat.le_refl _) (by have := HBL.out; omega) (by have := HP.out; omega) (by have := HP.out; have := HBL.out; omega) hbn)
          have HNX := hide (fun (W : World) (hW : Own W B (some ⟨g, 0, none⟩) n c (swapL l2 a p)) => HSF.out W (swapL l2 a p) 0 i hW (Nat.zero_le _) (by omega) HXH.out)
          by_cases hap : a = p
          · subst hap
            go_wp2_with fail
            go_region
            go_wp2_with fail
            refine (HNX.out _ HX.out.own).mono ?_
            rintro e w1 ⟨rfl, l3, hs, hh⟩
            have HL3 := hide (HX.out.trans (hs.wider (Nat.le_refl _) (by have := HBL.out; omega)))
            have HD3 := hide (HD2.out.step hiL (by rw [HL2.out.own.len]; exact hLn) (by rw [HP.out]; have := hs.pm; rwa [HP.out] at this) hh)
            clear hs hh HX HNX HL2 HD2 ca fa cp fp
            go_wp2_with fail
            clear e3 e4
            go_roundw
            case rel => exact ⟨(i : Int) - 1, i, l3, rfl, by omega, by omega, HL3.out, HD3.out⟩
            case measure => simp [intOf]
          · go_wp2_with fail
            go_region
            go_wp2_with fail
            refine (HNX.out _ HX.out.own).mono ?_
            rintro e w1 ⟨rfl, l3, hs, hh⟩
            have HL3 := hide (HX.out.trans (hs.wider (Nat.le_refl _) (by have := HBL.out; omega)))
            have HD3 := hide (HD2.out.step hiL (by rw [HL2.out.own.len]; exact hLn) (by rw [HP.out]; have := hs.pm; rwa [HP.out] at this) hh)
            clear hs hh HX HNX HL2 HD2 ca fa cp fp
            go_wp2_with fail
            clear e3 e4
            go_roundw
            case rel => exact ⟨(i : Int) - 1, i, l3, rfl, by omega, by omega, HL3.out, HD3.out⟩
            case measure => simp [intOf]
        · obtain rfl : z = -1 := by omega
          obtain rfl : k = 0 := by omega
          clear hz hz0 hk
          go_wp2_with fail
          go_end0
          exact ⟨rfl, l2, HL2.out, by rw [HBL.out]; exact HD2.out.stop⟩
end Go.Proofs.Ytchcpeenpijekaa
