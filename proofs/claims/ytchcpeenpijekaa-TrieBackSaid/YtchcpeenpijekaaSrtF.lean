/- Go's sort of runes, walked: heapSortOrdered. -/
import Derived.Test.YtchcpeenpijekaaSrtE
namespace Go.Proofs.Ytchcpeenpijekaa
open Go.RowKit
set_option linter.unusedVariables false

/-- The heap's part of a row up to k, the sorted part behind it. -/
structure HS (l : List Int) (a L k : Nat) : Prop where
  heap : Heap l a 0 k
  asc : Asc l (a + k) (a + L)
  le : ∀ p q, p < k → k ≤ q → q < L → nth l (a + p) ≤ nth l (a + q)
theorem HS.start {l : List Int} {a L : Nat} (h : Heap l a 0 L) : HS l a L L := ⟨h, Asc.small (by omega), fun p q h1 h2 h3 => by omega⟩
theorem HS.stop {l : List Int} {a L : Nat} (h : HS l a L 0) : Asc l a (a + L) := h.asc
theorem HS.swapped {l : List Int} {a L i : Nat} (h : HS l a L (i + 1)) (hi : i < L) (hl : a + L ≤ l.length) : Heap (swapL l a (a + i)) a (0 + 1) i := fun j hj c hc hh => by
  have hn := fun k => swapL_nth (l := l) (i := a) (j := a + i) (by omega) (by omega) k
  rw [hn, hn, if_neg (by omega), if_neg (by omega), if_neg (by omega), if_neg (by omega)]
  exact h.heap j (by omega) c hc (by omega)
theorem HS.step {l l3 : List Int} {a L i : Nat} (h : HS l a L (i + 1)) (hi : i < L) (hl : a + L ≤ l.length) (pm : Pm a (a + i) (swapL l a (a + i)) l3) (hp : Heap l3 a 0 i) : HS l3 a L i := by
  have hn := fun k => swapL_nth (l := l) (i := a) (j := a + i) (by omega) (by omega) k
  have top := h.heap.top
  refine ⟨hp, fun p q h1 h2 h3 => ?_, fun p q h1 h2 h3 => ?_⟩
  · rw [pm.out p (by omega), pm.out q (by omega), hn, hn, if_neg (show ¬ q = a + i by omega), if_neg (show ¬ q = a by omega)]
    by_cases e : p = a + i
    · rw [if_pos e]
      have := h.le 0 (q - a) (by omega) (by omega) (by omega)
      rw [show a + (q - a) = q by omega] at this
      exact this
    · rw [if_neg e, if_neg (by omega)]
      exact h.asc p q (by omega) h2 h3
  · obtain ⟨j, j1, j2, e⟩ := pm.in_ (a + p) (by omega) (by omega)
    have hj : ∃ j', j' < i + 1 ∧ nth (swapL l a (a + i)) j = nth l (a + j') := by
      rw [hn, if_neg (by omega)]
      by_cases e2 : j = a
      · exact ⟨i, by omega, by rw [if_pos e2]⟩
      · exact ⟨j - a, by omega, by rw [if_neg e2, show a + (j - a) = j by omega]⟩
    obtain ⟨j', hj1, hj2⟩ := hj
    rw [e, hj2, pm.out (a + q) (by omega), hn]
    by_cases e3 : q = i
    · rw [if_pos (by omega)]; exact top j' hj1
    · rw [if_neg (by omega), if_neg (by omega)]
      exact h.le j' q hj1 (by omega) h3

set_option maxRecDepth 100000 in
set_option maxHeartbeats 4000000 in
theorem heapsort_any (g B n c a b : Nat) (l : List Int) (w : World) (h : Own w B (some ⟨g, 0, none⟩) n c l) (hab : a < b) (hbn : b ≤ n) (hn : n ≤ 1000000) :
    Calls Try.prog 89 #[.slice (some ⟨g, 0, none⟩) n c, .int .i64 (a : Int), .int .i64 (b : Int)] w fun e w' => e = .returned (.tuple #[]) ∧ ∃ l', Srt w w' B g n c a b l l' ∧ Asc l' a b := by
  obtain ⟨L, hL⟩ : ∃ L, b = a + L := ⟨b - a, by omega⟩
  have HBL := hide hL
  have hL1 : 1 ≤ L := by omega
  have hLn : a + L ≤ n := by omega
  obtain ⟨m, hm⟩ : ∃ m, L - 1 = m := ⟨_, rfl⟩
  obtain ⟨q, hq⟩ : ∃ q, m / 2 = q := ⟨_, rfl⟩
  have hqq : 2 * q ≤ m ∧ m < 2 * q + 2 := by omega
  have HR := hide (Srt.refl h a b)
  have hH : Heap l a (q + 1) L := fun i h1 c hc hh => by omega
  have HH := hide hH
  have HSF := hide (fun (W : World) (l1 : List Int) (lo hi : Nat) (hW : Own W B (some ⟨g, 0, none⟩) n c l1) (h1 : lo ≤ hi) (h2 : a + hi ≤ n) (h3 : Heap l1 a (lo + 1) hi) => sift_any g B n c lo hi a l1 W hW h1 h2 hn h3)
  have e0 : IntKind.i64.wrap ((b : Int) - (a : Int)) = (L : Int) := by rw [IntWalk.i64_in _ (by omega)]; omega
  have e1 : IntKind.i64.wrap ((L : Int) - 1) = (m : Int) := by rw [IntWalk.i64_in _ (by omega)]; omega
  have e2 : (m : Int) / 2 = (q : Int) := by omega
  have HM := hide (And.intro hm (And.intro hq hqq))
  have hqL : q + 1 ≤ L := by omega
  have hmL : m + 1 = L := by omega
  have HML := hide hmL
  clear h hH hm hq hqq hmL hab hL
  go_enter Try.func89, Try.ntmps89
  go_wp2_with fail
  go_loopw [9] (fun vi wr => ∃ (z : Int) (k : Nat) (l1 : List Int), vi = .int .i64 z ∧ z + 1 = (k : Int) ∧ k ≤ L ∧ Hid (Srt w wr B g n c a b l l1) ∧ Hid (Heap l1 a k L)) (fun vi _ => (intOf vi + 1).toNat)
  case atStart => exact ⟨q, q + 1, l, rfl, by omega, hqL, HR.out, HH.out⟩
  case round =>
    obtain ⟨z, k, l1, rfl, hz, hk, HL, HD⟩ := hrel
    by_cases hz0 : 0 ≤ z
    · obtain ⟨i, rfl⟩ : ∃ i : Nat, z = (i : Int) := ⟨z.toNat, by omega⟩
      obtain rfl : k = i + 1 := by omega
      have e3 : IntKind.i64.wrap ((i : Int) - 1) = (i : Int) - 1 := IntWalk.i64_in _ (by omega)
      clear e2 e1 e0
      go_wp2_with fail
      refine (HSF.out wr l1 i L HL.out.own (by omega) hLn HD.out).mono ?_
      rintro e w1 ⟨rfl, l2, hs, hh⟩
      have HL2 := hide (HL.out.trans (hs.wider (Nat.le_refl _) (Nat.le_of_eq HBL.out.symm)))
      have HD2 := hide hh
      clear hs hh HL HD
      go_wp2_with fail
      clear e3
      go_roundw
      case rel => exact ⟨(i : Int) - 1, i, l2, rfl, by omega, by omega, HL2.out, HD2.out⟩
      case measure => simp [intOf]
    · obtain rfl : z = -1 := by omega
      obtain rfl : k = 0 := by omega
      have HD1 := hide (HS.start HD.out)
      clear HD hz hz0 hk
      go_wp2_with fail
      go_loopw [10] (fun vi wr2 => ∃ (z : Int) (k : Nat) (l2 : List Int), vi = .int .i64 z ∧ z + 1 = (k : Int) ∧ k ≤ L ∧ Hid (Srt w wr2 B g n c a b l l2) ∧ Hid (HS l2 a L k)) (fun vi _ => (intOf vi + 1).toNat)
      case atStart => exact ⟨m, L, l1, rfl, by have := HML.out; omega, Nat.le_refl _, HL.out, HD1.out⟩
      case round =>
        obtain ⟨z, k, l2, rfl, hz, hk, HL2, HD2⟩ := hrel
        by_cases hz0 : 0 ≤ z
        · obtain ⟨i, rfl⟩ : ∃ i : Nat, z = (i : Int) := ⟨z.toNat, by omega⟩
          obtain rfl : k = i + 1 := by omega
          have hiL : i < L := by omega
          have e3 : IntKind.i64.wrap ((i : Int) - 1) = (i : Int) - 1 := IntWalk.i64_in _ (by omega)
          obtain ⟨p, hp⟩ : ∃ p, a + i = p := ⟨_, rfl⟩
          have e4 : IntKind.i64.wrap ((a : Int) + (i : Int)) = (p : Int) := by rw [IntWalk.i64_in _ (by omega)]; omega
          have hpn : p < n := by omega
          have han : a < n := by omega
          have HP := hide hp
          have HXH := hide (HD2.out.swapped hiL (by rw [HL2.out.own.len]; exact hLn))
          rw [hp] at HXH
          clear e2 e1 e0 hp hz
          obtain ⟨ca, fa⟩ := HL2.out.own.at_ (j := a) han
          obtain ⟨cp, fp⟩ := HL2.out.own.at_ (j := p) hpn
          have HX := hide (HL2.out.swap (i := a) (j := p) (Nat.le_refl _) (by have := HBL.out; omega) (by have := HP.out; omega) (by have := HP.out; have := HBL.out; omega) hbn)
          have HNX := hide (fun (W : World) (hW : Own W B (some ⟨g, 0, none⟩) n c (swapL l2 a p)) => HSF.out W (swapL l2 a p) 0 i hW (Nat.zero_le _) (by omega) HXH.out)
          by_cases hap : a = p
          · subst hap
            go_wp2_with fail
            go_region
            go_wp2_with fail
            refine (HNX.out _ HX.out.own).mono ?_
            rintro e w1 ⟨rfl, l3, hs, hh⟩
            have HL3 := hide (HX.out.trans (hs.wider (Nat.le_refl _) (by have := HBL.out; omega)))
            have HD3 := hide (HD2.out.step hiL (by rw [HL2.out.own.len]; exact hLn) (by rw [HP.out]; have := hs.pm; rwa [HP.out] at this) hh)
            clear hs hh HX HNX HL2 HD2 ca fa cp fp
            go_wp2_with fail
            clear e3 e4
            go_roundw
            case rel => exact ⟨(i : Int) - 1, i, l3, rfl, by omega, by omega, HL3.out, HD3.out⟩
            case measure => simp [intOf]
          · go_wp2_with fail
            go_region
            go_wp2_with fail
            refine (HNX.out _ HX.out.own).mono ?_
            rintro e w1 ⟨rfl, l3, hs, hh⟩
            have HL3 := hide (HX.out.trans (hs.wider (Nat.le_refl _) (by have := HBL.out; omega)))
            have HD3 := hide (HD2.out.step hiL (by rw [HL2.out.own.len]; exact hLn) (by rw [HP.out]; have := hs.pm; rwa [HP.out] at this) hh)
            clear hs hh HX HNX HL2 HD2 ca fa cp fp
            go_wp2_with fail
            clear e3 e4
            go_roundw
            case rel => exact ⟨(i : Int) - 1, i, l3, rfl, by omega, by omega, HL3.out, HD3.out⟩
            case measure => simp [intOf]
        · obtain rfl : z = -1 := by omega
          obtain rfl : k = 0 := by omega
          clear hz hz0 hk
          go_wp2_with fail
          go_end0
          exact ⟨rfl, l2, HL2.out, by rw [HBL.out]; exact HD2.out.stop⟩
end Go.Proofs.Ytchcpeenpijekaa
