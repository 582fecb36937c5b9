/- Contracts of change.Least and standishref1.Least. -/
import Derived.Test.YtjhnenljmmeflaaLeastL
import Derived.Test.YtjhnenljmmeflaaInv
namespace Go.Proofs.Ytjhnenljmmeflaa
open Go.RowKit
set_option linter.unusedVariables false

def lenV : Value → Nat | .slice _ n _ => n | _ => 0

set_option maxHeartbeats 4000000 in
theorem cleast_any (S T : Option Addr) (n d m e' : Nat) (s t : List Int) (w : World) (hS : Runes w S n s) (hT : Runes w T m t) (hn : n ≤ 35184372088832) (hm : m ≤ 35184372088832) (hd : n ≤ d) (hd2 : d ≤ 9223372036854775807) (he : m ≤ e') (he2 : e' ≤ 9223372036854775807) :
    Calls Try.prog 36 #[.slice S n d, .slice T m e'] w (NewC w (leastA s t) (leastCut s t) (leastPut s t)) := by
  have HS := hide hS
  have HT := hide hT
  clear hS hT
  go_enter Try.func36, Try.ntmps36
  go_wp2_with fail
  go_loopw [5] (fun i wr => ∃ k q : Nat, k ≤ n ∧ k ≤ m ∧ i = .int .i64 k ∧ wr = (w.alloc (.cells #[.int .i64 0, .slice none 0 0, .slice none 0 0] 31)).drewN q ∧ Hid (∀ j, j < k → nth s j = nth t j)) (fun i _ => n - (intOf i).toNat)
  case atStart => exact ⟨0, 0, Nat.zero_le _, Nat.zero_le _, rfl, rfl, fun j hj => absurd hj (by omega)⟩
  case round =>
    obtain ⟨k, q, hk, hkm, rfl, rfl, hj⟩ := hrel
    by_cases hgo : k < n ∧ k < m ∧ nth s k = nth t k
    · obtain ⟨h1, h2, h3⟩ := hgo
      obtain ⟨ab, ao, rfl, hc⟩ := (HS.out.alloc (.cells #[.int .i64 0, .slice none 0 0, .slice none 0 0] 31)).at_ k h1
      obtain ⟨bb, bo, rfl, hd'⟩ := (HT.out.alloc (.cells #[.int .i64 0, .slice none 0 0, .slice none 0 0] 31)).at_ k h2
      have i1 : (k : Int) < (n : Int) := by omega
      have i2 : (k : Int) < (m : Int) := by omega
      have i0 : (0 : Int) ≤ (k : Int) := by omega
      have b1 : decide (k < n) = true := by simpa using h1
      have b2 : decide (k < m) = true := by simpa using h2
      have b3 : (nth s k == nth t k) = true := by simpa using h3
      have H3 := hide h3
      clear h3
      go_wp2_with fail
      go_quiet (fail)
      go_wp2
      go_roundw
      case rel => exact ⟨k + 1, _, by omega, by omega, by go_num, rfl, fun j h' => (by
        rcases Nat.lt_succ_iff_lt_or_eq.1 h' with h1 | h1
        · exact hj.out j h1
        · rw [h1]; exact H3.out)⟩
      case measure => simp [intOf]; omega
    · have hend : k = n ∨ (k < n ∧ k = m) ∨ (k < n ∧ k < m ∧ nth s k ≠ nth t k) := by
        by_cases h1 : k < n
        · by_cases h2 : k < m
          · exact .inr (.inr ⟨h1, h2, fun h3 => hgo ⟨h1, h2, h3⟩⟩)
          · exact .inr (.inl ⟨h1, by omega⟩)
        · exact .inl (by omega)
      have hA : leastA s t = k := leastA_eq (by rw [HS.out.len]; exact hk) (by rw [HT.out.len]; exact hkm) hj.out (by
        rw [HS.out.len, HT.out.len]
        rcases hend with h | h | h
        · exact .inl h
        · exact .inr (.inl h.2)
        · exact .inr (.inr h.2.2))
      have HA := hide hA
      have i0 : (0 : Int) ≤ (k : Int) := by omega
      have i3 : (k : Int) ≤ (n : Int) := by omega
      have i4 : (k : Int) ≤ (m : Int) := by omega
      have hs1 := run_sub_l S n d k hk
      have hs2 := run_sub_l T m e' k hkm
      clear hA hgo
      have hcS : k < n → ∃ b o, S = some ⟨b, o, none⟩ ∧ w.cell? ⟨b, o + k, none⟩ = some (.int .i32 (nth s k)) := fun h => HS.out.at_ k h
      have HW := hide (show Below w.heap.size w (w.alloc (.cells #[.int .i64 0, .slice none 0 0, .slice none 0 0] 31)) from (Below.refl _ _).alloc (Nat.le_refl _) _)
      have HXS := hide (fun W (hb : Below w.heap.size w W) => (HS.out.below hb).sub (a := k) (c := d) hk hd)
      have HXT := hide (fun W (hb : Below w.heap.size w W) => (HT.out.below hb).sub (a := k) (c := e') hkm he)
      clear hcS
      generalize sub S d k = A6 at hs1 HXS
      generalize sub T e' k = A7 at hs2 HXT
      rcases hend with hend | hend | hend
      case' neg.inl =>
        have b1 : decide (k < n) = false := by simp; omega
        clear hend
        go_wp2_with fail
        go_quiet (fail)
        go_wp2_with fail
        go_quiet (fail)
        go_wp2_with fail
      case' neg.inr.inl =>
        have b1 : decide (k < n) = true := by simpa using hend.1
        have b2 : decide (k < m) = false := by simp; omega
        clear hend
        go_wp2_with fail
        go_quiet (fail)
        go_wp2_with fail
        go_quiet (fail)
        go_wp2_with fail
      case' neg.inr.inr =>
        obtain ⟨h1, h2, h3⟩ := hend
        obtain ⟨ab, ao, rfl, hc⟩ := (HS.out.alloc (.cells #[.int .i64 0, .slice none 0 0, .slice none 0 0] 31)).at_ k h1
        obtain ⟨bb, bo, rfl, hd'⟩ := (HT.out.alloc (.cells #[.int .i64 0, .slice none 0 0, .slice none 0 0] 31)).at_ k h2
        have i1 : (k : Int) < (n : Int) := by omega
        have i2 : (k : Int) < (m : Int) := by omega
        have b1 : decide (k < n) = true := by simpa using h1
        have b2 : decide (k < m) = true := by simpa using h2
        have b3 : (nth s k == nth t k) = false := by simpa using h3
        clear h1 h2 h3
        go_wp2_with fail
        go_quiet (fail)
        go_wp2_with fail
        go_quiet (fail)
        go_wp2_with fail
      all_goals
        go_loopw [6, 7] (fun u v wr => ∃ p r j q2 : Nat, u = .slice A6 p (d - k) ∧ v = .slice A7 r (e' - k) ∧ p + j = n - k ∧ r + j = m - k ∧ wr = (w.alloc (.cells #[.int .i64 0, .slice none 0 0, .slice none 0 0] 31)).drewN q2 ∧
            Hid (∀ i, i < j → nth s (n - 1 - i) = nth t (m - 1 - i))) (fun u _ _ => lenV u)
        case atStart => exact ⟨n - k, m - k, 0, _, rfl, rfl, rfl, rfl, by simp; rfl, fun j hj => absurd hj (by omega)⟩
        case round =>
          obtain ⟨p, r, j, q2, rfl, rfl, hp, hr, rfl, hjj⟩ := hrel
          by_cases hgo : 0 < p ∧ 0 < r ∧ nth s (n - 1 - j) = nth t (m - 1 - j)
          · obtain ⟨h1, h2, h3⟩ := hgo
            obtain ⟨p, rfl⟩ : ∃ x, p = x + 1 := ⟨p - 1, by omega⟩
            obtain ⟨r, rfl⟩ : ∃ x, r = x + 1 := ⟨r - 1, by omega⟩
            obtain ⟨ab, ao, rfl, hc6⟩ := (HXS.out _ HW.out).at_ p (by omega)
            obtain ⟨bb, bo, rfl, hc7⟩ := (HXT.out _ HW.out).at_ r (by omega)
            rw [nth_drop, show k + p = n - 1 - j by omega] at hc6
            rw [nth_drop, show k + r = m - 1 - j by omega] at hc7
            have b3 : (nth s (n - 1 - j) == nth t (m - 1 - j)) = true := by simpa using h3
            have H3 := hide h3
            clear h3
            go_wp2_with fail
            go_quiet (fail)
            have i5 : (0 : Int) ≤ (p : Int) := by omega
            have i6 : (p : Int) ≤ ((d - k : Nat) : Int) := by omega
            have i7 : (0 : Int) ≤ (r : Int) := by omega
            have i8 : (r : Int) ≤ ((e' - k : Nat) : Int) := by omega
            have hs6 := run_sub_h (some ⟨ab, ao, none⟩) (p + 1) (d - k) p (by omega)
            have hs7 := run_sub_h (some ⟨bb, bo, none⟩) (r + 1) (e' - k) r (by omega)
            go_wp2_with fail
            go_quiet (fail)
            go_wp2
            go_roundw
            case rel => exact ⟨p, r, j + 1, _, rfl, rfl, by omega, by omega, by simp; rfl, fun i hi => (by
              rcases Nat.lt_succ_iff_lt_or_eq.1 hi with h1 | h1
              · exact hjj.out i h1
              · rw [h1]; exact H3.out)⟩
            case measure => simp [lenV]
          · have hend : p = 0 ∨ (0 < p ∧ r = 0) ∨ (0 < p ∧ 0 < r ∧ nth s (n - 1 - j) ≠ nth t (m - 1 - j)) := by
              by_cases h1 : 0 < p
              · by_cases h2 : 0 < r
                · exact .inr (.inr ⟨h1, h2, fun h3 => hgo ⟨h1, h2, h3⟩⟩)
                · exact .inr (.inl ⟨h1, by omega⟩)
              · exact .inl (by omega)
            have hJ : leastJ s t = j := leastJ_eq (by rw [HA.out, HS.out.len]; omega) (by rw [HA.out, HT.out.len]; omega) (by rw [HS.out.len, HT.out.len]; exact hjj.out) (by
              rw [HA.out, HS.out.len, HT.out.len]
              rcases hend with h | h | h
              · exact .inl (by omega)
              · exact .inr (.inl (by omega))
              · exact .inr (.inr h.2.2))
            have eC : leastCut s t = (s.drop k).take p := by unfold leastCut; rw [hJ, HA.out, HS.out.len]; congr 1; omega
            have eP : leastPut s t = (t.drop k).take r := by unfold leastPut; rw [hJ, HA.out, HT.out.len]; congr 1; omega
            have C1 := hide (fun W (hb : Below w.heap.size w W) => clone_any A6 p (d - k) ((s.drop k).take p) W ((HXS.out W hb).take (by omega)) (by omega))
            have C2 := hide (fun W (hb : Below w.heap.size w W) => clone_any A7 r (e' - k) ((t.drop k).take r) W ((HXT.out W hb).take (by omega)) (by omega))
            have EC := hide eC
            have EP := hide eP
            have HD := hide (fun q => below_drewN HW.out q)
            have HY := hide (fun q => (Box.new w 31 #[.int .i64 0, .slice none 0 0, .slice none 0 0]).drewN q)
            clear hgo hJ eC eP
            rcases hend with hend | hend | hend
            case' neg.inl =>
              have b1 : decide (0 < p) = false := by simp; omega
              clear hend
              go_wp2_with fail
              go_quiet (fail)
            case' neg.inr.inl =>
              have b1 : decide (0 < p) = true := by simpa using hend.1
              have b2 : decide (0 < r) = false := by simp; omega
              clear hend
              go_wp2_with fail
              go_quiet (fail)
            case' neg.inr.inr =>
              obtain ⟨h1, h2, h3⟩ := hend
              obtain ⟨p, rfl⟩ : ∃ x, p = x + 1 := ⟨p - 1, by omega⟩
              obtain ⟨r, rfl⟩ : ∃ x, r = x + 1 := ⟨r - 1, by omega⟩
              obtain ⟨ab, ao, rfl, hc6⟩ := (HXS.out _ HW.out).at_ p (by omega)
              obtain ⟨bb, bo, rfl, hc7⟩ := (HXT.out _ HW.out).at_ r (by omega)
              rw [nth_drop, show k + p = n - 1 - j by omega] at hc6
              rw [nth_drop, show k + r = m - 1 - j by omega] at hc7
              have b3 : (nth s (n - 1 - j) == nth t (m - 1 - j)) = false := by simpa using h3
              clear h1 h2 h3
              go_wp2_with fail
              go_quiet (fail)
            all_goals
              go_wp2_with fail
              refine (C1.out _ (HD.out _)).mono ?_
              rintro e w1 ⟨A1, n1, c1, rfl, hown1, hb1⟩
              go_wp2_with fail
              refine (C2.out _ ((HD.out _).trans (hb1.mono (by simp)))).mono ?_
              rintro e w2 ⟨A2, n2, c2, rfl, hown2, hb2⟩
              obtain ⟨⟨l0, l1, l2⟩, l3, l4, l5⟩ := (((HY.out _).below hb1).below hb2).c3
              have HZ := hide ((((((HY.out _).below hb1).below hb2).set 0 (.int .i64 k)).set 1 (.slice A1 n1 c1)).set 2 (.slice A2 n2 c2)).c3
              have hge1 := hown1.blk_ge
              have hge2 := hown2.blk_ge
              simp only [show ∀ (W : World) (q : Nat), (W.drewN q).heap.size = W.heap.size from fun _ _ => rfl, World.size_alloc] at hge1 hge2
              have hz1 := hb1.size
              simp only [show ∀ (W : World) (q : Nat), (W.drewN q).heap.size = W.heap.size from fun _ _ => rfl, World.size_alloc] at hz1
              rw [← EC.out] at hown1
              rw [← EP.out] at hown2
              have HF := hide (show NewC w (leastA s t) (leastCut s t) (leastPut s t) (.returned (.agg #[.int .i64 k, .slice A1 n1 c1, .slice A2 n2 c2])) (((w2.setCell ⟨w.heap.size, 0, none⟩ (.int .i64 k)).setCell ⟨w.heap.size, 1, none⟩ (.slice A1 n1 c1)).setCell ⟨w.heap.size, 2, none⟩ (.slice A2 n2 c2)) from
                ⟨A1, n1, c1, A2, n2, c2, by rw [HA.out], ((hown1.below hb2).mono (by simp)).far3 (g := w.heap.size) (fun e => by have := hge1 _ e; omega) _ _ _, (hown2.mono (by omega)).far3 (g := w.heap.size) (fun e => by have := hge2 _ e; omega) _ _ _,
                  apart_of (fun g hg => (hge1 g hg).2) (fun g hg => (hge2 g hg).1),
                  below3 (((HD.out _).trans (hb1.mono (by simp))).trans (hb2.mono (by omega))) (Nat.le_refl _) _ _ _⟩)
              clear hown1 hown2 hb1 hb2 hge1 hge2 C1 C2 EC EP HA HS HT HXS HXT
              go_wp2_with fail
              obtain ⟨⟨r0, r1, r2⟩, _⟩ := HZ.out
              exact bodyPost_ret (v := .agg #[.int .i64 k, .slice A1 n1 c1, .slice A2 n2 c2]) (by simp [results, Try.results36, go_sem, r0, r1, r2]) rfl HF.out
end Go.Proofs.Ytjhnenljmmeflaa
