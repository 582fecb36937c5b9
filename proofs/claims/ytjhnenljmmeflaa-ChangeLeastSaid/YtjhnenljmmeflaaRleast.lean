/- Contract of standishref1.Least. -/
import Derived.Test.YtjhnenljmmeflaaLeastL
import Derived.Test.YtjhnenljmmeflaaInv
namespace Go.Proofs.Ytjhnenljmmeflaa
open Go.RowKit
set_option linter.unusedVariables false

/-- s[k : len(s) - j] -/
theorem run_sub_end (A : Option Addr) (n c k j : Nat) (hc : n ≤ c) (hk : k + j ≤ n) (W : World) :
    (Instr.slice 22 (.slice A n c) (some (.int .i64 (k : Int))) (some (.int .i64 ((n : Int) - (j : Int)))) none).run Try.prog W = .ok (.slice (sub A c k) (n - k - j) (c - k)) W := by
  have h := run_sub_lh A n c k (n - k - j) (by omega) W
  rwa [show (k : Int) + ((n - k - j : Nat) : Int) = (n : Int) - (j : Int) by omega] at h

set_option maxHeartbeats 4000000 in
theorem rleast_any (S T : Option Addr) (n d m e' : Nat) (s t : List Int) (w : World) (hS : Runes w S n s) (hT : Runes w T m t) (hn : n ≤ 35184372088832) (hm : m ≤ 35184372088832) (hd : n ≤ d) (hd2 : d ≤ 9223372036854775807) (he : m ≤ e') (he2 : e' ≤ 9223372036854775807) :
    Calls Try.prog 38 #[.slice S n d, .slice T m e'] w (NewC w (leastA s t) (leastCut s t) (leastPut s t)) := by
  have HS := hide hS
  have HT := hide hT
  clear hS hT
  go_enter Try.func38, Try.ntmps38
  go_wp2_with fail
  go_loopw [5] (fun i wr => ∃ k q : Nat, k ≤ n ∧ k ≤ m ∧ i = .int .i64 k ∧ wr = (w.alloc (.cells #[.int .i64 0, .slice none 0 0, .slice none 0 0] 31)).drewN q ∧ Hid (∀ j, j < k → nth s j = nth t j)) (fun i _ => n - (intOf i).toNat)
  case atStart => exact ⟨0, 0, Nat.zero_le _, Nat.zero_le _, rfl, rfl, fun j hj => absurd hj (by omega)⟩
  case round =>
    obtain ⟨k, q, hk, hkm, rfl, rfl, hj⟩ := hrel
    by_cases hgo : k < n ∧ k < m ∧ nth s k = nth t k
    · obtain ⟨h1, h2, h3⟩ := hgo
      obtain ⟨ab, ao, rfl, hc⟩ := (HS.out.alloc (.cells #[.int .i64 0, .slice none 0 0, .slice none 0 0] 31)).at_ k h1
      obtain ⟨bb, bo, rfl, hd'⟩ := (HT.out.alloc (.cells #[.int .i64 0, .slice none 0 0, .slice none 0 0] 31)).at_ k h2
      have i1 : (k : Int) < (n : Int) := by omega
      have i2 : (k : Int) < (m : Int) := by omega
      have i0 : (0 : Int) ≤ (k : Int) := by omega
      have b1 : decide (k < n) = true := by simpa using h1
      have b2 : decide (k < m) = true := by simpa using h2
      have b3 : (nth s k == nth t k) = true := by simpa using h3
      have H3 := hide h3
      clear h3
      go_wp2_with fail
      go_quiet (fail)
      go_wp2
      go_roundw
      case rel => exact ⟨k + 1, _, by omega, by omega, by go_num, rfl, fun j h' => (by
        rcases Nat.lt_succ_iff_lt_or_eq.1 h' with h1 | h1
        · exact hj.out j h1
        · rw [h1]; exact H3.out)⟩
      case measure => simp [intOf]; omega
    · have hend : k = n ∨ (k < n ∧ k = m) ∨ (k < n ∧ k < m ∧ nth s k ≠ nth t k) := by
        by_cases h1 : k < n
        · by_cases h2 : k < m
          · exact .inr (.inr ⟨h1, h2, fun h3 => hgo ⟨h1, h2, h3⟩⟩)
          · exact .inr (.inl ⟨h1, by omega⟩)
        · exact .inl (by omega)
      have hA : leastA s t = k := leastA_eq (by rw [HS.out.len]; exact hk) (by rw [HT.out.len]; exact hkm) hj.out (by
        rw [HS.out.len, HT.out.len]
        rcases hend with h | h | h
        · exact .inl h
        · exact .inr (.inl h.2)
        · exact .inr (.inr h.2.2))
      have HA := hide hA
      have i0 : (0 : Int) ≤ (k : Int) := by omega
      have i3 : (k : Int) ≤ (n : Int) := by omega
      have i4 : (k : Int) ≤ (m : Int) := by omega
      clear hA hgo
      have HW := hide (show Below w.heap.size w (w.alloc (.cells #[.int .i64 0, .slice none 0 0, .slice none 0 0] 31)) from (Below.refl _ _).alloc (Nat.le_refl _) _)
      have HC := hide (fun (j : Nat) (h1 : j ≤ n - k) (h2 : j ≤ m - k) (W : World) (hb : Below w.heap.size w W) => copied_any k (sub S d k) (sub T e' k) (n - k - j) (d - k) (m - k - j) (e' - k) ((s.drop k).take (n - k - j)) ((t.drop k).take (m - k - j)) W ((HS.out.mid (by omega) hd).below hb) ((HT.out.mid (by omega) he).below hb) (by omega) (by omega))
      have HS1 := hide (fun (j : Nat) (h1 : k + j ≤ n) => run_sub_end S n d k j hd h1)
      have HS2 := hide (fun (j : Nat) (h1 : k + j ≤ m) => run_sub_end T m e' k j he h1)
      rcases hend with hend | hend | hend
      case' neg.inl =>
        have b1 : decide (k < n) = false := by simp; omega
        clear hend
        go_wp2_with fail
        go_quiet (fail)
        go_wp2
      case' neg.inr.inl =>
        have b1 : decide (k < n) = true := by simpa using hend.1
        have b2 : decide (k < m) = false := by simp; omega
        clear hend
        go_wp2_with fail
        go_quiet (fail)
        go_wp2
      case' neg.inr.inr =>
        obtain ⟨h1, h2, h3⟩ := hend
        obtain ⟨ab, ao, rfl, hc⟩ := (HS.out.alloc (.cells #[.int .i64 0, .slice none 0 0, .slice none 0 0] 31)).at_ k h1
        obtain ⟨bb, bo, rfl, hd'⟩ := (HT.out.alloc (.cells #[.int .i64 0, .slice none 0 0, .slice none 0 0] 31)).at_ k h2
        have i1 : (k : Int) < (n : Int) := by omega
        have i2 : (k : Int) < (m : Int) := by omega
        have b1 : decide (k < n) = true := by simpa using h1
        have b2 : decide (k < m) = true := by simpa using h2
        have b3 : (nth s k == nth t k) = false := by simpa using h3
        clear h1 h2 h3
        go_wp2_with fail
        go_quiet (fail)
        go_wp2
      all_goals
        go_loopw [6] (fun u wr => ∃ j q2 : Nat, u = .int .i64 j ∧ j ≤ n - k ∧ j ≤ m - k ∧ wr = (w.alloc (.cells #[.int .i64 0, .slice none 0 0, .slice none 0 0] 31)).drewN q2 ∧
            Hid (∀ i, i < j → nth s (n - 1 - i) = nth t (m - 1 - i))) (fun u _ => n - (intOf u).toNat)
        case atStart => exact ⟨0, _, rfl, Nat.zero_le _, Nat.zero_le _, by simp; rfl, fun j hj => absurd hj (by omega)⟩
        case round =>
          obtain ⟨j, q2, rfl, hp, hr, rfl, hjj⟩ := hrel
          have j0 : (0 : Int) ≤ (j : Int) := by omega
          have w1 : IntKind.i64.wrap ((n : Int) - (k : Int)) = (n : Int) - (k : Int) := IntWalk.i64_in _ (by omega)
          have w2 : IntKind.i64.wrap ((m : Int) - (k : Int)) = (m : Int) - (k : Int) := IntWalk.i64_in _ (by omega)
          have w3 : IntKind.i64.wrap ((n : Int) - 1) = (n : Int) - 1 := IntWalk.i64_in _ (by omega)
          have w4 : IntKind.i64.wrap ((m : Int) - 1) = (m : Int) - 1 := IntWalk.i64_in _ (by omega)
          have w5 : IntKind.i64.wrap ((n : Int) - 1 - (j : Int)) = (n : Int) - 1 - (j : Int) := IntWalk.i64_in _ (by omega)
          have w6 : IntKind.i64.wrap ((m : Int) - 1 - (j : Int)) = (m : Int) - 1 - (j : Int) := IntWalk.i64_in _ (by omega)
          by_cases hgo : j < n - k ∧ j < m - k ∧ nth s (n - 1 - j) = nth t (m - 1 - j)
          · obtain ⟨h1, h2, h3⟩ := hgo
            obtain ⟨ab, ao, hS, hc6⟩ := (HS.out.below HW.out).at_ (n - 1 - j) (by omega)
            obtain ⟨bb, bo, hT, hc7⟩ := (HT.out.below HW.out).at_ (m - 1 - j) (by omega)
            cases hS
            cases hT
            have c1 : decide ((j : Int) < (n : Int) - (k : Int)) = true := by simp; omega
            have c2 : decide ((j : Int) < (m : Int) - (k : Int)) = true := by simp; omega
            have i5 : (0 : Int) ≤ (n : Int) - 1 - (j : Int) := by omega
            have i6 : (n : Int) - 1 - (j : Int) < (n : Int) := by omega
            have i7 : (0 : Int) ≤ (m : Int) - 1 - (j : Int) := by omega
            have i8 : (m : Int) - 1 - (j : Int) < (m : Int) := by omega
            have c3 : (nth s (n - 1 - j) == nth t (m - 1 - j)) = true := by simpa using h3
            have H3 := hide h3
            clear h3
            go_wp2_with fail
            go_quiet (fail)
            go_wp2
            go_roundw
            case rel => exact ⟨j + 1, _, by go_num, by omega, by omega, by first | rfl | (simp; rfl), fun i hi => (by
              rcases Nat.lt_succ_iff_lt_or_eq.1 hi with h1 | h1
              · exact hjj.out i h1
              · rw [h1]; exact H3.out)⟩
            case measure => simp [intOf]; omega
          · have hend : j = n - k ∨ (j < n - k ∧ j = m - k) ∨ (j < n - k ∧ j < m - k ∧ nth s (n - 1 - j) ≠ nth t (m - 1 - j)) := by
              by_cases h1 : j < n - k
              · by_cases h2 : j < m - k
                · exact .inr (.inr ⟨h1, h2, fun h3 => hgo ⟨h1, h2, h3⟩⟩)
                · exact .inr (.inl ⟨h1, by omega⟩)
              · exact .inl (by omega)
            have hJ : leastJ s t = j := leastJ_eq (by rw [HA.out, HS.out.len]; omega) (by rw [HA.out, HT.out.len]; omega) (by rw [HS.out.len, HT.out.len]; exact hjj.out) (by
              rw [HA.out, HS.out.len, HT.out.len]
              rcases hend with h | h | h
              · exact .inl (by omega)
              · exact .inr (.inl (by omega))
              · exact .inr (.inr h.2.2))
            have eC : leastCut s t = (s.drop k).take (n - k - j) := by unfold leastCut; rw [hJ, HA.out, HS.out.len]
            have eP : leastPut s t = (t.drop k).take (m - k - j) := by unfold leastPut; rw [hJ, HA.out, HT.out.len]
            have C := hide (HC.out j (by omega) (by omega))
            have EC := hide eC
            have EP := hide eP
            have HD := hide (fun q => below_drewN HW.out q)
            have HY := hide (fun q => (Box.new w 31 #[.int .i64 0, .slice none 0 0, .slice none 0 0]).drewN q)
            have hs1 := HS1.out j (by omega)
            have hs2 := HS2.out j (by omega)
            have w7 : IntKind.i64.wrap ((n : Int) - (j : Int)) = (n : Int) - (j : Int) := IntWalk.i64_in _ (by omega)
            have w8 : IntKind.i64.wrap ((m : Int) - (j : Int)) = (m : Int) - (j : Int) := IntWalk.i64_in _ (by omega)
            clear hgo hJ eC eP
            rcases hend with hend | hend | hend
            case' neg.inl =>
              have c1 : decide ((j : Int) < (n : Int) - (k : Int)) = false := by simp; omega
              clear hend
              go_wp2_with fail
              go_quiet (fail)
            case' neg.inr.inl =>
              have c1 : decide ((j : Int) < (n : Int) - (k : Int)) = true := by simp; omega
              have c2 : decide ((j : Int) < (m : Int) - (k : Int)) = false := by simp; omega
              clear hend
              go_wp2_with fail
              go_quiet (fail)
            case' neg.inr.inr =>
              obtain ⟨h1, h2, h3⟩ := hend
              obtain ⟨ab, ao, hS, hc6⟩ := (HS.out.below HW.out).at_ (n - 1 - j) (by omega)
              obtain ⟨bb, bo, hT, hc7⟩ := (HT.out.below HW.out).at_ (m - 1 - j) (by omega)
              cases hS
              cases hT
              have c1 : decide ((j : Int) < (n : Int) - (k : Int)) = true := by simp; omega
              have c2 : decide ((j : Int) < (m : Int) - (k : Int)) = true := by simp; omega
              have i5 : (0 : Int) ≤ (n : Int) - 1 - (j : Int) := by omega
              have i6 : (n : Int) - 1 - (j : Int) < (n : Int) := by omega
              have i7 : (0 : Int) ≤ (m : Int) - 1 - (j : Int) := by omega
              have i8 : (m : Int) - 1 - (j : Int) < (m : Int) := by omega
              have c3 : (nth s (n - 1 - j) == nth t (m - 1 - j)) = false := by simpa using h3
              clear h3
              go_wp2_with fail
              go_quiet (fail)
            all_goals
              go_wp2_with fail
              go_region_held3 (fun _ => True) (first | trivial | go_keep)
                (first
                 | (go_at_call 32; (with_reducible refine (C.out _ (HD.out _)).mono ?_); rintro e w1 ⟨A1, n1, c1, A2, n2, c2, rfl, hown1, hown2, hap, hb1⟩; obtain ⟨⟨l0, l1, l2⟩, l3, l4, l5⟩ := ((HY.out _).below hb1).c3))
              have HZ := hide (((((HY.out _).below hb1).set 0 (.int .i64 k)).set 1 (.slice A1 n1 c1)).set 2 (.slice A2 n2 c2)).c3
              have hge1 := hown1.blk_ge
              have hge2 := hown2.blk_ge
              simp only [show ∀ (W : World) (q : Nat), (W.drewN q).heap.size = W.heap.size from fun _ _ => rfl, World.size_drew, World.size_alloc] at hge1 hge2
              rw [← EC.out] at hown1
              rw [← EP.out] at hown2
              have HF := hide (show NewC w (leastA s t) (leastCut s t) (leastPut s t) (.returned (.agg #[.int .i64 k, .slice A1 n1 c1, .slice A2 n2 c2])) (((w1.setCell ⟨w.heap.size, 0, none⟩ (.int .i64 k)).setCell ⟨w.heap.size, 1, none⟩ (.slice A1 n1 c1)).setCell ⟨w.heap.size, 2, none⟩ (.slice A2 n2 c2)) from
                ⟨A1, n1, c1, A2, n2, c2, by rw [HA.out], (hown1.mono (by simp)).far3 (g := w.heap.size) (fun e => by have := hge1 _ e; omega) _ _ _, (hown2.mono (by simp)).far3 (g := w.heap.size) (fun e => by have := hge2 _ e; omega) _ _ _, hap,
                  below3 ((HD.out _).trans (hb1.mono (by simp))) (Nat.le_refl _) _ _ _⟩)
              clear hown1 hown2 hb1 hge1 hge2 C EC EP HA HS HT HC HS1 HS2 hap
              go_wp2_with fail
              obtain ⟨⟨r0, r1, r2⟩, _⟩ := HZ.out
              exact bodyPost_ret (v := .agg #[.int .i64 k, .slice A1 n1 c1, .slice A2 n2 c2]) (by simp [results, Try.results38, go_sem, r0, r1, r2]) rfl HF.out
end Go.Proofs.Ytjhnenljmmeflaa
