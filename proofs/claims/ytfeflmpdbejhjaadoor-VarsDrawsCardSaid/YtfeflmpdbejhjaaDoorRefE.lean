/- The reference's numbers: hex, Digits; Plain. -/
import Derived.Test.YtfeflmpdbejhjaaDoorPad
import Derived.Test.YtfeflmpdbejhjaaDoorStr
import Derived.OwnWalk
import Derived.Deep.Cut
namespace Go.Proofs.YtfeflmpdbejhjaaDoor
open Go.RowKit
set_option linter.unusedVariables false

/-- Bytes as runes. -/
def ru (l : List UInt8) : List Int := l.map fun b => (b.toNat : Int)
theorem plainS_ru (l : List UInt8) : plainS ⟨l.toArray⟩ = ru l := by simp [plainS, ru]
theorem ru_len (l : List UInt8) : (ru l).length = l.length := by simp [ru]
theorem w32_ru (l : List UInt8) : W32 (ru l) := by rw [← plainS_ru]; exact w32_plain _
theorem ru_at {l : List UInt8} {j : Nat} (h : j < l.length) : nth (ru l) j = (l[j].toNat : Int) := by
  rw [nth_eq (by rw [ru_len]; exact h)]
  simp [ru]
theorem rowH_at (u k j : Nat) (h : j < k) : nth (ru (rowH u k)) j = ((dgh u (k - 1 - j)).toNat : Int) := by
  rw [ru_at (by rw [rowH_len]; exact h)]
  simp [rowH]

theorem and_15i (x : Nat) (h : x < 16777216) : bits .and .i64 (x : Int) 15 = ((x % 16 : Nat) : Int) := by
  have h0 : bits .and .i64 (x : Int) 15 = IntKind.i64.wrap ((BitVec.ofInt 64 x &&& BitVec.ofInt 64 15).toNat : Int) := rfl
  have h1 : (BitVec.ofInt 64 (x : Int)).toNat = x := by
    rw [BitVec.toNat_ofInt]
    have : ((x : Int) % (2 ^ 64 : Nat)).toNat = x := by omega
    exact this
  have hb : (BitVec.ofInt 64 (x : Int) &&& BitVec.ofInt 64 15).toNat = x % 16 := by
    rw [BitVec.toNat_and, h1]
    exact Nat.and_two_pow_sub_one_eq_mod x 4
  rw [h0, hb, IntKind.wrap_i64]
  omega
theorem hxd_small : ∀ d : Fin 16, (hxd d.val).toNat = if d.val < 10 then 48 + d.val else 87 + d.val := by decide +kernel
theorem hxd_num {d : Nat} (h : d < 16) : (hxd d).toNat = if d < 10 then 48 + d else 87 + d := hxd_small ⟨d, h⟩

set_option maxRecDepth 100000 in
set_option maxHeartbeats 2000000 in
theorem hex_any (n : Nat) (hn : n < 16777216) (w : World) : Calls Tryd.prog 30 #[.int .i64 n] w (NewR w (ru (rowH n 6))) := by
  obtain ⟨g, hg⟩ : ∃ g, w.heap.size = g := ⟨_, rfl⟩
  go_enter Tryd.func30, Tryd.ntmps30
  go_wp2_with fail
  go_loopw [3, 4, 5] (fun s3 s4 _ wx => ∃ (j : Nat) (A : Option Addr) (cap : Nat), j ≤ 6 ∧ s3 = .slice A j cap ∧ s4 = .int .i64 (20 - 4 * (j : Int)) ∧ Hid (Own wx g A j cap ((ru (rowH n 6)).take j)) ∧ Hid (Below g w wx)) (fun _ s4 _ _ => (intOf s4 + 4).toNat)
  case atStart => exact ⟨0, none, 0, by omega, rfl, rfl, Own.nil _ _, hg ▸ Below.refl _ _⟩
  case round =>
    obtain ⟨j, A, cap, hj, rfl, rfl, HO, HB⟩ := hrel
    have hgw : g ≤ wr.heap.size := by have := HB.out.size; omega
    have hL : (ru (rowH n 6)).length = 6 := by rw [ru_len, rowH_len]
    by_cases hlt : j < 6
    · have h1 : (0 : Int) ≤ 20 - 4 * (j : Int) := by omega
      obtain ⟨d, hd⟩ : ∃ d, n / 16 ^ (5 - j) % 16 = d := ⟨_, rfl⟩
      have hd16 : d < 16 := by omega
      have hq : (n : Int) / 2 ^ (20 - 4 * j) = ((n / 16 ^ (5 - j) : Nat) : Int) := by
        rw [show (16 : Nat) = 2 ^ 4 from rfl, ← Nat.pow_mul, show 4 * (5 - j) = 20 - 4 * j by omega]
        simp
      have hand : bits .and .i64 ((n : Int) / 2 ^ (20 - 4 * j)) 15 = (d : Int) := by
        rw [hq, and_15i _ (Nat.lt_of_le_of_lt (Nat.div_le_self _ _) hn), hd]
      obtain ⟨x, hx⟩ : ∃ x, (hxd d).toNat = x := ⟨_, rfl⟩
      have hxn := hxd_num hd16
      rw [hx] at hxn
      have hxb : (-2147483648 : Int) ≤ (x : Int) ∧ (x : Int) ≤ 2147483647 := by split at hxn <;> omega
      have HT := hide (show (ru (rowH n 6)).take j ++ [(x : Int)] = (ru (rowH n 6)).take (j + 1) from by
        rw [take_snoc (by omega), rowH_at n 6 j hlt]
        unfold dgh
        rw [show 6 - 1 - j = 5 - j by omega, hd, hx])
      clear hq hd hx hL
      by_cases h10 : d < 10
      · have h10' : (d : Int) < 10 := by omega
        rw [if_pos h10] at hxn
        have hw : (x : Int) = 48 + (d : Int) := by omega
        have HT2 := hide (hw ▸ HT.out)
        rw [hw] at hxb
        clear hw HT
        clear hxn
        go_wp2_with (at_builtin
                     refine wpList_app rfl (.tmp 17) (.tmp 21) rfl g rfl (HO.out.alloc _) rfl (Runes.news _ _ _ [48 + (d : Int)] rfl (W32.one hxb)) (by simp; omega) (by simp; omega) ?_
                     intro A3 c3 w3 ho3 hg3 hb3 hbk _)
        have HO3 := hide ho3
        have HB3 := hide (HB.out.trans (((Below.refl _ _).alloc hgw (.cells #[.int .i32 (48 + (d : Int))] 21)).trans hb3))
        clear ho3 hg3 hb3 hbk
        go_roundw
        case rel => exact ⟨j + 1, A3, c3, by omega, rfl, by go_num, by rw [← HT2.out]; exact HO3.out, HB3.out⟩
        case measure => simp [intOf]; omega
      · have h10' : ¬ (d : Int) < 10 := by omega
        rw [if_neg h10] at hxn
        have hw : (x : Int) = 97 + (d : Int) - 10 := by omega
        have HT2 := hide (hw ▸ HT.out)
        rw [hw] at hxb
        clear hw HT
        clear hxn
        go_wp2_with (at_builtin
                     refine wpList_app rfl (.tmp 23) (.tmp 28) rfl g rfl (HO.out.alloc _) rfl (Runes.news _ _ _ [97 + (d : Int) - 10] rfl (W32.one hxb)) (by simp; omega) (by simp; omega) ?_
                     intro A3 c3 w3 ho3 hg3 hb3 hbk _)
        have HO3 := hide ho3
        have HB3 := hide (HB.out.trans (((Below.refl _ _).alloc hgw (.cells #[.int .i32 (97 + (d : Int) - 10)] 21)).trans hb3))
        clear ho3 hg3 hb3 hbk
        go_roundw
        case rel => exact ⟨j + 1, A3, c3, by omega, rfl, by go_num, by rw [← HT2.out]; exact HO3.out, HB3.out⟩
        case measure => simp [intOf]; omega
    · have hj6 : j = 6 := by omega
      subst hj6
      go_wp2_with fail
      go_ret
      refine ⟨A, 6, cap, rfl, ?_, by rw [hg]; exact HB.out⟩
      have := HO.out
      rw [List.take_of_length_le (by omega)] at this
      rw [hg]
      exact this

theorem pow_nD : ∀ u : Nat, 0 < u → 10 ^ (Lib.nDigits u - 1) ≤ u := by
  intro u
  induction u using Nat.strongRecOn with
  | _ u ih =>
    intro h0
    by_cases h : u < 10
    · rw [Lib.nDigits_small h]
      exact h0
    · have h1 := ih (u / 10) (by omega) (by omega)
      have h2 := Lib.nDigits_pos (u / 10)
      rw [Lib.nDigits_big h, Nat.add_sub_cancel]
      have h3 : 10 ^ Lib.nDigits (u / 10) = 10 * 10 ^ (Lib.nDigits (u / 10) - 1) := by
        rw [← Nat.pow_succ', show (Lib.nDigits (u / 10) - 1).succ = Lib.nDigits (u / 10) by omega]
      omega
theorem nD_le {u k : Nat} (hk : 1 ≤ k) (h : u / 10 ^ k = 0) : Lib.nDigits u ≤ k := by
  rcases Nat.eq_zero_or_pos u with rfl | h0
  · rw [Lib.nDigits_small (by omega)]
    exact hk
  · rcases Nat.lt_or_ge k (Lib.nDigits u) with h1 | h1
    · have h2 := pow_nD u h0
      have h3 : 10 ^ k ≤ 10 ^ (Lib.nDigits u - 1) := Nat.pow_le_pow_right (by omega) (by omega)
      have h4 := (Nat.div_eq_zero_iff_lt (Nat.pow_pos (by omega : 0 < 10))).1 h
      omega
    · exact h1
theorem nD_gt {u k : Nat} (h : 0 < u / 10 ^ k) : k < Lib.nDigits u := by
  rcases Nat.lt_or_ge k (Lib.nDigits u) with h1 | h1
  · exact h1
  · have := div_more (by omega : 0 < 10) (nD_div u) h1
    omega
theorem nD_max {u : Nat} (h : u < 16777216) : Lib.nDigits u ≤ 20 := by
  rcases Nat.eq_zero_or_pos u with rfl | h0
  · rw [Lib.nDigits_small (by omega)]; omega
  · have := Lib.numDigits_eq u h0 (by omega); split at this <;> omega
theorem dg_num (u j : Nat) : ((Lib.dg u j).toNat : Int) = 48 + ((u / 10 ^ j % 10 : Nat) : Int) := by
  unfold Lib.dg
  rw [UInt8.toNat_ofNat']
  omega

set_option maxRecDepth 100000 in
set_option maxHeartbeats 2000000 in
theorem digits_any (n least : Nat) (hn : n < 16777216) (hl1 : 1 ≤ least) (hl : least ≤ 100) (w : World) : Calls Tryd.prog 28 #[.int .i64 n, .int .i64 least] w (NewR w (ru (padD n least))) := by
  obtain ⟨g, hg⟩ : ∃ g, w.heap.size = g := ⟨_, rfl⟩
  obtain ⟨M, hM⟩ : ∃ M, max least (Lib.nDigits n) = M := ⟨_, rfl⟩
  have hM2 : M ≤ 100 := by have := nD_max hn; omega
  have HM := hide hM
  go_enter Tryd.func28, Tryd.ntmps28
  go_wp2_with fail
  go_loopw [0, 5] (fun s0 s5 wx => ∃ (k : Nat) (A : Option Addr) (cap : Nat), k ≤ M ∧ s5 = .slice A k cap ∧ s0 = .int .i64 ((n / 10 ^ k : Nat) : Int) ∧ Hid (Own wx g A k cap (ru (rowD n k))) ∧ Hid (Below g w wx)) (fun _ s5 _ => match s5 with | .slice _ k _ => M - k | _ => 0)
  case atStart => exact ⟨0, none, 0, by omega, rfl, by simp, Own.nil _ _, hg ▸ Below.refl _ _⟩
  case round =>
    obtain ⟨k, A, cap, hk, rfl, rfl, HO, HB⟩ := hrel
    have hgw : g ≤ wr.heap.size := by have := HB.out.size; omega
    obtain ⟨q, hq⟩ : ∃ q, n / 10 ^ k = q := ⟨_, rfl⟩
    have hqn : q ≤ n := by rw [← hq]; exact Nat.div_le_self _ _
    have hq2 : q / 10 = n / 10 ^ (k + 1) := by rw [Nat.pow_succ, ← Nat.div_div_eq_div_mul, hq]
    have HT := hide (show [48 + (q : Int) % 10] ++ ru (rowD n k) = ru (rowD n (k + 1)) from by
      rw [rowD_succ]
      unfold ru
      rw [List.map_cons, dg_num, hq]
      rfl)
    rw [hq]
    have hcap := HO.out.cap
    have hsz : k ≤ 100 := by omega
    have hb1 : (-2147483648 : Int) ≤ 48 + (q : Int) % 10 ∧ 48 + (q : Int) % 10 ≤ 2147483647 := by omega
    have hqb : (q : Int) ≤ 16777216 := by omega
    by_cases hgo : 0 < q ∨ k < least
    · have hkM : k + 1 ≤ M := by
        rcases hgo with h | h
        · have := nD_gt (u := n) (k := k) (by omega)
          omega
        · omega
      by_cases hq0 : 0 < q
      · have hq1 : (0 : Int) < (q : Int) := by omega
        have hl0 : ∀ x : Nat, x = x := fun _ => rfl
        clear hM hq hgo
        go_wp2_with (at_builtin
                     refine wpList_app rfl (.tmp 18) (.tmp 19) rfl g rfl ((Own.news _ _ [48 + (q : Int) % 10] rfl (W32.one hb1) (by simp)).mono hgw) rfl (HO.out.runes.alloc _) (by first | omega | (simp; omega)) (by first | omega | (simp; omega)) ?_
                     intro A3 c3 w3 ho3 hg3 hb3 hbk _)
        have HO3 := hide ho3
        have HB3 := hide (HB.out.trans (((Below.refl _ _).alloc hgw (.cells #[.int .i32 (48 + (q : Int) % 10)] 21)).trans hb3))
        clear ho3 hg3 hb3 hbk
        go_roundw
        case rel => exact ⟨k + 1, A3, c3, by omega, by rw [Nat.add_comm], by rw [← hq2]; rfl, by rw [← HT.out, Nat.add_comm k 1]; exact HO3.out, HB3.out⟩
        case measure => simp; omega
      · have hq1 : ¬ (0 : Int) < (q : Int) := by omega
        have hkl : (k : Int) < (least : Int) := by omega
        clear hM hq hgo
        go_wp2_with (at_builtin
                     refine wpList_app rfl (.tmp 18) (.tmp 19) rfl g rfl ((Own.news _ _ [48 + (q : Int) % 10] rfl (W32.one hb1) (by simp)).mono hgw) rfl (HO.out.runes.alloc _) (by first | omega | (simp; omega)) (by first | omega | (simp; omega)) ?_
                     intro A3 c3 w3 ho3 hg3 hb3 hbk _)
        have HO3 := hide ho3
        have HB3 := hide (HB.out.trans (((Below.refl _ _).alloc hgw (.cells #[.int .i32 (48 + (q : Int) % 10)] 21)).trans hb3))
        clear ho3 hg3 hb3 hbk
        go_roundw
        case rel => exact ⟨k + 1, A3, c3, by omega, by rw [Nat.add_comm], by rw [← hq2]; rfl, by rw [← HT.out, Nat.add_comm k 1]; exact HO3.out, HB3.out⟩
        case measure => simp; omega
    · have hq1 : ¬ (0 : Int) < (q : Int) := by omega
      have hkl : ¬ (k : Int) < (least : Int) := by omega
      have hkM : k = M := by
        have := nD_le (u := n) (k := k) (by omega) (by omega)
        omega
      clear hM hq hgo
      go_wp2_with fail
      go_ret
      refine ⟨A, M, cap, rfl, ?_, by rw [hg]; exact HB.out⟩
      rw [hg]
      unfold padD
      rw [HM.out, ← hkM]
      exact HO.out
end Go.Proofs.YtfeflmpdbejhjaaDoor
