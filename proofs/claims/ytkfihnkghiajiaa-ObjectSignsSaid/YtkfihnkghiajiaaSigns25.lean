/- The walk of standishlaw25.ObjectSigns: it answers true. -/
import Derived.Test.YtkfihnkghiajiaaKnown25
import Derived.Test.YtkfihnkghiajiaaBytes
namespace Go.Proofs.Ytkfihnkghiajiaa
open Go.RowKit
set_option linter.unusedVariables false

theorem wrap32_bd (x : Int) : -2147483648 ≤ wrap32 x ∧ wrap32 x ≤ 2147483647 := by
  unfold wrap32
  omega

set_option maxRecDepth 100000 in
set_option maxHeartbeats 4000000 in
theorem signs25_any (Z : Option Addr) (m c : Nat) (z : List Int) (w : World) (hZ : BytesR w Z m z) (hm : m ≤ 140737488351232) :
    Calls Try.prog 10 #[.slice Z m c] w fun e w' => e = .returned (.bool true) ∧ Below w.heap.size w w' := by
  have HZ := hide hZ
  clear hZ
  go_enter Try.func10, Try.ntmps10
  go_upto_block 0 with fail
  go_cut [3] (fun v wx => ∃ (A : Option Addr) (k cap : Nat) (l : List Int), v = .slice A k cap ∧ k ≤ 20 ∧ Own wx w.heap.size A k cap l ∧ Below w.heap.size w wx)
  case first =>
    go_wp2_with fail
    go_loopw [3, 4] (fun o i wr => ∃ (A : Option Addr) (k cap : Nat) (l : List Int), o = .slice A k cap ∧ i = .int .i64 k ∧ k ≤ m ∧ k ≤ 20 ∧ Hid (Own wr w.heap.size A k cap l) ∧ Hid (Below w.heap.size w wr)) (fun _ i _ => 20 - (intOf i).toNat)
    case atStart => exact ⟨none, 0, 0, [], rfl, rfl, Nat.zero_le _, Nat.zero_le _, Own.nil _ _, Below.refl _ _⟩
    case round =>
      obtain ⟨A, k, cap, l, rfl, rfl, hkm, hk, HO, hb⟩ := hrel
      have hsz := hb.out.size
      by_cases hlt : k < m
      · by_cases h20 : k < 20
        · have h0 : (0 : Int) ≤ (k : Int) := by omega
          have h0' : (k : Int) < (m : Int) := by omega
          have h20' : (k : Int) < 20 := by omega
          obtain ⟨zb, zo, rfl, hc⟩ := (HZ.out.below hb.out).at_ k hlt
          have hy := HZ.out.wf _ (nth_mem (l := z) (j := k) (by rw [HZ.out.len]; exact hlt))
          generalize nth z k = y at hc hy
          obtain ⟨y, rfl⟩ := Int.eq_ofNat_of_zero_le hy.1
          go_wp2_with (at_builtin
                       refine wpList_app rfl (.tmp 17) (.tmp 26) rfl w.heap.size rfl (HO.out.alloc _) rfl (Runes.news _ _ _ [_] rfl (W32.one (wrap32_bd _))) (by simp; omega) (by simp; omega) ?_
                       intro A3 c3 w3 ho3 hg3 hb3 hbk _)
          have HO3 := hide ho3
          have HB3 := hide ((hb.out.alloc hsz _).trans hb3)
          clear ho3 hg3 hb3 hbk
          go_roundw
          case rel => exact ⟨A3, k + 1, c3, _, rfl, by first | rfl | go_num, by omega, by omega, HO3.out, HB3.out⟩
          case measure => simp [intOf]; omega
        · obtain rfl : k = 20 := by omega
          have hlt' : (20 : Int) < (m : Int) := by omega
          go_wp2_with fail
          go_meet
          exact ⟨A, 20, cap, l, rfl, by omega, HO.out, hb.out⟩
      · obtain rfl : k = m := by omega
        go_wp2_with fail
        go_meet
        exact ⟨A, k, cap, l, rfl, by omega, HO.out, hb.out⟩
  case rest =>
    obtain ⟨U, ku, cu, u, rfl, hku, hou, hb⟩ := hcut
    have HU := hide hou.runes
    have hcu := hou.cap
    have HB := hide hb
    clear hou hb
    go_wp2_with fail
    go_loopw [5] (fun o wx => ∃ x : Nat, x ≤ ku ∧ o = .int .i64 x ∧ Hid (Below wc.heap.size wc wx)) (fun o _ => ku - (intOf o).toNat)
    case atStart => exact ⟨0, by omega, rfl, Below.refl _ _⟩
    case round =>
      obtain ⟨x, hx, rfl, hbel⟩ := hrel
      by_cases hx8 : x < ku
      · have h0 : (x : Int) < ku := by omega
        go_wp2_with fail
        go_loopw [6] (fun o wx => ∃ y : Nat, 1 ≤ y ∧ y ≤ 7 ∧ o = .int .i64 y ∧ Hid (Below wc.heap.size wc wx)) (fun o _ => 7 - (intOf o).toNat)
        case atStart => exact ⟨1, by omega, by omega, rfl, hbel.out⟩
        case round =>
          obtain ⟨y, hy1, hy, rfl, hbel⟩ := hrel
          by_cases hyk : y < 7
          · have h1 : (y : Int) ≤ 6 := by omega
            go_wp2_with fail
            refine (same25_any U ku cu x y u _ (HU.out.below hbel.out) (by omega) hcu.1 hcu.2).mono ?_
            rintro e w3 ⟨rfl, hb3⟩
            have HB3 := hide (hbel.out.trans (hb3.mono hbel.out.size))
            clear hb3
            go_wp2_with fail
            go_roundw
            case rel => exact ⟨y + 1, by omega, by omega, by go_num, HB3.out⟩
            case measure => simp [intOf]; omega
          · have h1 : (6 : Int) < (y : Int) := by omega
            go_wp2_with fail
            go_roundw
            case rel => exact ⟨x + 1, by omega, by go_num, hbel.out⟩
            case measure => simp [intOf]; omega
      · go_wp2_with fail
        refine (known25_any _).mono ?_
        rintro e w5 ⟨rfl, hb5⟩
        have HB5 := hide (hbel.out.trans (hb5.mono hbel.out.size))
        clear hb5
        go_wp2_with fail
        go_ret
        exact ⟨rfl, HB.out.trans (HB5.out.mono HB.out.size)⟩
end Go.Proofs.Ytkfihnkghiajiaa
