/- The reference's tree: copied: new changes that are alike. -/
import Derived.Test.YtjhnenljmmeflaaRefU
namespace Go.Proofs.Ytjhnenljmmeflaa
open Go.RowKit
set_option linter.unusedVariables false

set_option maxHeartbeats 1000000 in
theorem rcopied_any (A : Option Addr) (n c : Nat) (us : Nat → CV) (l : List Chg) (w : World) (h : Chgs w A n us l) (hn : n ≤ 2513167470000) :
    Calls Try.prog 66 #[.slice A n c] w (NewCs w l) := by
  have H := hide h
  have HL := hide h.len
  clear h
  go_enter Try.func66, Try.ntmps66
  go_wp2_with fail
  go_loopw [3, 4] (fun v i wr => ∃ (k : Nat) (A' : Option Addr) (c' : Nat) (vs : List CV), k ≤ n ∧ i = .int .i64 (k : Int) ∧ v = .slice A' k c' ∧ Hid (RowC wr w.heap.size A' k c' vs) ∧ Hid (Elts wr w.heap.size vs (l.take k)) ∧ Hid (Below w.heap.size w wr))
    (fun _ i _ => n - (intOf i).toNat)
  case atStart => exact ⟨0, none, 0, [], Nat.zero_le _, rfl, rfl, RowC.nil _ _, Elts.nil _ _, Below.refl _ _⟩
  case round =>
    obtain ⟨k, A', c', vs, hk, rfl, rfl, HR, HE, HB⟩ := hrel
    by_cases hlt : k < n
    · obtain ⟨ab, ao, rfl, h1, h2, h3⟩ := (H.out.below HB.out).at_ k hlt
      obtain ⟨x, hx1, hx⟩ := (H.out.below HB.out).rd k hlt
      have HX := hide hx1
      have hok := hx.ok
      have HC := hide (fun W (hb : Below wr.heap.size wr W) => copied_any (us k).at_ (us k).C (us k).P (us k).n (us k).c (us k).m (us k).d x.cut x.put W (hx.cut.below hb) (hx.put.below hb) (by have := hok.2.1; have := hx.cut.len; omega) (by have := hok.2.2; have := hx.put.len; omega))
      have HOK := hide hok
      have HAT := hide hx.at_
      have i0 : (0 : Int) ≤ (k : Int) := by omega
      have i1 : (k : Int) < (n : Int) := by omega
      clear hx hx1 hok
      go_wp2_with fail
      refine (HC.out _ (Below.refl _ _)).mono ?_
      rintro e w1 ⟨C1, n1, c1, P1, m1, d1, rfl, ho1, ho2, hap, hb1⟩
      have hs1 := hb1.size
      have hs0 := HB.out.size
      have HB1 := hide hb1
      have HO := hide (show EltO w1 w.heap.size ⟨(us k).at_, C1, n1, c1, P1, m1, d1⟩ x from ⟨HAT.out, ho1.mono hs0, ho2.mono hs0, hap, HOK.out⟩)
      clear ho1 ho2 hap hb1
      go_wp2_with (at_builtin
                   refine wpList_appC rfl (.tmp 11) (.tmp 17) rfl w.heap.size rfl ((HR.out.below HB1.out).alloc _) (v := ⟨(us k).at_, C1, n1, c1, P1, m1, d1⟩) rfl (Box.new _ _ _) (by omega) (by simp; omega) ?_
                   intro g2 c2 w2 hrow2 hg2 hb2 _)
      have hrow1 := (HR.out.below HB1.out).alloc (.cells #[.int .i64 (us k).at_, .slice C1 n1 c1, .slice P1 m1 d1] 31)
      have HE2 := hide (((HE.out.below HB1.out).alloc _).row hrow1 hg2 |>.app (Elts.one ((HO.out.alloc _).row hrow1 hg2)))
      have HR2 := hide hrow2
      have HB2 := hide (((HB.out.trans (HB1.out.mono hs0)).alloc (by omega) _).trans hb2)
      clear hrow1 hrow2 hg2 hb2
      go_roundw
      case rel => exact ⟨k + 1, _, c2, _, by omega, by go_num, rfl, HR2.out, by
        rw [List.take_add_one, HX.out]; exact HE2.out, HB2.out⟩
      case measure => simp [intOf]; omega
    · obtain rfl : k = n := by omega
      have HE2 := hide (show l.take k = l from List.take_of_length_le (by rw [HL.out]; exact Nat.le_refl _))
      rw [HE2.out] at HE
      go_wp2_with fail
      go_ret
      exact ⟨A', k, c', vs, rfl, HR.out, HE.out, HB.out⟩
end Go.Proofs.Ytjhnenljmmeflaa
