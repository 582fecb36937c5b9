/- Contracts of standishref1.Back, standishref26.copied, change.Copy: new memory that reads as a list of changes. -/
import Derived.Test.YtjhnenljmmeflaaOwnC
namespace Go.Proofs.Ytjhnenljmmeflaa
open Go.RowKit
set_option linter.unusedVariables false

/-- A call hands back new memory that reads as the changes l; nothing that was there has turned. -/
def NewCs (w : World) (l : List Chg) (e : Ending) (w' : World) : Prop :=
  ∃ A n c vs, e = .returned (.slice A n c) ∧ RowC w' w.heap.size A n c vs ∧ Elts w' w.heap.size vs l ∧ Below w.heap.size w w'

def invC (x : Chg) : Chg := ⟨x.at_, x.put, x.cut⟩
def backC (l : List Chg) : List Chg := (l.map invC).reverse
theorem invC_ok {x : Chg} (h : ChgOk x) : ChgOk (invC x) := ⟨h.1, h.2.2, h.2.1⟩
theorem back_step {l : List Chg} {k : Nat} {x : Chg} (h : l[k]? = some x) : ((l.drop k).map invC).reverse = ((l.drop (k + 1)).map invC).reverse ++ [invC x] := by
  obtain ⟨hk, rfl⟩ := List.getElem?_eq_some_iff.1 h
  rw [List.drop_eq_getElem_cons hk, List.map_cons, List.reverse_cons]

set_option maxHeartbeats 1000000 in
theorem rback_any (A : Option Addr) (n c : Nat) (us : Nat → CV) (l : List Chg) (w : World) (h : Chgs w A n us l) (hn : n ≤ 2513167470000) :
    Calls Try.prog 46 #[.slice A n c] w (NewCs w (backC l)) := by
  have H := hide h
  clear h
  go_enter Try.func46, Try.ntmps46
  go_wp2_with fail
  go_loopw [3, 4] (fun v i wr => ∃ (k : Nat) (A' : Option Addr) (n' c' : Nat) (vs : List CV), k ≤ n ∧ i = .int .i64 ((k : Int) - 1) ∧ v = .slice A' n' c' ∧ n' + k = n ∧ RowC wr w.heap.size A' n' c' vs ∧ Elts wr w.heap.size vs (((l.drop k).map invC).reverse) ∧ Below w.heap.size w wr)
    (fun _ i _ => (intOf i + 1).toNat)
  case atStart => exact ⟨n, none, 0, 0, [], Nat.le_refl _, rfl, rfl, by omega, RowC.nil _ _, by rw [List.drop_of_length_le (by rw [H.out.len]; exact Nat.le_refl _)]; exact Elts.nil _ _, Below.refl _ _⟩
  case round =>
    obtain ⟨k, A', n', c', vs, hk, rfl, rfl, hnk, hrow, hel, hbel⟩ := hrel
    have HR := hide hrow
    have HE := hide hel
    have HB := hide hbel
    clear hrow hel hbel
    by_cases h0 : 0 < k
    · obtain ⟨k, rfl⟩ : ∃ j, k = j + 1 := ⟨k - 1, by omega⟩
      have e1 : ((k + 1 : Nat) : Int) - 1 = (k : Int) := by omega
      have hlt : k < n := by omega
      obtain ⟨ab, ao, rfl, h1, h2, h3⟩ := (H.out.below HB.out).at_ k hlt
      obtain ⟨x, hx1, hx⟩ := (H.out.below HB.out).rd k hlt
      have HX := hide hx1
      have hok := hx.ok
      have HC := hide (fun W (hb : Below wr.heap.size wr W) => rinvert_any (us k).at_ (us k).C (us k).P (us k).n (us k).c (us k).m (us k).d x.cut x.put W (hx.cut.below hb) (hx.put.below hb) (by have := hok.2.1; have := hx.cut.len; omega) (by have := hok.2.2; have := hx.put.len; omega))
      have HOK := hide hok
      have HAT := hide hx.at_
      clear hx hx1 hok
      rw [e1]
      clear e1
      go_wp2_with fail
      refine (HC.out _ (Below.refl _ _)).mono ?_
      rintro e w1 ⟨C1, n1, c1, P1, m1, d1, rfl, ho1, ho2, hap, hb1⟩
      have hs1 := hb1.size
      have hs0 := HB.out.size
      have HB1 := hide hb1
      have HO := hide (show EltO w1 w.heap.size ⟨(us k).at_, C1, n1, c1, P1, m1, d1⟩ (invC x) from ⟨HAT.out, ho1.mono hs0, ho2.mono hs0, hap, invC_ok HOK.out⟩)
      clear ho1 ho2 hap hb1
      go_wp2_with (at_builtin
                   refine wpList_appC rfl (.tmp 12) (.tmp 18) rfl w.heap.size rfl ((HR.out.below HB1.out).alloc _) (v := ⟨(us k).at_, C1, n1, c1, P1, m1, d1⟩) rfl (Box.new _ _ _) (by omega) (by simp; omega) ?_
                   intro g2 c2 w2 hrow2 hg2 hb2 _)
      have hrow1 := (HR.out.below HB1.out).alloc (.cells #[.int .i64 (us k).at_, .slice C1 n1 c1, .slice P1 m1 d1] 31)
      have HE2 := hide (((HE.out.below HB1.out).alloc _).row hrow1 hg2 |>.app (Elts.one ((HO.out.alloc _).row hrow1 hg2)))
      have HR2 := hide hrow2
      have HB2 := hide (((HB.out.trans (HB1.out.mono hs0)).alloc (by omega) _).trans hb2)
      clear hrow1 hrow2 hg2 hb2
      go_roundw
      case rel => exact ⟨k, _, n' + 1, c2, _, by omega, rfl, rfl, by omega, HR2.out, by rw [back_step HX.out]; exact HE2.out, HB2.out⟩
      case measure => simp [intOf]
    · obtain rfl : k = 0 := by omega
      go_wp2
      go_ret
      exact ⟨A', n', c', vs, rfl, HR.out, HE.out, HB.out⟩
end Go.Proofs.Ytjhnenljmmeflaa
