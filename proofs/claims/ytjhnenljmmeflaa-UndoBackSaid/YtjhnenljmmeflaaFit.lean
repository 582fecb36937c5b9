/- Contracts of standishkeep.Fit and of standishlaw5.spoil. -/
import Derived.Test.YtjhnenljmmeflaaInv
namespace Go.Proofs.Ytjhnenljmmeflaa
open Go.RowKit
set_option linter.unusedVariables false

theorem Own.take {w : World} {B n c : Nat} {A : Option Addr} {l : List Int} (h : Own w B A n c l) {m : Nat} (hm : m ≤ n) : Own w B A m c (l.take m) := by
  refine ⟨⟨by simp [cells32, h.len]; omega, ?_⟩, h.wf.take m⟩
  rcases h.row.2 with ⟨h1, h2⟩ | ⟨g, cap, cur, h1, hB, hg, h3, h4, h5, h6⟩
  · injection h1 with h1 _ h3
    obtain rfl : m = 0 := by omega
    exact .inl ⟨by rw [h1, h3], rfl⟩
  · injection h1 with h1 _ h7
    subst h7
    refine .inr ⟨g, c, cur, by rw [h1], hB, hg, by omega, h4, h5, ?_⟩
    have : (cur.toList.take (n * 1)).take (m * 1) = (cells32 l).take (m * 1) := by rw [h6]
    rw [List.take_take, Nat.min_eq_left (by omega)] at this
    rw [this]
    simp [cells32]

def fitA (k : Nat) (at_ : Int) : Nat := idxN at_ (k + 1)
def fitN (k : Nat) (at_ cut : Int) : Nat := idxN cut (k - fitA k at_ + 1)
def fitR (k n : Nat) : Nat := 1000 - (k - n)
theorem fitA_le (k : Nat) (at_ : Int) : fitA k at_ ≤ k := by
  have := idxN_lt (k := at_) (n := k + 1) (by omega)
  unfold fitA
  omega
theorem fitN_le (k : Nat) (at_ cut : Int) : fitA k at_ + fitN k at_ cut ≤ k := by
  have h1 := fitA_le k at_
  have := idxN_lt (k := cut) (n := k - fitA k at_ + 1) (by omega)
  unfold fitN
  omega

set_option maxHeartbeats 2000000 in
theorem fit_any (S P : Option Addr) (k d m e' : Nat) (at_ cut : Int) (s put : List Int) (w : World) (hS : Runes w S k s) (hP : Runes w P m put)
    (hk : k ≤ 35184372080000) (hm : m ≤ 35184372080000) (hd : k ≤ d) (hd2 : d ≤ 9223372036854775807) :
    Calls Try.prog 16 #[.slice S k d, .int .i64 at_, .int .i64 cut, .slice P m e'] w
      (NewC w (fitA k at_) ((s.drop (fitA k at_)).take (fitN k at_ cut)) (put.take (fitR k (fitN k at_ cut)))) := by
  have hn := fitN_le k at_ cut
  have ha := fitA_le k at_
  have HI1 := hide (fun W => index_any at_ ((k : Int) + 1) W (by omega) (by omega))
  have HI2 := hide (fun W => index_any cut ((k : Int) - (fitA k at_ : Int) + 1) W (by omega) (by omega))
  have e1 : idxN at_ ((k : Int) + 1).toNat = fitA k at_ := by unfold fitA; congr 1
  have e2 : idxN cut ((k : Int) - (fitA k at_ : Int) + 1).toNat = fitN k at_ cut := by unfold fitN; congr 1; omega
  rw [e1] at HI1
  rw [e2] at HI2
  clear e1 e2
  generalize fitN k at_ cut = n at hn HI2 ⊢
  generalize fitA k at_ = a at ha hn HI1 HI2 ⊢
  have hsl := run_sub_lh S k d a n (by omega)
  have hs1 : IntKind.i64.wrap ((a : Int) + n) = (a : Int) + n := IntWalk.i64_in _ (by omega)
  have HX := hide (fun W (hb : Below w.heap.size w W) => copied_any a (sub S d a) P n (d - a) m e' ((s.drop a).take n) put W ((hS.mid hn hd).below hb) (hP.below hb) (by omega) (by omega))
  have HPL := hide hP.len
  have HB := hide ((Below.refl w.heap.size w).alloc (Nat.le_refl _) (.cells #[.int .i64 0, .slice none 0 0, .slice none 0 0] 31))
  clear hS hP
  go_enter Try.func16, Try.ntmps16
  go_wp2_with fail
  refine (HI1.out _).mono ?_
  rintro e w' ⟨rfl, rfl⟩
  go_wp2_with fail
  refine (HI2.out _).mono ?_
  rintro e w' ⟨rfl, rfl⟩
  go_wp2_with fail
  refine (HX.out _ HB.out).mono ?_
  rintro e w1 ⟨A1, n1, c1, A2, n2, c2, rfl, hown1, hown2, hap, hb1⟩
  have hy := (Box.new w 31 #[.int .i64 0, .slice none 0 0, .slice none 0 0]).below hb1
  have hlen : n2 = m := by rw [← hown2.len]; exact HPL.out
  subst hlen
  obtain ⟨⟨l0, l1, l2⟩, l3, l4, l5⟩ := hy.c3
  have hcap := hown2.cap
  have HO1 := hide hown1
  have HO2 := hide hown2
  have HAP := hide hap
  have HB1 := hide (HB.out.trans (hb1.mono (by simp)))
  have hge1 := hown1.blk_ge
  have hge2 := hown2.blk_ge
  simp only [World.size_alloc] at hge1 hge2
  have HG1 := hide hge1
  have HG2 := hide hge2
  have hwz := hy.lt
  have HY := hide hy
  have HA1 := hide (hown1.mono (B' := w.heap.size) (by simp))
  have HA2 := hide (hown2.mono (B' := w.heap.size) (by simp))
  -- what is handed back, of whatever place the put ends at
  have HF := hide (fun (r q : Nat) (hq : q ≤ n2) (hr : put.take r = put.take q) => show NewC w a ((s.drop a).take n) (put.take r) (.returned (.agg #[.int .i64 a, .slice A1 n1 c1, .slice A2 q c2])) _ from
    ⟨A1, n1, c1, A2, q, c2, rfl, (HA1.out.far3 (g := w.heap.size) (fun e => by have := HG1.out _ e; omega) (.int .i64 a) (.slice A1 n1 c1) (.slice A2 q c2)).alloc (.cells #[.int .i64 a, .slice A1 n1 c1, .slice A2 q c2] 31),
      by rw [hr]; exact ((HA2.out.take hq).far3 (g := w.heap.size) (fun e => by have := HG2.out _ e; omega) _ _ _).alloc _, HAP.out, (below3 HB1.out (Nat.le_refl _) _ _ _).alloc (by simp; omega) _⟩)
  have HZ := hide (fun (q : Nat) => ((((HY.out.set 0 (.int .i64 a)).set 1 (.slice A1 n1 c1)).set 2 (.slice A2 q c2)).alloc (.cells #[.int .i64 a, .slice A1 n1 c1, .slice A2 q c2] 31)).c3)
  clear hown1 hown2 hap hb1 hy hge1 hge2 HI1 HI2 HX hsl hs1
  by_cases hkn : (k : Int) - n < 1000
  · have hr : (1000 : Int) - ((k : Int) - n) = (fitR k n : Int) := by unfold fitR; omega
    by_cases hfit : n2 ≤ fitR k n
    · go_wp2_with fail
      obtain ⟨⟨r0, r1, r2⟩, _⟩ := HZ.out n2
      exact bodyPost_ret (v := .agg #[.int .i64 a, .slice A1 n1 c1, .slice A2 n2 c2]) (by simp [results, Try.results16, go_sem, r0, r1, r2]) rfl
        (HF.out (fitR k n) n2 (Nat.le_refl _) (by rw [List.take_of_length_le (by rw [HPL.out]; exact hfit), List.take_of_length_le (by rw [HPL.out]; exact Nat.le_refl _)]))
    · have hsl2 := run_sub_h A2 n2 c2 (fitR k n) (by omega)
      go_wp2_with fail
      obtain ⟨⟨r0, r1, r2⟩, _⟩ := HZ.out (fitR k n)
      exact bodyPost_ret (v := .agg #[.int .i64 a, .slice A1 n1 c1,   .slice A2 (fitR k n) c2]) (by simp [results, Try.results16, go_sem, r0, r1, r2]) rfl (HF.out (fitR k n) (fitR k n) (by omega) rfl)
  · have hr : fitR k n = 0 := by unfold fitR; omega
    have HR := hide (show put.take (fitR k n) = put.take 0 by rw [hr])
    clear hr
    by_cases hfit : n2 = 0
    · subst hfit
      go_wp2_with fail
      obtain ⟨⟨r0, r1, r2⟩, _⟩ := HZ.out 0
      exact bodyPost_ret (v := .agg #[.int .i64 a, .slice A1 n1 c1, .slice A2 0 c2]) (by simp [results, Try.results16, go_sem, r0, r1, r2]) rfl (HF.out _ 0 (by omega) HR.out)
    · have hsl2 := run_sub_h A2 n2 c2 0 (by omega)
      go_wp2_with fail
      obtain ⟨⟨r0, r1, r2⟩, _⟩ := HZ.out 0
      exact bodyPost_ret (v := .agg #[.int .i64 a, .slice A1 n1 c1, .slice A2 0 c2]) (by simp [results, Try.results16, go_sem, r0, r1, r2]) rfl (HF.out _ 0 (by omega) HR.out)

set_option maxHeartbeats 1000000 in
/-- standishlaw5.spoil: both texts of an answered change are written over: nothing below block B has turned. -/
theorem spoilC_far (B : Nat) (at_ : Int) (C P : Option Addr) (n c m d : Nat) (cut put : List Int) (w : World) (hC : Own w B C n c cut) (hP : Own w B P m d put) (hap : Apart C P) (hB : B ≤ w.heap.size) :
    Calls Try.prog 39 #[.agg #[.int .i64 at_, .slice C n c, .slice P m d]] w fun e w' => e = .returned (.tuple #[]) ∧ Below B w w' ∧ ∃ o w1, (w.alloc o).grownBy w1 (blk C) ∧ w1.grownBy w' (blk P) := by
  have HBB := hide ((Below.refl B w).alloc hB (.cells #[.int .i64 at_, .slice C n c, .slice P m d] 31))
  have H1 := hide (spoil_any B C n c cut _ (hC.alloc (.cells #[.int .i64 at_, .slice C n c, .slice P m d] 31)))
  have H2 := hide (hP.alloc (.cells #[.int .i64 at_, .slice C n c, .slice P m d] 31))
  have HX := hide (Box.new w 31 #[.int .i64 at_, .slice C n c, .slice P m d])
  have HC := hide hC.blk_ge
  have HP := hide hP.blk_ge
  clear hC hP
  go_enter Try.func39, Try.ntmps39
  go_wp2_with fail
  refine H1.out.mono ?_
  rintro e w1 ⟨rfl, ⟨l1, ho1⟩, hg1⟩
  have hx := HX.out.grown hg1 (fun e => by have := HC.out _ e.symm; omega)
  obtain ⟨⟨f0, f1, f2⟩, _⟩ := hx.c3
  have ho2 := H2.out.kept hg1 (by
    rcases hp : blk P with _ | g
    · exact .inl rfl
    · exact .inr fun e => hap _ e.symm hp)
  have HBB1 := hide (HBB.out.grown hg1 (by simp; omega) (fun g hg => (HC.out g hg).1))
  have HS := hide (spoil_any B P m d put _ ho2)
  have HG1 := hide hg1.size
  have HGR := hide hg1
  clear hx ho1 ho2 hg1
  go_wp2_with fail
  refine HS.out.mono ?_
  rintro e w2 ⟨rfl, ⟨l2, ho2⟩, hg2⟩
  have HBB2 := hide (HBB1.out.grown hg2 (Nat.le_trans hB (Nat.le_trans (by simp) HG1.out)) (fun g hg => (HP.out g hg).1))
  have HG2 := hide hg2
  clear ho2 hg2
  go_wp2
  go_end0
  exact ⟨rfl, HBB2.out, _, _, HGR.out, HG2.out⟩
theorem spoilC_any (B : Nat) (at_ : Int) (C P : Option Addr) (n c m d : Nat) (cut put : List Int) (w : World) (hC : Own w B C n c cut) (hP : Own w B P m d put) (hap : Apart C P) (hB : B ≤ w.heap.size) :
    Calls Try.prog 39 #[.agg #[.int .i64 at_, .slice C n c, .slice P m d]] w fun e w' => e = .returned (.tuple #[]) ∧ Below B w w' := by
  refine (spoilC_far B at_ C P n c m d cut put w hC hP hap hB).mono ?_
  rintro e w' ⟨h1, h2, _⟩
  exact ⟨h1, h2⟩
end Go.Proofs.Ytjhnenljmmeflaa
