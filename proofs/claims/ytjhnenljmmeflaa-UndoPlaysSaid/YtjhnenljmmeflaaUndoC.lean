/- The contract of change.Copy: new changes, their texts in blocks of their own. -/
import Derived.Test.YtjhnenljmmeflaaUndoP
import Derived.Test.YtjhnenljmmeflaaCBack
namespace Go.Proofs.Ytjhnenljmmeflaa
open Go.RowKit
set_option linter.unusedVariables false

theorem step_appC {w : World} {ops : Array Oper} {o : Oper} {a : Act} {K : Act → World → Prop} {Q : Exit → Act → World → Prop} {E : Prop} (hgd : o.guard = none) (s x : Operand)
    (ho : o.op = .call { callee := .builtin .append, args := #[s, x], argTypes := #[29, 29] })
    (B : Nat) {n c : Nat} {A : Option Addr} {vs : List CV} (hs : a.eval s = .slice A n c) (hown : RowC w B A n c vs) {g : Nat} {v : CV}
    (hx : a.eval x = .slice (some ⟨g, 0, none⟩) 1 1) (hnew : Box w g 31 #[.int .i64 v.at_, .slice v.C v.n v.c, .slice v.P v.m v.d]) (hsz : n + 1 ≤ 2513167470000) (hB : B ≤ w.heap.size)
    (h : ∀ g' c' w', RowC w' B (some ⟨g', 0, none⟩) (n + 1) c' (vs ++ [v]) → w.grownBy w' (blk A) → Below B w w' → (blk A = some g' ∨ g' = w.heap.size) →
      K (a.put o.dst (.slice (some ⟨g', 0, none⟩) (n + 1) c')) w') :
    if Region.wanted o (yielded ops a.tmps) = true then Oper.wp Try.prog o a w K Q else E := by
  have hw : Region.wanted o (yielded ops a.tmps) = true := by simp [Region.wanted, hgd]
  rw [if_pos hw]
  exact wp_appC s x ho B hs hown hx hnew hsz hB h

set_option maxRecDepth 100000 in
set_option maxHeartbeats 4000000 in
theorem ccopy_any (A : Option Addr) (n c : Nat) (us : Nat → CV) (l : List Chg) (w : World) (h : Chgs w A n us l) (hn : n ≤ 2513167470000) :
    Calls Try.prog 51 #[.slice A n c] w (NewCsA w l) := by
  have H := hide h
  have HL := hide h.len
  clear h
  go_enter Try.func51, Try.ntmps51
  go_wp2_with fail
  go_loopw [3, 8] (fun v i wr => ∃ (k : Nat) (A' : Option Addr) (c' : Nat) (vs : List CV), k ≤ n ∧ i = .int .i64 k ∧ v = .slice A' k c' ∧ Hid (RowC wr w.heap.size A' k c' vs) ∧ Hid (Elts wr w.heap.size vs (l.take k)) ∧ Hid (Ap vs) ∧ Hid (Below w.heap.size w wr))
    (fun _ i _ => n - (intOf i).toNat)
  case atStart => exact ⟨0, none, 0, [], Nat.zero_le _, rfl, rfl, RowC.nil _ _, Elts.nil _ _, Ap.nil, Below.refl _ _⟩
  case round =>
    obtain ⟨k, A', c', vs, hk, rfl, rfl, HR, HE, HAp, HB⟩ := hrel
    by_cases hlt : k < n
    · obtain ⟨ab, ao, rfl, h1, h2, h3⟩ := (H.out.below HB.out).at_ k hlt
      obtain ⟨x, hx1, hx⟩ := (H.out.below HB.out).rd k hlt
      have HX := hide hx1
      have hok := hx.ok
      have i0 : (0 : Int) ≤ (k : Int) := by omega
      have i1 : (k : Int) < (n : Int) := by omega
      have HOK := hide hok
      have HAT := hide hx.at_
      have C1 := hide (fun W (hb : Below wr.heap.size wr W) => clone_any (us k).C (us k).n (us k).c x.cut W (hx.cut.below hb) (by have := hok.2.1; have := hx.cut.len; omega))
      have C2 := hide (fun W (hb : Below wr.heap.size wr W) => clone_any (us k).P (us k).m (us k).d x.put W (hx.put.below hb) (by have := hok.2.2; have := hx.put.len; omega))
      clear hx hx1 hok
      go_wp2_with fail
      have HX0 := hide (Box.new wr 31 #[.int .i64 (us k).at_, .slice (us k).C (us k).n (us k).c, .slice (us k).P (us k).m (us k).d])
      have HB0 := hide ((Below.refl wr.heap.size wr).alloc (Nat.le_refl _) (.cells #[.int .i64 (us k).at_, .slice (us k).C (us k).n (us k).c, .slice (us k).P (us k).m (us k).d] 31))
      have hsz0 := HB.out.size
      have hne : some wr.heap.size ≠ blk A' := fun e => by have := (HR.out.blk_ge _ e.symm).2; omega
      have HNE := hide hne
      clear h1 h2 h3 hne
      go_region_held3 (fun w' => w'.cell? ⟨wr.heap.size, 0, none⟩ = some (.int .i64 (us k).at_) ∧ w'.cell? ⟨wr.heap.size, 1, none⟩ = some (.slice (us k).C (us k).n (us k).c) ∧ w'.cell? ⟨wr.heap.size, 2, none⟩ = some (.slice (us k).P (us k).m (us k).d))
        (first | go_keep)
        (first
         | (go_at_call 61; (with_reducible refine (C1.out _ HB0.out.drew).mono ?_); rintro e w1 ⟨A1, n1, c1, rfl, ho1, hb1⟩; have HX1 := hide (HX0.out.drew.below hb1); obtain ⟨⟨f0, f1, f2⟩, _⟩ := HX1.out.c3; have HB1 := hide (HB0.out.drew.trans (hb1.mono (by simp))))
         | (go_at_call 61; (with_reducible refine (C2.out _ HB1.out).mono ?_); rintro e w2 ⟨A2, n2, c2, rfl, ho2, hb2⟩; have HX2 := hide (HX1.out.below hb2); obtain ⟨⟨l0, l1, l2⟩, _⟩ := HX2.out.c3; have HB2 := hide (HB1.out.trans (hb2.mono HB1.out.size)); have HR2 := hide (HR.out.below HB2.out); have hsz2 := HB2.out.size)
         | (refine step_appC (by rfl) (.tmp 12) (.tmp 22) (by rfl) w.heap.size (by rfl) (HR2.out.alloc _) (v := ⟨(us k).at_, A1, n1, c1, A2, n2, c2⟩) (by rfl) (Box.new _ _ _) (by omega) (by simp; omega) ?_
            intro g3 c3 w3 hrow3 hg3 hb3 _
            have hX3 := (HX2.out.alloc (.cells #[.int .i64 (us k).at_, .slice A1 n1 c1, .slice A2 n2 c2] 31))
            obtain ⟨⟨m0, m1, m2⟩, _⟩ := hX3.c3
            have k0 := (hg3.cell_far ⟨wr.heap.size, 0, none⟩ (by simp; have := HX2.out.lt; omega) HNE.out).trans m0
            have k1 := (hg3.cell_far ⟨wr.heap.size, 1, none⟩ (by simp; have := HX2.out.lt; omega) HNE.out).trans m1
            have k2 := (hg3.cell_far ⟨wr.heap.size, 2, none⟩ (by simp; have := HX2.out.lt; omega) HNE.out).trans m2))
      have hsz1 := HB1.out.size
      have hrow1 := HR2.out.alloc (.cells #[.int .i64 (us k).at_, .slice A1 n1 c1, .slice A2 n2 c2] 31)
      have HO := hide (show EltO w2 w.heap.size ⟨(us k).at_, A1, n1, c1, A2, n2, c2⟩ x from ⟨HAT.out, (ho1.below hb2).mono (by simp; omega), ho2.mono (by omega), apart_of (fun g hg => (ho1.blk_ge g hg).2) (fun g hg => (ho2.blk_ge g hg).1), HOK.out⟩)
      have HE3 := hide (((HE.out.below HB2.out).alloc _).row hrow1 hg3 |>.app (Elts.one ((HO.out.alloc _).row hrow1 hg3)))
      have HAp3 := hide (HAp.out.snoc (v := ⟨(us k).at_, A1, n1, c1, A2, n2, c2⟩) HE.out (fun g hg => by have := (ho1.blk_ge g hg).1; simp at this; omega) (fun g hg => by have := (ho2.blk_ge g hg).1; omega))
      have HR3 := hide hrow3
      have HB3 := hide (((HB.out.trans (HB2.out.mono hsz0)).alloc (by omega) _).trans hb3)
      clear hrow1 hrow3 hg3 hb3 ho1 ho2 hb1 hb2 f0 f1 f2 l0 l1 l2 m0 m1 m2 k0 k1 k2 hX3
      go_wp2_with fail
      go_roundw
      case rel => exact ⟨k + 1, _, c3, _, by omega, by go_num, rfl, HR3.out, by
        rw [List.take_add_one, HX.out]; exact HE3.out, HAp3.out, HB3.out⟩
      case measure => simp [intOf]; omega
    · obtain rfl : k = n := by omega
      have HE2 := hide (show l.take k = l from List.take_of_length_le (by rw [HL.out]; exact Nat.le_refl _))
      rw [HE2.out] at HE
      go_wp2_with fail
      go_ret
      exact ⟨A', k, c', vs, rfl, HR.out, HE.out, HAp.out, HB.out⟩
end Go.Proofs.Ytjhnenljmmeflaa
