/- The contract of change.Back: a range over slices.Backward. -/
import Derived.Test.YtjhnenljmmeflaaBackward
import Derived.Stop.RegionWithIn
namespace Go.Proofs.Ytjhnenljmmeflaa
open Go.RowKit Go.Shelf
set_option linter.unusedVariables false
attribute [local go_sem] Oper.semAt_some

theorem keepsFrom_below {B : Nat} {W W' : World} (h : Below W.heap.size W W') : KeepsFrom B W W' :=
  ⟨h.size, fun k o _ hk _ => (h.block k (Array.getElem?_eq_some_iff.1 hk).1).trans hk⟩

theorem stepIn_appC {F : Fence} {m : Nat} {w : World} {o : Oper} {a : Act} {K : Act → World → Prop} {Q : Exit → Act → World → Prop} {E : Prop} {ops : Array Oper} (hgd : o.guard = none) (s x : Operand)
    (ho : o.op = .call { callee := .builtin .append, args := #[s, x], argTypes := #[29, 29] })
    (B : Nat) {n c : Nat} {A : Option Addr} {vs : List CV} (hs : a.eval s = .slice A n c) (hown : RowC w B A n c vs) {g : Nat} {v : CV}
    (hx : a.eval x = .slice (some ⟨g, 0, none⟩) 1 1) (hnew : Box w g 31 #[.int .i64 v.at_, .slice v.C v.n v.c, .slice v.P v.m v.d]) (hsz : n + 1 ≤ 2513167470000) (hB : B ≤ w.heap.size)
    (h : ∀ g' c' w', RowC w' B (some ⟨g', 0, none⟩) (n + 1) c' (vs ++ [v]) → w.grownBy w' (blk A) → Below B w w' → (blk A = some g' ∨ g' = w.heap.size) →
      K (a.put o.dst (.slice (some ⟨g', 0, none⟩) (n + 1) c')) w') :
    if Region.wanted o (yielded ops a.tmps) = true then Oper.wpIn F m Try.prog o a w K Q else E := by
  have hw : Region.wanted o (yielded ops a.tmps) = true := by simp [Region.wanted, hgd]
  rw [if_pos hw]
  obtain ⟨A', c', w', hrun, h2, h3, h4, g', rfl⟩ := run_appC o.type hown hnew hsz hB
  unfold Oper.wpIn
  refine ⟨?_, ?_⟩
  · simp [Oper.about, ho, resolve, Target.leads, Sem.run_pure]
  · rw [Oper.semAt_plain F _ _ (by rw [ho]; intro c hc'; cases hc')]
    simp [execOp, ho, resolve, invoke, builtin, hs, hx, hrun, Result.andThen]
    exact h g' c' w' h2 h3 ((Below.refl _ _).grown h3 hB fun g hg => (hown.blk_ge g hg).1) (by
      rcases h4 with e | e
      · exact .inl e.symm
      · injection e with e
        exact .inr e)

/-- What was made of the elements that came. -/
def gotC {n : Nat} (l : List Chg) (pre : List (Fin n)) : List Chg := pre.map fun j => invC (l.getD j.1 ⟨0, [], []⟩)
theorem gotC_snoc {n : Nat} (l : List Chg) (pre : List (Fin n)) (x : Fin n) {y : Chg} (h : l[x.1]? = some y) : gotC l (pre ++ [x]) = gotC l pre ++ [invC y] := by
  unfold gotC
  rw [List.map_append]
  simp [h]
theorem gotC_all (l : List Chg) : gotC l (downTo l.length 0) = backC l := by
  unfold gotC backC downTo
  rw [List.drop_zero, List.map_reverse]
  congr 1
  refine List.ext_getElem (by simp) fun i h1 h2 => ?_
  have h3 : i < l.length := by simpa using h2
  simp [h3]

/-- The texts of different changes share no block. -/
def Ap (vs : List CV) : Prop := ∀ (i j : Nat) (v u : CV), vs[i]? = some v → vs[j]? = some u → i ≠ j → Apart v.C u.C ∧ Apart v.C u.P ∧ Apart v.P u.C ∧ Apart v.P u.P
theorem Ap.nil : Ap [] := fun i j v u h => by simp at h
theorem Ap.snoc {vs : List CV} {W : World} {B : Nat} {l : List Chg} {v : CV} (h : Ap vs) (he : Elts W B vs l) (hC : ∀ g, blk v.C = some g → W.heap.size ≤ g) (hP : ∀ g, blk v.P = some g → W.heap.size ≤ g) : Ap (vs ++ [v]) := by
  have key : ∀ (i : Nat) (u : CV), vs[i]? = some u → (∀ g, blk u.C = some g → g < W.heap.size) ∧ (∀ g, blk u.P = some g → g < W.heap.size) := fun i u hi => by
    obtain ⟨x, _, hx⟩ := he.at_ i u hi
    exact ⟨fun g hg => (hx.cut.blk_ge g hg).2, fun g hg => (hx.put.blk_ge g hg).2⟩
  intro i j a b ha hb hij
  by_cases h1 : i < vs.length <;> by_cases h2 : j < vs.length
  · rw [List.getElem?_append_left h1] at ha
    rw [List.getElem?_append_left h2] at hb
    exact h i j a b ha hb hij
  · rw [List.getElem?_append_left h1] at ha
    rw [List.getElem?_append_right (by omega)] at hb
    obtain rfl : v = b := by
      obtain ⟨_, hb⟩ := List.getElem?_eq_some_iff.1 hb
      simpa using hb
    obtain ⟨k1, k2⟩ := key i a ha
    exact ⟨apart_of k1 hC, apart_of k1 hP, apart_of k2 hC, apart_of k2 hP⟩
  · rw [List.getElem?_append_right (by omega)] at ha
    rw [List.getElem?_append_left h2] at hb
    obtain rfl : v = a := by
      obtain ⟨_, ha⟩ := List.getElem?_eq_some_iff.1 ha
      simpa using ha
    obtain ⟨k1, k2⟩ := key j b hb
    exact ⟨(apart_of k1 hC).symm, (apart_of k2 hC).symm, (apart_of k1 hP).symm, (apart_of k2 hP).symm⟩
  · have e1 := (List.getElem?_eq_some_iff.1 ha).1
    have e2 := (List.getElem?_eq_some_iff.1 hb).1
    rw [List.length_append, List.length_singleton] at e1 e2
    omega

/-- A call hands back new memory that reads as the changes l, each one's texts in blocks of their own. -/
def NewCsA (w : World) (l : List Chg) (e : Ending) (w' : World) : Prop :=
  ∃ A n c vs, e = .returned (.slice A n c) ∧ RowC w' w.heap.size A n c vs ∧ Elts w' w.heap.size vs l ∧ Ap vs ∧ Below w.heap.size w w'

set_option maxRecDepth 100000 in
set_option maxHeartbeats 4000000 in
theorem cback_apart (A : Option Addr) (len cap : Nat) (us : Nat → CV) (l : List Chg) (w : World) (h : Chgs w A len us l) (hn : len ≤ 2513167470000) :
    Calls Try.prog 44 #[.slice A len cap] w (NewCsA w (backC l)) := by
  refine (callsIn_wide (n := 6)).1 ?_
  refine callsIn_of_wp_marks Try.func44 rfl trivial ?_ rfl
  simp only [Try.ntmps44, List.size_toArray, List.length_cons, List.length_nil, Nat.reduceAdd, Nat.reduceSub, Array.replicate_succ, Array.replicate_zero, List.push_toArray, List.append_toArray, List.nil_append, List.cons_append]
  have H := hide h
  clear h
  gi_wp2_with fail
  refine ⟨trivial, (backward_in Fence.wide 5 trivial rfl _ _ _ _).mono ?_⟩
  rintro e w' ⟨rfl, rfl⟩
  gi_wp2_with fail
  have hBO := (Boxed.new w 29 (.slice none 0 0)).alloc (.cells #[.slice A len cap] 29)
  have hB0 : Below w.heap.size w ((w.alloc (.cells #[.slice none 0 0] 29)).alloc (.cells #[.slice A len cap] 29)) := ((Below.refl _ w).alloc (Nat.le_refl _) _).alloc (by simp) _
  have hBS := (Boxed.new (w.alloc (.cells #[.slice none 0 0] 29)) 29 (.slice A len cap))
  rw [World.size_alloc] at hBS
  have hsz : ((w.alloc (.cells #[.slice none 0 0] 29)).alloc (.cells #[.slice A len cap] 29)).heap.size = w.heap.size + 2 := by simp
  obtain ⟨W0, hW0⟩ : ∃ W0, (w.alloc (.cells #[.slice none 0 0] 29)).alloc (.cells #[.slice A len cap] 29) = W0 := ⟨_, rfl⟩
  rw [hW0] at hBO hB0 hBS hsz ⊢
  clear hW0
  have hBs := hBS.cell
  have hcells : ∀ j, j < len → ∃ b o, A = some ⟨b, o, none⟩ ∧ b < w.heap.size ∧ W0.cell? ⟨b, o + j * 3, none⟩ = some (.int .i64 (us j).at_) ∧ W0.cell? ⟨b, o + j * 3 + 1, none⟩ = some (.slice (us j).C (us j).n (us j).c) ∧
      W0.cell? ⟨b, o + j * 3 + 2, none⟩ = some (.slice (us j).P (us j).m (us j).d) := fun j hj => by
    obtain ⟨b, o, h1, h2, _⟩ := H.out.at_ j hj
    obtain ⟨b', o', k1, k2, k3, k4⟩ := (H.out.below hB0).at_ j hj
    rw [h1] at k1
    injection k1 with k1
    injection k1 with e1 e2
    subst e1 e2
    exact ⟨b, o, h1, World.block_lt_of_cell? w _ h2, k2, k3, k4⟩
  refine wpIn_rangeFunc_ownH rfl (by omega) (gf := 71) (lb := #[.pointer (some ⟨w.heap.size + 1, 0, none⟩)]) rfl trivial (enters_of Try.func71 (by kernel_rfl) rfl)
    (backward_stops Fence.wide 5 trivial rfl (by omega) (w.heap.size + 1) w.heap.size A len cap us hn W0 (by omega) (by omega) hBs hcells) (fun h k => h.t k)
    (fun W l o o' hl hW ho _ => ⟨belowK_b (w := W0) (by omega) W l o o' hl hW ho (by assumption), by
      show (W.heap.setIfInBounds l o')[w.heap.size + 1]? = _
      rw [Array.getElem?_setIfInBounds, if_neg (by omega)]⟩) (Below.refl _ _) (fun _ => rfl)
    (fun (pre : List (Fin len)) W => (∃ A' n' c' vs, Boxed W w.heap.size 29 (.slice A' n' c') ∧ RowC W w.heap.size A' n' c' vs ∧ Elts W w.heap.size vs (gotC l pre) ∧ n' = pre.length ∧ Ap vs) ∧ Below w.heap.size w W ∧ Boxed W (w.heap.size + 1) 29 (.slice A len cap))
    (fun _ _ _ => False)
    (fun pre X Y row ⟨⟨A', n', c', vs, h1, h2, h3, h4⟩, h5, h6⟩ hg hr => ⟨⟨A', n', c', vs, boxed_own w.heap.size 29 (fun (_ : Unit) => Value.slice A' n' c') () X Y row h1 hg (fun r e => (hr r e).2), h2.keptN hg (fun r e => (hr r e).2), h3.keptN hg (fun r e => (hr r e).2), h4⟩,
      h5.trans ⟨hg.os, hg.tape, hg.output, hg.size, fun k hk => hg.block k (by have := h6.lt; omega) (fun e => by have := (hr k e.symm).1; omega)⟩, boxed_own (w.heap.size + 1) 29 (fun (_ : Unit) => Value.slice A len cap) () X Y row h6 hg (fun r e => (hr r e).2)⟩)
    (fun _ _ _ _ _ hs _ _ => hs)
    ⟨⟨none, 0, 0, [], hBO, RowC.nil _ _, Elts.nil _ _, rfl, Ap.nil⟩, hB0, hBS⟩
    (fun x a' W => ∃ Bx, w.heap.size + 1 < Bx ∧ Box W Bx 31 #[.int .i64 (us x.1).at_, .slice (us x.1).C (us x.1).n (us x.1).c, .slice (us x.1).P (us x.1).m (us x.1).d] ∧
      a' = { tmps := #[.slice A len cap, undef, .slice none 0 0, .pointer (some ⟨w.heap.size, 0, none⟩), undef, .pointer (some ⟨Bx, 0, none⟩), .slice A len cap, .func (.func 71) #[] #[.pointer (some ⟨w.heap.size + 1, 0, none⟩)], .int .i64 (x.1 : Int), .agg #[.int .i64 (us x.1).at_, .slice (us x.1).C (us x.1).n (us x.1).c, .slice (us x.1).P (us x.1).m (us x.1).d], undef, undef, undef, undef, undef, undef], defers := [] })
    (fun x a' _ X Y row ⟨Bx, h1, h2, h3⟩ hg hr => ⟨Bx, h1, (hg.block Bx h2.lt (fun e => by
      obtain ⟨o, ho, hc⟩ := (hr Bx e.symm).2
      rw [show X.heap[Bx]? = _ from h2] at ho
      injection ho with ho
      subst ho
      cases hc)).trans h2, h3⟩)
    ?assign ?body ?done ?stop
  case assign =>
    rintro l1 pre x W K ⟨⟨A', n', c', vs, h1, h2, h3, h4⟩, h5, h6⟩ hK
    gi_wp2
    exact hK _ _ ((KeepsOthers.alloc _ _).from _) ⟨(Below.refl _ W).alloc h5.size _, Below.heap_alloc W _ _ h6.lt⟩
      ⟨⟨A', n', c', vs, h1.alloc _, h2.alloc _, h3.alloc _, h4⟩, h5.alloc h5.size _, h6.alloc _⟩ ⟨W.heap.size, h6.lt, Box.new W _ _, rfl⟩
  case body =>
    rintro l1 pre x a' W hl ⟨r, hr⟩ ⟨⟨A', n', c', vs, h1, h2, h3, h4⟩, h5, h6⟩ ⟨Bx, hBx, bX, rfl⟩ hlt
    have hcO := h1.cell
    have hfO := h1.frozen
    obtain ⟨⟨x0, x1, x2⟩, _⟩ := bX.c3
    obtain ⟨y, hy1, hy⟩ := (H.out.below h5).rd x.1 x.2
    have hok := hy.ok
    have HC := hide (fun X (hb : Below W.heap.size W X) => cinvert_any (us x.1).at_ (us x.1).C (us x.1).P (us x.1).n (us x.1).c (us x.1).m (us x.1).d y.cut y.put X (hy.cut.below hb) (hy.put.below hb) (by have := hok.2.1; have := hy.cut.len; omega) (by have := hok.2.2; have := hy.put.len; omega))
    have HH2 := hide h2
    have HH3 := hide h3
    have HB5 := hide h5
    have HH1 := hide h1
    have HBX := hide bX
    have HH6 := hide h6
    have HYA := hide hy.at_
    have hsz1 := h1.lt
    obtain ⟨h4, hAp⟩ := h4
    subst h4
    have HAp := hide hAp
    clear hAp
    have hpl : pre.length + 1 ≤ 2513167470000 := by omega
    clear h1 h2 h3 h5 h6 bX hy hcells hBO hB0 hBs hBS hr
    gi_wp2_with fail
    -- what is left to be shown behind the store
    have FIN : ∀ (w1 : World) (C1 : Option Addr) (n1 c1 : Nat) (P1 : Option Addr) (m1 d1 : Nat), Own w1 W.drew.heap.size C1 n1 c1 y.put → Own w1 W.drew.heap.size P1 m1 d1 y.cut → Apart C1 P1 → Below W.drew.heap.size W.drew w1 →
        ∀ (g2 c2 : Nat) (w2 : World), RowC w2 w.heap.size (some ⟨g2, 0, none⟩) (pre.length + 1) c2 (vs ++ [⟨(us x.1).at_, C1, n1, c1, P1, m1, d1⟩]) →
        (w1.alloc (.cells #[.int .i64 (us x.1).at_, .slice C1 n1 c1, .slice P1 m1 d1] 31)).grownBy w2 (blk A') → Below w.heap.size (w1.alloc (.cells #[.int .i64 (us x.1).at_, .slice C1 n1 c1, .slice P1 m1 d1] 31)) w2 →
        Boxed w2 w.heap.size 29 (.slice A' pre.length c') ∧
        (KeepsFrom W0.heap.size W (w2.setCell ⟨w.heap.size, 0, none⟩ (.slice (some ⟨g2, 0, none⟩) (pre.length + 1) c2)) ∧ KpB w.heap.size (w.heap.size + 1) W (w2.setCell ⟨w.heap.size, 0, none⟩ (.slice (some ⟨g2, 0, none⟩) (pre.length + 1) c2)) ∧
          (∃ A' n' c' vs, Boxed (w2.setCell ⟨w.heap.size, 0, none⟩ (.slice (some ⟨g2, 0, none⟩) (pre.length + 1) c2)) w.heap.size 29 (.slice A' n' c') ∧ RowC (w2.setCell ⟨w.heap.size, 0, none⟩ (.slice (some ⟨g2, 0, none⟩) (pre.length + 1) c2)) w.heap.size A' n' c' vs ∧
            Elts (w2.setCell ⟨w.heap.size, 0, none⟩ (.slice (some ⟨g2, 0, none⟩) (pre.length + 1) c2)) w.heap.size vs (gotC l (pre ++ [x])) ∧ n' = (pre ++ [x]).length ∧ Ap vs) ∧ Below w.heap.size w (w2.setCell ⟨w.heap.size, 0, none⟩ (.slice (some ⟨g2, 0, none⟩) (pre.length + 1) c2)) ∧ Boxed (w2.setCell ⟨w.heap.size, 0, none⟩ (.slice (some ⟨g2, 0, none⟩) (pre.length + 1) c2)) (w.heap.size + 1) 29 (.slice A len cap)) := by
      intro w1 C1 n1 c1 P1 m1 d1 ho1 ho2 hap hb1 g2 c2 w2 hrow2 hg2 hb2
      have hb1' : Below W.heap.size W w1 := (Below.refl _ W).drew.trans hb1
      have hs1 := hb1'.size
      have hs0 := HB5.out.size
      have row1 := (HH2.out.below hb1').alloc (.cells #[.int .i64 (us x.1).at_, .slice C1 n1 c1, .slice P1 m1 d1] 31)
      have box1 := (show Boxed w1 _ _ _ from (hb1'.block _ HH1.out.lt).trans HH1.out).alloc (.cells #[.int .i64 (us x.1).at_, .slice C1 n1 c1, .slice P1 m1 d1] 31)
      have boxs1 := (show Boxed w1 _ _ _ from (hb1'.block _ HH6.out.lt).trans HH6.out).alloc (.cells #[.int .i64 (us x.1).at_, .slice C1 n1 c1, .slice P1 m1 d1] 31)
      have ne1 := box1.not_row (by decide) row1.row
      have ne2 := boxs1.not_row (by decide) row1.row
      rw [own_blk] at ne1 ne2
      have box2 := box1.kept hg2 ne1
      have boxs2 := boxs1.kept hg2 ne2
      have ne3 := box2.not_row (by decide) hrow2.row
      rw [own_blk] at ne3
      have el1 : EltO (w1.alloc (.cells #[.int .i64 (us x.1).at_, .slice C1 n1 c1, .slice P1 m1 d1] 31)) w.heap.size ⟨(us x.1).at_, C1, n1, c1, P1, m1, d1⟩ (invC y) :=
        (show EltO w1 w.heap.size ⟨(us x.1).at_, C1, n1, c1, P1, m1, d1⟩ (invC y) from ⟨HYA.out, ho1.mono hs0, ho2.mono hs0, hap, invC_ok hok⟩).alloc _
      have els := ((((HH3.out.below hb1').alloc (.cells #[.int .i64 (us x.1).at_, .slice C1 n1 c1, .slice P1 m1 d1] 31)).app (Elts.one el1))).row row1 hg2
      rw [← gotC_snoc l pre x hy1] at els
      have grw := grownBy_setCell' w2 w.heap.size (.slice (some ⟨g2, 0, none⟩) (pre.length + 1) c2)
      have bel2 : Below w.heap.size W w2 := (hb1'.mono hs0).trans (((Below.refl _ w1).alloc (by omega) _).trans hb2)
      refine ⟨box2, ⟨?_, ?_⟩, ⟨bel2.setCell (p := ⟨w.heap.size, 0, none⟩) (Nat.le_refl _) _, ?_⟩, ⟨some ⟨g2, 0, none⟩, pre.length + 1, c2, _, box2.set _, hrow2.kept grw (.inr fun e => ne3 e.symm), ?_, by simp, HAp.out.snoc HH3.out (fun g hg => (ho1.blk_ge g hg).1) (fun g hg => (ho2.blk_ge g hg).1)⟩,
        (HB5.out.trans bel2).setCell (p := ⟨w.heap.size, 0, none⟩) (Nat.le_refl _) _, boxs2.other (by omega) _⟩
      · simpa [World.setCell] using bel2.size
      · intro k o _ hk ho
        have hklt : k < W.heap.size := (Array.getElem?_eq_some_iff.1 hk).1
        have k1 : (w1.alloc (.cells #[.int .i64 (us x.1).at_, .slice C1 n1 c1, .slice P1 m1 d1] 31)).heap[k]? = some o := (Below.heap_alloc w1 _ k (by omega)).trans ((hb1'.block k hklt).trans hk)
        have hnr : some k ≠ blk A' := fun e => by
          rcases row1.row.2 with ⟨e1, _⟩ | ⟨g, cap, cur, e1, _, hgg, _⟩
          · injection e1 with e1
            subst e1
            cases e
          · injection e1 with e1
            subst e1
            injection e with e
            obtain rfl : k = g := e
            rw [hgg] at k1
            injection k1 with k1
            subst k1
            cases ho
        have k2 := (hg2.block k (by simp; omega) hnr).trans k1
        have hkb : k ≠ w.heap.size := fun e => by
          subst e
          rw [show W.heap[w.heap.size]? = _ from HH1.out] at hk
          injection hk with hk
          subst hk
          cases ho
        exact (Below.heap_setCell w2 _ _ k hkb).trans k2
      · exact ((boxs2.other (by omega) _).trans HH6.out.symm)
      · exact ⟨els.len, fun j v hj => by
          obtain ⟨z, h1, h2⟩ := els.at_ j v hj
          have q1 := box2.not_row (by decide) h2.cut.row
          have q2 := box2.not_row (by decide) h2.put.row
          rw [own_blk] at q1 q2
          exact ⟨z, h1, h2.at_, h2.cut.far (p := ⟨w.heap.size, 0, none⟩) (fun e => q1 e.symm) _, h2.put.far (p := ⟨w.heap.size, 0, none⟩) (fun e => q2 e.symm) _, h2.ap, h2.ok⟩⟩
    refine wpIn_region_any (by kernel_rfl) ?_
    change wpAnyIn _ _ _ _ _ _ _ _ _ (World.drew W)
    refine wpAnyIn_ready (rs := [0, 1]) (by kernel_rfl) (by simp) (AllReadyIn.cons rfl (fun K hK => ?_) (AllReadyIn.cons rfl (fun K hK => ?_) AllReadyIn.nil))
    · go_simp
      refine hK _ _ ?_
      clear hK K
      refine wpAnyIn_ready (rs := [1]) (by kernel_rfl) (by simp) (AllReadyIn.cons rfl (fun K hK => ?_) AllReadyIn.nil)
      go_simp
      refine hK _ _ ?_
      clear hK K
      refine wpAnyIn_ready (rs := [2]) (by kernel_rfl) (by simp) (AllReadyIn.cons rfl (fun K hK => ?_) AllReadyIn.nil)
      go_simp
      refine ⟨trivial, (CallsIn.inRound l1 (callsIn_wide.2 (HC.out _ (Below.refl _ _).drew))).mono ?_⟩
      rintro e w1 ⟨C1, n1, c1, P1, m1, d1, rfl, ho1, ho2, hap, hb1⟩
      refine hK _ _ ?_
      clear hK K
      have hs1 := hb1.size
      rw [World.size_drew] at hs1
      have hbo1 := (show Boxed W.drew w.heap.size 29 (.slice A' pre.length c') from HH1.out)
      have hbo2 : Boxed w1 w.heap.size 29 (.slice A' pre.length c') := (hb1.block _ hsz1).trans hbo1
      have hcO1 := hbo2.cell
      have hfO1 := hbo2.frozen
      refine wpAnyIn_ready (rs := [3]) (by kernel_rfl) (by simp) (AllReadyIn.cons rfl (fun K hK => ?_) AllReadyIn.nil)
      go_simp
      refine hK _ _ ?_
      clear hK K
      refine wpAnyIn_ready (rs := [4]) (by kernel_rfl) (by simp) (AllReadyIn.cons rfl (fun K hK => ?_) AllReadyIn.nil)
      refine stepIn_appC (by rfl) (.tmp 10) (.tmp 13) (by rfl) w.heap.size (by rfl) (((HH2.out.below (Below.refl _ _).drew).below hb1).alloc (.cells #[.int .i64 (us x.1).at_, .slice C1 n1 c1, .slice P1 m1 d1] 31)) (v := ⟨(us x.1).at_, C1, n1, c1, P1, m1, d1⟩) (by rfl) (Box.new _ _ _) hpl (by simp; omega) ?_
      intro g2 c2 w2 hrow2 hg2 hb2 _
      refine hK _ _ ?_
      clear hK K
      have FF := FIN w1 C1 n1 c1 P1 m1 d1 ho1 ho2 hap hb1 g2 c2 w2 hrow2 hg2 hb2
      have hcO2 := FF.1.cell
      have hfO2 := FF.1.frozen
      have HFF := hide FF.2
      clear FF
      refine wpAnyIn_ready (rs := [5]) (by kernel_rfl) (by simp) (AllReadyIn.cons rfl (fun K hK => ?_) AllReadyIn.nil)
      go_simp
      refine hK _ _ ?_
      clear hK K
      refine wpAnyIn_done (by kernel_rfl) ?_ _
      exact HFF.out
    · go_simp
      refine hK _ _ ?_
      clear hK K
      refine wpAnyIn_ready (rs := [0, 2]) (by kernel_rfl) (by simp) (AllReadyIn.cons rfl (fun K hK => ?_) (AllReadyIn.cons rfl (fun K hK => ?_) AllReadyIn.nil))
      · go_simp
        refine hK _ _ ?_
        clear hK K
        refine wpAnyIn_ready (rs := [2]) (by kernel_rfl) (by simp) (AllReadyIn.cons rfl (fun K hK => ?_) AllReadyIn.nil)
        go_simp
        refine ⟨trivial, (CallsIn.inRound l1 (callsIn_wide.2 (HC.out _ (Below.refl _ _).drew))).mono ?_⟩
        rintro e w1 ⟨C1, n1, c1, P1, m1, d1, rfl, ho1, ho2, hap, hb1⟩
        refine hK _ _ ?_
        clear hK K
        have hs1 := hb1.size
        rw [World.size_drew] at hs1
        have hbo1 := (show Boxed W.drew w.heap.size 29 (.slice A' pre.length c') from HH1.out)
        have hbo2 : Boxed w1 w.heap.size 29 (.slice A' pre.length c') := (hb1.block _ hsz1).trans hbo1
        have hcO1 := hbo2.cell
        have hfO1 := hbo2.frozen
        refine wpAnyIn_ready (rs := [3]) (by kernel_rfl) (by simp) (AllReadyIn.cons rfl (fun K hK => ?_) AllReadyIn.nil)
        go_simp
        refine hK _ _ ?_
        clear hK K
        refine wpAnyIn_ready (rs := [4]) (by kernel_rfl) (by simp) (AllReadyIn.cons rfl (fun K hK => ?_) AllReadyIn.nil)
        refine stepIn_appC (by rfl) (.tmp 10) (.tmp 13) (by rfl) w.heap.size (by rfl) (((HH2.out.below (Below.refl _ _).drew).below hb1).alloc (.cells #[.int .i64 (us x.1).at_, .slice C1 n1 c1, .slice P1 m1 d1] 31)) (v := ⟨(us x.1).at_, C1, n1, c1, P1, m1, d1⟩) (by rfl) (Box.new _ _ _) hpl (by simp; omega) ?_
        intro g2 c2 w2 hrow2 hg2 hb2 _
        refine hK _ _ ?_
        clear hK K
        have FF := FIN w1 C1 n1 c1 P1 m1 d1 ho1 ho2 hap hb1 g2 c2 w2 hrow2 hg2 hb2
        have hcO2 := FF.1.cell
        have hfO2 := FF.1.frozen
        have HFF := hide FF.2
        clear FF
        refine wpAnyIn_ready (rs := [5]) (by kernel_rfl) (by simp) (AllReadyIn.cons rfl (fun K hK => ?_) AllReadyIn.nil)
        go_simp
        refine hK _ _ ?_
        clear hK K
        refine wpAnyIn_done (by kernel_rfl) ?_ _
        exact HFF.out
      · go_simp
        refine ⟨trivial, (CallsIn.inRound l1 (callsIn_wide.2 (HC.out _ (Below.refl _ _).drew))).mono ?_⟩
        rintro e w1 ⟨C1, n1, c1, P1, m1, d1, rfl, ho1, ho2, hap, hb1⟩
        refine hK _ _ ?_
        clear hK K
        have hs1 := hb1.size
        rw [World.size_drew] at hs1
        have hbo1 := (show Boxed W.drew w.heap.size 29 (.slice A' pre.length c') from HH1.out)
        have hbo2 : Boxed w1 w.heap.size 29 (.slice A' pre.length c') := (hb1.block _ hsz1).trans hbo1
        have hcO1 := hbo2.cell
        have hfO1 := hbo2.frozen
        refine wpAnyIn_ready (rs := [0, 3]) (by kernel_rfl) (by simp) (AllReadyIn.cons rfl (fun K hK => ?_) (AllReadyIn.cons rfl (fun K hK => ?_) AllReadyIn.nil))
        · go_simp
          refine hK _ _ ?_
          clear hK K
          refine wpAnyIn_ready (rs := [3]) (by kernel_rfl) (by simp) (AllReadyIn.cons rfl (fun K hK => ?_) AllReadyIn.nil)
          go_simp
          refine hK _ _ ?_
          clear hK K
          refine wpAnyIn_ready (rs := [4]) (by kernel_rfl) (by simp) (AllReadyIn.cons rfl (fun K hK => ?_) AllReadyIn.nil)
          refine stepIn_appC (by rfl) (.tmp 10) (.tmp 13) (by rfl) w.heap.size (by rfl) (((HH2.out.below (Below.refl _ _).drew).below hb1).alloc (.cells #[.int .i64 (us x.1).at_, .slice C1 n1 c1, .slice P1 m1 d1] 31)) (v := ⟨(us x.1).at_, C1, n1, c1, P1, m1, d1⟩) (by rfl) (Box.new _ _ _) hpl (by simp; omega) ?_
          intro g2 c2 w2 hrow2 hg2 hb2 _
          refine hK _ _ ?_
          clear hK K
          have FF := FIN w1 C1 n1 c1 P1 m1 d1 ho1 ho2 hap hb1 g2 c2 w2 hrow2 hg2 hb2
          have hcO2 := FF.1.cell
          have hfO2 := FF.1.frozen
          have HFF := hide FF.2
          clear FF
          refine wpAnyIn_ready (rs := [5]) (by kernel_rfl) (by simp) (AllReadyIn.cons rfl (fun K hK => ?_) AllReadyIn.nil)
          go_simp
          refine hK _ _ ?_
          clear hK K
          refine wpAnyIn_done (by kernel_rfl) ?_ _
          exact HFF.out
        · go_simp
          refine hK _ _ ?_
          clear hK K
          have hcO3 := (hbo2.alloc (.cells #[.int .i64 (us x.1).at_, .slice C1 n1 c1, .slice P1 m1 d1] 31)).cell
          refine wpAnyIn_ready (rs := [0]) (by kernel_rfl) (by simp) (AllReadyIn.cons rfl (fun K hK => ?_) AllReadyIn.nil)
          go_simp
          refine hK _ _ ?_
          clear hK K
          refine wpAnyIn_ready (rs := [4]) (by kernel_rfl) (by simp) (AllReadyIn.cons rfl (fun K hK => ?_) AllReadyIn.nil)
          refine stepIn_appC (by rfl) (.tmp 10) (.tmp 13) (by rfl) w.heap.size (by rfl) (((HH2.out.below (Below.refl _ _).drew).below hb1).alloc (.cells #[.int .i64 (us x.1).at_, .slice C1 n1 c1, .slice P1 m1 d1] 31)) (v := ⟨(us x.1).at_, C1, n1, c1, P1, m1, d1⟩) (by rfl) (Box.new _ _ _) hpl (by simp; omega) ?_
          intro g2 c2 w2 hrow2 hg2 hb2 _
          refine hK _ _ ?_
          clear hK K
          have FF := FIN w1 C1 n1 c1 P1 m1 d1 ho1 ho2 hap hb1 g2 c2 w2 hrow2 hg2 hb2
          have hcO2 := FF.1.cell
          have hfO2 := FF.1.frozen
          have HFF := hide FF.2
          clear FF
          refine wpAnyIn_ready (rs := [5]) (by kernel_rfl) (by simp) (AllReadyIn.cons rfl (fun K hK => ?_) AllReadyIn.nil)
          go_simp
          refine hK _ _ ?_
          clear hK K
          refine wpAnyIn_done (by kernel_rfl) ?_ _
          exact HFF.out
  case done =>
    rintro D ys W hD rfl ⟨⟨A', n', c', vs, h1, h2, h3, h4, hAp⟩, h5, h6⟩ hK
    subst h4
    have HAp := hide hAp
    clear hAp
    have hc := h1.cell
    have HH := hide (And.intro h2 (And.intro h3 h5))
    clear h1 h2 h3 h5 h6 hcells hBO hB0 hBs hBS
    gi_wp2
    refine ⟨by simp, .inl ⟨_, _, rfl, run_takeDeferred hK, ?_⟩⟩
    have hg := grownBy_putObj' W D (.deferred none)
    have hN : NoCells W (some D) := fun r e => by cases e; exact ⟨_, hK, rfl⟩
    refine ⟨_, results_tmp rfl _ _ _, A', _, c', vs, rfl, HH.out.1.keptN hg hN, ?_, HAp.out, HH.out.2.2.trans (belowK_b (w := w) (Nat.le_refl _) W D _ _ (by omega) hK rfl rfl)⟩
    have := HH.out.2.1.keptN hg hN
    have hlen := H.out.len
    subst hlen
    rwa [gotC_all] at this
  case stop =>
    rintro D c pre W _ _ h _
    exact h.elim

theorem cback_any (A : Option Addr) (len cap : Nat) (us : Nat → CV) (l : List Chg) (w : World) (h : Chgs w A len us l) (hn : len ≤ 2513167470000) :
    Calls Try.prog 44 #[.slice A len cap] w (NewCs w (backC l)) := by
  refine (cback_apart A len cap us l w h hn).mono ?_
  rintro e w' ⟨A', n', c', vs, h1, h2, h3, _, h4⟩
  exact ⟨A', n', c', vs, h1, h2, h3, h4⟩
end Go.Proofs.Ytjhnenljmmeflaa
