/- The contract of standishlaw28.step: words; Undo, Redo. -/
import Derived.Test.YtjhnenljmmeflaaTwo
import Derived.Test.YtjhnenljmmeflaaRefB
import Derived.Test.YtjhnenljmmeflaaSpo28
import Derived.Test.YtjhnenljmmeflaaOpenD
namespace Go.Proofs.Ytjhnenljmmeflaa
open Go.RowKit
set_option linter.unusedVariables false

/-- What a step leaves: a tree that goes on, and yes; both trees alike. -/
def StepR (w0 : World) (r N : Nat) (e : Ending) (w' : World) : Prop :=
  ∃ (t' : Nat) (P' Q' : Nat → Prop) (gs' : List Grp) (now' : Nat), e = .returned (.tuple #[.pointer (some ⟨t', 0, none⟩), .bool true]) ∧ Two w0 w' P' Q' t' r gs' now' gs' now' ∧ gs'.length ≤ N
/-- Two trees, and the deed's own block. -/
structure StepSt (w0 w : World) (P Q : Nat → Prop) (t r : Nat) (ga : List Grp) (na : Nat) (gb : List Grp) (nb : Nat) (q : Nat) (u : DV) : Prop where
  two : Two w0 w P Q t r ga na gb nb
  box : Box w q 54 #[.int .i64 u.how, .int .i64 u.at_, .slice u.L u.n u.c]
  offP : ¬ P q
  offQ : ¬ Q q
section
variable {w0 w w' : World} {P Q S : Nat → Prop} {t r na nb na' nb' q : Nat} {ga gb : List Grp} {l : List Chg} {before : Int} {ok : Bool} {e : Ending} {u : DV}
theorem StepSt.start {w : World} {gs : List Grp} {now q : Nat} (h : Two w0 w P Q t r gs now gs now) (u : DV) (hq : w.heap.size = q) : StepSt w0 (w.alloc (.cells #[.int .i64 u.how, .int .i64 u.at_, .slice u.L u.n u.c] 54)) P Q t r gs now gs now q u :=
  ⟨h.next ((Below.refl _ _).alloc (Nat.le_refl _) _), Box.newAt hq _ _, fun e => by have := h.a.lt q e; omega, fun e => by have := h.b.lt q e; omega⟩
theorem StepSt.next (h : StepSt w0 w P Q t r ga na gb nb q u) (hb : Below w.heap.size w w') : StepSt w0 w' P Q t r ga na gb nb q u := ⟨h.two.next hb, h.box.below hb, h.offP, h.offQ⟩
theorem StepSt.stay (h : StepSt w0 w P Q t r ga na gb nb q u) (hk : Keeps S w w') (hS : ¬ S q) : Box w' q 54 #[.int .i64 u.how, .int .i64 u.at_, .slice u.L u.n u.c] := (hk.block q h.box.lt hS).trans h.box
theorem StepSt.moveA (h : StepSt w0 w P Q t r ga na gb nb q u) (k : MoveR w P t ga na' l before ok e w') :
    ∃ A n c vs, e = .returned (.tuple #[.slice A n c, .int .i64 before, .bool ok]) ∧ RowC w' w.heap.size A n c vs ∧ Elts w' w.heap.size vs l ∧ Ap vs ∧ StepSt w0 w' P Q t r ga na' gb nb q u := by
  obtain ⟨A, n, c, vs, he, k1, k2, k3, k4, k5⟩ := h.two.moveA k
  exact ⟨A, n, c, vs, he, k1, k2, k3, k4, h.stay k5 fun e => h.offP (e ▸ h.two.a.inT), h.offP, h.offQ⟩
theorem StepSt.moveB (h : StepSt w0 w P Q t r ga na gb nb q u) (k : RMoveR w Q r gb nb' l before ok e w') :
    ∃ A n c vs, e = .returned (.tuple #[.slice A n c, .int .i64 before, .bool ok]) ∧ RowC w' w.heap.size A n c vs ∧ Elts w' w.heap.size vs l ∧ StepSt w0 w' P Q t r ga na gb nb' q u ∧ Keeps (· = r) w w' := by
  obtain ⟨A, n, c, vs, he, k1, k2, k4, k5⟩ := h.two.moveB k
  exact ⟨A, n, c, vs, he, k1, k2, ⟨k4, h.stay k5 fun e => h.offQ (e ▸ h.two.b.inT), h.offP, h.offQ⟩, k5⟩
end

set_option maxRecDepth 100000 in
set_option maxHeartbeats 4000000 in
theorem step_undo (w0 w : World) (P Q : Nat → Prop) (t r : Nat) (gs : List Grp) (now : Nat) (u : DV) (h : Two w0 w P Q t r gs now gs now) (hs : gs.length ≤ 100) (hz : bits .and .i64 u.how 7 = 3) : Calls Try.prog 29 #[.pointer (some ⟨t, 0, none⟩), .pointer (some ⟨r, 0, none⟩), .agg #[.int .i64 u.how, .int .i64 u.at_, .slice u.L u.n u.c]] w (StepR w0 r (gs.length + 1)) := by
  obtain ⟨q, hq⟩ : ∃ q, w.heap.size = q := ⟨_, rfl⟩
  have HST := hide (StepSt.start h u hq)
  obtain ⟨⟨c0, c1, c2⟩, -⟩ := HST.out.box.c3
  have HM := hide (up_ok h.a.wf)
  clear h
  go_enter Try.func29, Try.ntmps29
  go_wp2_with fail
  generalize w.alloc (.cells #[.int .i64 u.how, .int .i64 u.at_, .slice u.L u.n u.c] 54) = W1 at HST c0 c1 c2 ⊢
  clear hq c0 c1 c2
  refine (undo_all W1 P t gs now HST.out.two.a).mono ?_
  intro e w2 hm
  obtain ⟨A2, n2, d2, vs2, rfl, hr2, he2, ha2, hS2⟩ := HST.out.moveA hm
  have HS2 := hide hS2
  have HR2 := hide hr2
  have HE2 := hide he2
  have HA2 := hide ha2
  have hrl : r < W1.heap.size := HST.out.two.b.lt _ HST.out.two.b.inT
  have HPL := hide (show (∀ x, P x → x < W1.heap.size) ∧ ∀ x, Q x → x < W1.heap.size from ⟨HST.out.two.a.lt, HST.out.two.b.lt⟩)
  have HWS := hide HST.out.two.below.size
  obtain ⟨⟨c0, c1, c2⟩, -⟩ := hS2.box.c3
  clear hm hr2 he2 ha2 hS2 HST
  go_wp2_with fail
  refine (rundo_all w2 Q r gs now HS2.out.two.b).mono ?_
  intro e w3 hm
  obtain ⟨A3, n3, d3, vs3, rfl, hr3, he3, hS3, hk3⟩ := HS2.out.moveB hm
  have HS3 := hide hS3
  have HR23 := hide (rowC_keeps HR2.out hk3 fun x hx => .inl (by rw [hx]; exact hrl))
  have HE23 := hide (elts_keeps HE2.out hk3 fun x hx => .inl (by rw [hx]; exact hrl))
  have hn2 : n2 ≤ 1000000 := by have h1 := HM.out.2; have h2 := HE2.out.len; have h3 := HR2.out.len; omega
  have HSC := hide (sameChanges_yes A2 A3 n2 d2 n3 d3 (vget vs2) (vget vs3) _ w3 (HE23.out.chgs HR23.out) (he3.chgs hr3) (by omega))
  have HZ := hide (show w2.heap.size ≤ w3.heap.size from hk3.size)
  have HIN := hide (show (∀ g, blk A2 = some g → W1.heap.size ≤ g) ∧ ∀ v ∈ vs2, CVIn (fun g => W1.heap.size ≤ g) v from
    ⟨fun g hg => (HR2.out.blk_ge g hg).1, fun v hv => by
      have h1 := elts_in HE2.out v hv
      exact ⟨fun g hg => (h1.1 g hg).1, fun g hg => (h1.2 g hg).1⟩⟩)
  clear hm hr3 he3 hS3 hk3 c0 c1 c2 HR2 HE2 HS2
  go_wp2_with fail
  refine HSC.out.mono ?_
  rintro e w4 ⟨rfl, hb4⟩
  have HS4 := hide (HS3.out.next hb4)
  have HSP := hide (spoil28_any (fun g => W1.heap.size ≤ g) A2 n2 d2 vs2 _ w4 ((HR23.out.below hb4).mono (Nat.zero_le _)) ((HE23.out.below hb4).mono (Nat.zero_le _)) HA2.out HIN.out.1 HIN.out.2)
  clear hb4 HSC HR23 HE23 HS3
  go_wp2_with fail
  refine HSP.out.mono ?_
  rintro e w5 ⟨rfl, hk5⟩
  have HS5 := hide (HS4.out.two.keeps hk5 (fun x hx he => by have := HPL.out.1 x hx; omega) (fun x hx he => by have := HPL.out.2 x hx; omega) fun x hx => Nat.le_trans HWS.out hx)
  clear hk5 HSP HS4
  go_wp2_with fail
  go_ret2
  exact ⟨t, P, Q, gs, (upG gs now).now, rfl, HS5.out, by omega⟩

set_option maxRecDepth 100000 in
set_option maxHeartbeats 4000000 in
theorem step_redo (w0 w : World) (P Q : Nat → Prop) (t r : Nat) (gs : List Grp) (now : Nat) (u : DV) (h : Two w0 w P Q t r gs now gs now) (hs : gs.length ≤ 100) (hz : bits .and .i64 u.how 7 = 4) : Calls Try.prog 29 #[.pointer (some ⟨t, 0, none⟩), .pointer (some ⟨r, 0, none⟩), .agg #[.int .i64 u.how, .int .i64 u.at_, .slice u.L u.n u.c]] w (StepR w0 r (gs.length + 1)) := by
  obtain ⟨q, hq⟩ : ∃ q, w.heap.size = q := ⟨_, rfl⟩
  have HST := hide (StepSt.start h u hq)
  obtain ⟨⟨c0, c1, c2⟩, -⟩ := HST.out.box.c3
  have HM := hide (down_ok h.a.wf)
  clear h
  go_enter Try.func29, Try.ntmps29
  go_wp2_with fail
  generalize w.alloc (.cells #[.int .i64 u.how, .int .i64 u.at_, .slice u.L u.n u.c] 54) = W1 at HST c0 c1 c2 ⊢
  clear hq c0 c1 c2
  refine (redo_all W1 P t gs now HST.out.two.a).mono ?_
  intro e w2 hm
  obtain ⟨A2, n2, d2, vs2, rfl, hr2, he2, ha2, hS2⟩ := HST.out.moveA hm
  have HS2 := hide hS2
  have HR2 := hide hr2
  have HE2 := hide he2
  have HA2 := hide ha2
  have hrl : r < W1.heap.size := HST.out.two.b.lt _ HST.out.two.b.inT
  have HPL := hide (show (∀ x, P x → x < W1.heap.size) ∧ ∀ x, Q x → x < W1.heap.size from ⟨HST.out.two.a.lt, HST.out.two.b.lt⟩)
  have HWS := hide HST.out.two.below.size
  obtain ⟨⟨c0, c1, c2⟩, -⟩ := hS2.box.c3
  clear hm hr2 he2 ha2 hS2 HST
  go_wp2_with fail
  refine (rredo_all w2 Q r gs now HS2.out.two.b).mono ?_
  intro e w3 hm
  obtain ⟨A3, n3, d3, vs3, rfl, hr3, he3, hS3, hk3⟩ := HS2.out.moveB hm
  have HS3 := hide hS3
  have HR23 := hide (rowC_keeps HR2.out hk3 fun x hx => .inl (by rw [hx]; exact hrl))
  have HE23 := hide (elts_keeps HE2.out hk3 fun x hx => .inl (by rw [hx]; exact hrl))
  have hn2 : n2 ≤ 1000000 := by have h1 := HM.out.2; have h2 := HE2.out.len; have h3 := HR2.out.len; omega
  have HSC := hide (sameChanges_yes A2 A3 n2 d2 n3 d3 (vget vs2) (vget vs3) _ w3 (HE23.out.chgs HR23.out) (he3.chgs hr3) (by omega))
  have HZ := hide (show w2.heap.size ≤ w3.heap.size from hk3.size)
  have HIN := hide (show (∀ g, blk A2 = some g → W1.heap.size ≤ g) ∧ ∀ v ∈ vs2, CVIn (fun g => W1.heap.size ≤ g) v from
    ⟨fun g hg => (HR2.out.blk_ge g hg).1, fun v hv => by
      have h1 := elts_in HE2.out v hv
      exact ⟨fun g hg => (h1.1 g hg).1, fun g hg => (h1.2 g hg).1⟩⟩)
  clear hm hr3 he3 hS3 hk3 c0 c1 c2 HR2 HE2 HS2
  go_wp2_with fail
  refine HSC.out.mono ?_
  rintro e w4 ⟨rfl, hb4⟩
  have HS4 := hide (HS3.out.next hb4)
  have HSP := hide (spoil28_any (fun g => W1.heap.size ≤ g) A2 n2 d2 vs2 _ w4 ((HR23.out.below hb4).mono (Nat.zero_le _)) ((HE23.out.below hb4).mono (Nat.zero_le _)) HA2.out HIN.out.1 HIN.out.2)
  clear hb4 HSC HR23 HE23 HS3
  go_wp2_with fail
  refine HSP.out.mono ?_
  rintro e w5 ⟨rfl, hk5⟩
  have HS5 := hide (HS4.out.two.keeps hk5 (fun x hx he => by have := HPL.out.1 x hx; omega) (fun x hx he => by have := HPL.out.2 x hx; omega) fun x hx => Nat.le_trans HWS.out hx)
  clear hk5 HSP HS4
  go_wp2_with fail
  go_ret2
  exact ⟨t, P, Q, gs, (downG gs now).now, rfl, HS5.out, by omega⟩
end Go.Proofs.Ytjhnenljmmeflaa
