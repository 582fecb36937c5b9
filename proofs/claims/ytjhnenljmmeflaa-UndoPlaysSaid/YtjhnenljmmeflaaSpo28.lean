/- standishlaw28.spoil: changes of the law's own are written over; only their blocks turn. -/
import Derived.Test.YtjhnenljmmeflaaUndoK
namespace Go.Proofs.Ytjhnenljmmeflaa
open Go.RowKit
set_option linter.unusedVariables false

theorem rowC_rowG {w : World} {B n c : Nat} {A : Option Addr} {vs : List CV} (h : RowC w B A n c vs) : RowG w 31 3 B A n c (vs.map CV.cells) :=
  ⟨by have := h.row; simpa [cellsC, List.flatMap] using this, fun v hv => by
    obtain ⟨u, _, rfl⟩ := List.mem_map.1 hv
    refine ⟨rfl, fun x hx => ?_⟩
    simp only [CV.cells, List.mem_cons, List.not_mem_nil, or_false] at hx
    rcases hx with rfl | rfl | rfl <;> rfl, by rw [List.length_map]; exact h.len⟩
theorem rowG_rowC {w : World} {B n c : Nat} {A : Option Addr} {vs : List CV} (h : RowG w 31 3 B A n c (vs.map CV.cells)) : RowC w B A n c vs :=
  ⟨by have := h.row; simpa [cellsC, List.flatMap] using this⟩
/-- The place of a change is written over. -/
theorem RowC.setAt {w : World} {B g n c x : Nat} {vs : List CV} {v : CV} (h : RowC w B (some ⟨g, 0, none⟩) n c vs) (hv : vs[x]? = some v) (a : Int) : RowC (w.setCell ⟨g, x * 3, none⟩ (.int .i64 a)) B (some ⟨g, 0, none⟩) n c (vs.set x { v with at_ := a }) := by
  have h1 := (rowC_rowG h).set (j := x) (i := 0) (v := v.cells) (u := .int .i64 a) (by rw [List.getElem?_map, hv]; rfl) (by omega) rfl
  refine rowG_rowC ?_
  rw [List.map_set]
  exact h1
/-- One change is written over: what is left of the others. -/
structure SpoSt (S : Nat → Prop) (w wx : World) (A : Option Addr) (n c x : Nat) : Prop where
  ex : ∃ vs, RowC wx 0 A n c vs ∧ Ap vs ∧ (∀ u ∈ vs, CVIn S u) ∧ (∀ (j : Nat) (u : CV), x ≤ j → vs[j]? = some u → ∃ z, EltO wx 0 u z) ∧ Keeps S w wx
theorem Keeps.grownS {S : Nat → Prop} {w w1 w2 : World} {A : Option Addr} (h : Keeps S w w1) (k : w1.grownBy w2 (blk A)) (hA : ∀ g, blk A = some g → S g) : Keeps S w w2 := h.grown k fun g hg _ => hA g hg
theorem RowC.box {w : World} {B g n c : Nat} {vs : List CV} (h : RowC w B (some ⟨g, 0, none⟩) n c vs) : ∃ cur, Box w g 31 cur := (rowC_rowG h).box
theorem Apart.okR {A B : Option Addr} (h : Apart A B) : blk B = none ∨ blk B ≠ blk A := by
  rcases hB : blk B with _ | g
  · exact .inl rfl
  · exact .inr fun e => h g e.symm hB
theorem RowC.farO {w w' : World} {B B' n c n' c' : Nat} {A C : Option Addr} {vs : List CV} {t : List Int} (k : RowC w B A n c vs) (h : Own w B' C n' c' t) (hg : w.grownBy w' (blk C)) : RowC w' B A n c vs :=
  k.kept hg (by
    rcases own_ne_row h k with e | e
    · rcases hA : blk A with _ | g
      · exact .inl rfl
      · rw [e]; exact .inr (by simp)
    · exact .inr fun e2 => e e2.symm)
theorem SpoSt.step {S : Nat → Prop} {w wx w1 w2 : World} {g n c x : Nat} {vs : List CV} {v : CV} {y : Chg} (hS : S g) (hrow : RowC wx 0 (some ⟨g, 0, none⟩) n c vs) (hap : Ap vs) (hin : ∀ u ∈ vs, CVIn S u)
    (he : ∀ (j : Nat) (u : CV), x ≤ j → vs[j]? = some u → ∃ z, EltO wx 0 u z) (hk : Keeps S w wx) (hv : vs[x]? = some v) (hy : EltO wx 0 v y) (hg1 : wx.grownBy w1 (blk v.C)) (hg2 : w1.grownBy w2 (blk v.P)) :
    RowC w2 0 (some ⟨g, 0, none⟩) n c vs ∧ SpoSt S w (w2.setCell ⟨g, x * 3, none⟩ (.int .i64 (-9))) (some ⟨g, 0, none⟩) n c (x + 1) := by
  have hP1 : Own w1 0 v.P v.m v.d y.put := hy.put.kept hg1 hy.ap.okR
  have hr2 : RowC w2 0 (some ⟨g, 0, none⟩) n c vs := (hrow.farO hy.cut hg1).farO hP1 hg2
  have hvm := List.mem_of_getElem? hv
  obtain ⟨cur, hbx⟩ := hr2.box
  refine ⟨hr2, _, hr2.setAt hv (-9), ?_, fun u hu => ?_, fun j u hj hu => ?_, ?_⟩
  · have key : ∀ (i : Nat) (u : CV), (vs.set x { v with at_ := -9 })[i]? = some u → ∃ u', vs[i]? = some u' ∧ u'.C = u.C ∧ u'.P = u.P := fun i u hu => by
      by_cases hi : i = x
      · subst hi
        rw [List.getElem?_set_self (List.getElem?_eq_some_iff.1 hv).1] at hu
        exact ⟨v, hv, by rw [← Option.some.inj hu], by rw [← Option.some.inj hu]⟩
      · rw [List.getElem?_set_ne (fun e => hi e.symm)] at hu
        exact ⟨u, hu, rfl, rfl⟩
    intro i j a b ha hb hij
    obtain ⟨a', ha', e1, e2⟩ := key i a ha
    obtain ⟨b', hb', e3, e4⟩ := key j b hb
    have := hap i j a' b' ha' hb' hij
    rwa [e1, e2, e3, e4] at this
  · rcases List.mem_or_eq_of_mem_set hu with h1 | h1
    · exact hin u h1
    · rw [h1]; exact hin v hvm
  · rw [List.getElem?_set_ne (by omega)] at hu
    obtain ⟨z, hz⟩ := he j u (by omega) hu
    obtain ⟨a1, a2, a3, a4⟩ := hap x j v u hv hu (by omega)
    have h1 : EltO w2 0 u z := ⟨hz.at_, (hz.cut.kept hg1 a1.okR).kept hg2 a3.okR, (hz.put.kept hg1 a2.okR).kept hg2 a4.okR, hz.ap, hz.ok⟩
    exact ⟨z, h1.at_, h1.cut.far (p := ⟨g, x * 3, none⟩) (hbx.ne_own h1.cut (by decide)) _, h1.put.far (p := ⟨g, x * 3, none⟩) (hbx.ne_own h1.put (by decide)) _, h1.ap, h1.ok⟩
  · exact ((hk.grownS hg1 (hin v hvm).1).grownS hg2 (hin v hvm).2).set (p := ⟨g, x * 3, none⟩) (fun _ => hS) _

set_option maxHeartbeats 1000000 in
theorem spoil28_any (S : Nat → Prop) (A : Option Addr) (n c : Nat) (vs : List CV) (l : List Chg) (w : World) (hr : RowC w 0 A n c vs) (he : Elts w 0 vs l) (ha : Ap vs) (hA : ∀ g, blk A = some g → S g) (hU : ∀ u ∈ vs, CVIn S u) :
    Calls Try.prog 54 #[.slice A n c] w fun e w' => e = .returned (.tuple #[]) ∧ Keeps S w w' := by
  have hcap := hr.cap
  have H0 := hide (show SpoSt S w w A n c 0 from ⟨vs, hr, ha, hU, fun j u _ hj => by
    obtain ⟨y, _, hy⟩ := he.at_ j u hj
    exact ⟨y, hy⟩, Keeps.refl S w⟩)
  have HA := hide hA
  clear hr he ha hU hA
  go_enter Try.func54, Try.ntmps54
  go_wp2_with fail
  go_loopw [5] (fun i wx => ∃ x : Nat, x ≤ n ∧ i = .int .i64 x ∧ SpoSt S w wx A n c x) (fun i _ => n - (intOf i).toNat)
  case atStart => exact ⟨0, Nat.zero_le _, rfl, H0.out⟩
  case round =>
    obtain ⟨x, hx, rfl, hst⟩ := hrel
    by_cases hxn : x < n
    · obtain ⟨vs1, hrow, hap, hin, helt, hk⟩ := hst.ex
      obtain ⟨v, hv⟩ : ∃ v, vs1[x]? = some v := ⟨_, List.getElem?_eq_getElem (by rw [hrow.len]; exact hxn)⟩
      obtain ⟨y, hy⟩ := helt x v (Nat.le_refl _) hv
      obtain ⟨g, rfl, i0, i1, i2⟩ := hrow.cells_at hxn
      rw [vget_of hv] at i0 i1 i2
      rw [Nat.zero_add] at i0 i1 i2
      have h0 : (0 : Int) ≤ (x : Int) := by omega
      have h1' : (x : Int) < (n : Int) := by omega
      have HR := hide hrow
      have HAp := hide hap
      have HIn := hide hin
      have HEl := hide helt
      have HK := hide hk
      have HV := hide hv
      have HY := hide hy
      have HSP1 := hide (spoil_any 0 v.C v.n v.c y.cut wr hy.cut)
      have HSP2 := hide (fun w1 (hg1 : wr.grownBy w1 (blk v.C)) => spoil_any 0 v.P v.m v.d y.put w1 (hy.put.kept hg1 hy.ap.okR))
      obtain ⟨va, vC, vn, vc, vP, vm, vd⟩ := v
      simp only at i0 i1 i2 HSP1 HSP2
      clear hst hrow hap hin helt hk hv hy
      go_wp2_with fail
      refine HSP1.out.mono ?_
      rintro e w1 ⟨rfl, _, hg1⟩
      have HG1 := hide hg1
      have hr1 : RowC w1 0 (some ⟨g, 0, none⟩) n c vs1 := HR.out.farO HY.out.cut hg1
      obtain ⟨g', e', j0, j1, j2⟩ := hr1.cells_at hxn
      cases e'
      rw [vget_of HV.out] at j0 j1 j2
      rw [Nat.zero_add] at j0 j1 j2
      simp only at j0 j1 j2
      clear i0 i1 i2 hg1 hr1 HSP1
      go_wp2_with fail
      refine (HSP2.out _ HG1.out).mono ?_
      rintro e w2 ⟨rfl, _, hg2⟩
      obtain ⟨hr2, hst2⟩ := SpoSt.step (S := S) (w := w) (HA.out g rfl) HR.out HAp.out HIn.out HEl.out HK.out HV.out HY.out HG1.out hg2
      have HST := hide hst2
      obtain ⟨g', e', k0, k1, k2⟩ := hr2.cells_at hxn
      cases e'
      rw [vget_of HV.out] at k0 k1 k2
      rw [Nat.zero_add] at k0 k1 k2
      simp only at k0 k1 k2
      have f0 : w2.frozen? ⟨g, x * 3, none⟩ = false := by
        obtain ⟨_, e', _, h4⟩ := (rowC_rowG hr2).cell (j := x) (i := 0) (v := CV.cells ⟨va, vC, vn, vc, vP, vm, vd⟩) (u := .int .i64 va) (by rw [List.getElem?_map, HV.out]; rfl) (by omega) rfl
        cases e'
        exact h4
      clear j0 j1 j2 hg2 hr2 hst2 HSP2
      go_wp2_with fail
      go_roundw
      case rel => exact ⟨x + 1, by omega, by go_num, HST.out⟩
      case measure => simp [intOf]; omega
    · obtain rfl : x = n := by omega
      have HST := hide hst
      clear hst
      go_wp2_with fail
      go_end0
      obtain ⟨_, _, _, _, _, hk⟩ := HST.out.ex
      exact ⟨rfl, hk⟩
end Go.Proofs.Ytjhnenljmmeflaa
