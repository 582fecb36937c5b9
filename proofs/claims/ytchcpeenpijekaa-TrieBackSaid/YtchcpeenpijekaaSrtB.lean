/- Go's sort of runes, walked: reverseRangeOrdered, order2Ordered, medianOrdered, medianAdjacentOrdered, choosePivotOrdered. -/
import Derived.Test.YtchcpeenpijekaaSrtA
import Derived.Test.YtchcpeenpijekaaLen
import Derived.Test.YtchcpeenpijekaaXor
namespace Go.Proofs.Ytchcpeenpijekaa
open Go.RowKit
set_option linter.unusedVariables false

set_option maxRecDepth 100000 in
set_option maxHeartbeats 2000000 in
theorem reverse_any (g B n c a b : Nat) (l : List Int) (w : World) (h : Own w B (some ⟨g, 0, none⟩) n c l) (hab : a < b) (hbn : b ≤ n) (hn : n ≤ 1000000) :
    Calls Try.prog 92 #[.slice (some ⟨g, 0, none⟩) n c, .int .i64 (a : Int), .int .i64 (b : Int)] w fun e w' => e = .returned (.tuple #[]) ∧ ∃ l', Srt w w' B g n c a b l l' := by
  have HR := hide (Srt.refl h a b)
  have e0 : IntKind.i64.wrap ((b : Int) - 1) = ((b - 1 : Nat) : Int) := by rw [IntWalk.i64_in _ (by omega)]; omega
  obtain ⟨m, hm⟩ : ∃ m, b - 1 = m := ⟨_, rfl⟩
  rw [hm] at e0
  have hmb : m < b := by omega
  clear h hm
  go_enter Try.func92, Try.ntmps92
  go_wp2_with fail
  clear e0
  go_loopw [6, 7] (fun vi vj wr => ∃ (i j : Nat) (l1 : List Int), vi = .int .i64 i ∧ vj = .int .i64 j ∧ a ≤ i ∧ j < b ∧ Hid (Srt w wr B g n c a b l l1)) (fun vi vj _ => (intOf vj - intOf vi).toNat)
  case atStart => exact ⟨a, m, l, rfl, rfl, Nat.le_refl _, hmb, HR.out⟩
  case round =>
    obtain ⟨i, j, l1, rfl, rfl, hi, hj, HL⟩ := hrel
    by_cases hlt : i < j
    · obtain ⟨ci, fi⟩ := HL.out.own.at_ (j := i) (by omega)
      obtain ⟨cj, fj⟩ := HL.out.own.at_ (j := j) (by omega)
      have HX := hide (HL.out.swap (i := i) (j := j) hi (by omega) (by omega) hj hbn)
      obtain ⟨p, hp⟩ : ∃ p, j - 1 = p := ⟨_, rfl⟩
      have e1 : IntKind.i64.wrap ((j : Int) - 1) = (p : Int) := by rw [IntWalk.i64_in _ (by omega)]; omega
      have p0 : (0 : Int) ≤ (j : Int) := by omega
      have p1 : (j : Int) < (n : Int) := by omega
      have p2 : (0 : Int) ≤ (i : Int) := by omega
      have p3 : (i : Int) < (n : Int) := by omega
      have p4 : (i : Int) < (j : Int) := by omega
      have hij : i ≠ j := by omega
      have hpj : p + 1 = j := by omega
      have HP := hide hpj
      clear hp hpj
      go_wp2_with fail
      go_region
      go_wp2_with fail
      clear e1
      go_roundw
      case rel => exact ⟨i + 1, p, _, by go_num, rfl, by omega, by have := HP.out; omega, HX.out⟩
      case measure => have := HP.out; simp [intOf]; omega
    · have d1 : ¬ ((i : Int) < (j : Int)) := by omega
      go_wp2_with fail
      go_end0
      exact ⟨rfl, l1, HL.out⟩

theorem Box.ne_own32 {w : World} {t B n c : Nat} {tt : TypeId} {cs : Array Value} {A : Option Addr} {l : List Int} (h : Box w t tt cs) (k : Own w B A n c l) (ht : tt ≠ 21) : blk A ≠ some t := fun e => by
  rcases k.row.2 with ⟨h1, _⟩ | ⟨g, cap, cur, h1, _, hg, _⟩
  · injection h1 with h1
    subst h1
    cases e
  · injection h1 with h1
    subst h1
    injection e with e
    have e' : g = t := e
    subst e'
    unfold Box at h
    rw [h] at hg
    injection hg with hg
    injection hg with _ h2
    exact ht h2
/-- The row, and a counter's own block beside it. -/
structure PvSt (w w' : World) (B g n c s : Nat) (l : List Int) : Prop where
  own : Own w' B (some ⟨g, 0, none⟩) n c l
  box : ∃ k : Int, Box w' s 3 #[.int .i64 k]
  grown : w.grownBy w' (some s)
theorem PvSt.drewN {w w' : World} {B g n c s : Nat} {l : List Int} (h : PvSt w w' B g n c s l) (q : Nat) : PvSt w (w'.drewN q) B g n c s l := ⟨h.own.drewN q, h.box, grown_drewN h.grown q⟩
theorem PvSt.set {w w' : World} {B g n c s : Nat} {l : List Int} (h : PvSt w w' B g n c s l) (k : Int) : PvSt w (w'.setCell ⟨s, 0, none⟩ (.int .i64 k)) B g n c s l := by
  obtain ⟨k0, hb⟩ := h.box
  have hne := hb.ne_own32 h.own (by decide)
  exact ⟨h.own.far (p := ⟨s, 0, none⟩) hne _, ⟨k, hb.set 0 _⟩, grown_set h.grown 0 _⟩
theorem PvSt.trans {w w1 w2 : World} {B g n c s : Nat} {l : List Int} (h : PvSt w w1 B g n c s l) (k : PvSt w1 w2 B g n c s l) : PvSt w w2 B g n c s l := ⟨k.own, k.box, h.grown.trans k.grown⟩
/-- What order2 answers: its two places, in some order. -/
def Ord2 (w : World) (B g n c s : Nat) (l : List Int) (a b : Nat) (e : Ending) (w' : World) : Prop := ∃ x y : Nat, ((x = a ∧ y = b) ∨ (x = b ∧ y = a)) ∧ e = .returned (.tuple #[.int .i64 (x : Int), .int .i64 (y : Int)]) ∧ PvSt w w' B g n c s l

set_option maxRecDepth 100000 in
set_option maxHeartbeats 2000000 in
theorem order2_any (g B n c s a b : Nat) (l : List Int) (w : World) (h : PvSt w w B g n c s l) (ha : a < n) (hb : b < n) (hn : n ≤ 1000000) :
    Calls Try.prog 106 #[.slice (some ⟨g, 0, none⟩) n c, .int .i64 (a : Int), .int .i64 (b : Int), .pointer (some ⟨s, 0, none⟩)] w (Ord2 w B g n c s l a b) := by
  obtain ⟨k, hbx⟩ := h.box
  obtain ⟨ca, -⟩ := h.own.at_ (j := a) ha
  obtain ⟨cb, -⟩ := h.own.at_ (j := b) hb
  have HH := hide h
  obtain ⟨ck, fk⟩ := hbx.c1
  have p0 : (0 : Int) ≤ (a : Int) := by omega
  have p1 : (a : Int) < (n : Int) := by omega
  have p2 : (0 : Int) ≤ (b : Int) := by omega
  have p3 : (b : Int) < (n : Int) := by omega
  obtain ⟨x, hx⟩ : ∃ x, nth l a = x := ⟨_, rfl⟩
  obtain ⟨y, hy⟩ : ∃ y, nth l b = y := ⟨_, rfl⟩
  rw [hx] at ca
  rw [hy] at cb
  clear h hbx hx hy
  cases hlt2 : ltB y x
  · have HLT := hide hlt2
    clear hlt2
    go_enter Try.func106, Try.ntmps106
    go_wp2_with fail
    go_quiet ((go_at_call 94; exact Calls.quiet_of_same ((less_no y x _ (by have := ltB_no HLT.out; omega)).mono fun e w' h => ⟨h.1, h.2.symm⟩)))
    have HL3 := hide (HH.out.drewN nq)
    go_wp2_with fail
    go_ret2
    exact ⟨a, b, .inl ⟨rfl, rfl⟩, rfl, HL3.out⟩
  · have HLT := hide hlt2
    clear hlt2
    go_enter Try.func106, Try.ntmps106
    go_wp2_with fail
    go_quiet ((go_at_call 94; exact Calls.quiet_of_same ((less_yes y x _ (ltB_yes HLT.out)).mono fun e w' h => ⟨h.1, h.2.symm⟩)))
    obtain ⟨k2, hk2⟩ : ∃ k2, IntKind.i64.wrap (k + 1) = k2 := ⟨_, rfl⟩
    have HL3 := hide ((HH.out.drewN nq).set k2)
    have ck2 : (w.drewN nq).cell? ⟨s, 0, none⟩ = some (.int .i64 k) := ck
    have fk2 : (w.drewN nq).frozen? ⟨s, 0, none⟩ = false := fk
    generalize w.drewN nq = wq at HL3 ck2 fk2 ⊢
    clear ck fk ca cb
    go_wp2_with fail
    go_ret2
    exact ⟨b, a, .inr ⟨rfl, rfl⟩, rfl, HL3.out⟩
end Go.Proofs.Ytchcpeenpijekaa
