/- Pieces, joined: SrtB, SrtC, SrtD. -/
import Derived.Test.YtchcpeenpijekaaQ12
import Derived.Sort.Walk7

/- Go's sort of runes, walked: reverseRangeOrdered, order2Ordered, medianOrdered, medianAdjacentOrdered, choosePivotOrdered. -/
namespace Go.Proofs.Ytchcpeenpijekaa
open Go.RowKit
set_option linter.unusedVariables false

set_option maxRecDepth 100000 in
set_option maxHeartbeats 2000000 in
theorem reverse_any (g B n c a b : Nat) (l : List Int) (w : World) (h : Own w B (some ⟨g, 0, none⟩) n c l) (hab : a < b) (hbn : b ≤ n) (hn : n ≤ 1000000) :
    Calls Try.prog 92 #[.slice (some ⟨g, 0, none⟩) n c, .int .i64 (a : Int), .int .i64 (b : Int)] w fun e w' => e = .returned (.tuple #[]) ∧ ∃ l', Srt w w' B g n c a b l l' := by
  have HR := hide (Srt.refl h a b)
  have e0 : IntKind.i64.wrap ((b : Int) - 1) = ((b - 1 : Nat) : Int) := by rw [IntWalk.i64_in _ (by omega)]; omega
  obtain ⟨m, hm⟩ : ∃ m, b - 1 = m := ⟨_, rfl⟩
  rw [hm] at e0
  have hmb : m < b := by omega
  clear h hm
  go_enter Try.func92, Try.ntmps92
  go_wp2_with fail
  clear e0
  go_loopw [6, 7] (fun vi vj wr => ∃ (i j : Nat) (l1 : List Int), vi = .int .i64 i ∧ vj = .int .i64 j ∧ a ≤ i ∧ j < b ∧ Hid (Srt w wr B g n c a b l l1)) (fun vi vj _ => (intOf vj - intOf vi).toNat)
  case atStart => exact ⟨a, m, l, rfl, rfl, Nat.le_refl _, hmb, HR.out⟩
  case round =>
    obtain ⟨i, j, l1, rfl, rfl, hi, hj, HL⟩ := hrel
    by_cases hlt : i < j
    · obtain ⟨ci, fi⟩ := HL.out.own.at_ (j := i) (by omega)
      obtain ⟨cj, fj⟩ := HL.out.own.at_ (j := j) (by omega)
      have HX := hide (HL.out.swap (i := i) (j := j) hi (by omega) (by omega) hj hbn)
      obtain ⟨p, hp⟩ : ∃ p, j - 1 = p := ⟨_, rfl⟩
      have e1 : IntKind.i64.wrap ((j : Int) - 1) = (p : Int) := by rw [IntWalk.i64_in _ (by omega)]; omega
      have p0 : (0 : Int) ≤ (j : Int) := by omega
      have p1 : (j : Int) < (n : Int) := by omega
      have p2 : (0 : Int) ≤ (i : Int) := by omega
      have p3 : (i : Int) < (n : Int) := by omega
      have p4 : (i : Int) < (j : Int) := by omega
      have hij : i ≠ j := by omega
      have hpj : p + 1 = j := by omega
      have HP := hide hpj
      clear hp hpj
      go_wp2_with fail
      go_region
      go_wp2_with fail
      clear e1
      go_roundw
      case rel => exact ⟨i + 1, p, _, by go_num, rfl, by omega, by have := HP.out; omega, HX.out⟩
      case measure => have := HP.out; simp [intOf]; omega
    · have d1 : ¬ ((i : Int) < (j : Int)) := by omega
      go_wp2_with fail
      go_end0
      exact ⟨rfl, l1, HL.out⟩

theorem Box.ne_own32 {w : World} {t B n c : Nat} {tt : TypeId} {cs : Array Value} {A : Option Addr} {l : List Int} (h : Box w t tt cs) (k : Own w B A n c l) (ht : tt ≠ 21) : blk A ≠ some t := fun e => by
  rcases k.row.2 with ⟨h1, _⟩ | ⟨g, cap, cur, h1, _, hg, _⟩
  · injection h1 with h1
    subst h1
    cases e
  · injection h1 with h1
    subst h1
    injection e with e
    have e' : g = t := e
    subst e'
    unfold Box at h
    rw [h] at hg
    injection hg with hg
    injection hg with _ h2
    exact ht h2
/-- The row, and a counter's own block beside it. -/
structure PvSt (w w' : World) (B g n c s : Nat) (l : List Int) : Prop where
  own : Own w' B (some ⟨g, 0, none⟩) n c l
  box : ∃ k : Int, Box w' s 3 #[.int .i64 k]
  grown : w.grownBy w' (some s)
theorem PvSt.drewN {w w' : World} {B g n c s : Nat} {l : List Int} (h : PvSt w w' B g n c s l) (q : Nat) : PvSt w (w'.drewN q) B g n c s l := ⟨h.own.drewN q, h.box, grown_drewN h.grown q⟩
theorem PvSt.set {w w' : World} {B g n c s : Nat} {l : List Int} (h : PvSt w w' B g n c s l) (k : Int) : PvSt w (w'.setCell ⟨s, 0, none⟩ (.int .i64 k)) B g n c s l := by
  obtain ⟨k0, hb⟩ := h.box
  have hne := hb.ne_own32 h.own (by decide)
  exact ⟨h.own.far (p := ⟨s, 0, none⟩) hne _, ⟨k, hb.set 0 _⟩, grown_set h.grown 0 _⟩
theorem PvSt.trans {w w1 w2 : World} {B g n c s : Nat} {l : List Int} (h : PvSt w w1 B g n c s l) (k : PvSt w1 w2 B g n c s l) : PvSt w w2 B g n c s l := ⟨k.own, k.box, h.grown.trans k.grown⟩
/-- What order2 answers: its two places, in some order. -/
def Ord2 (w : World) (B g n c s : Nat) (l : List Int) (a b : Nat) (e : Ending) (w' : World) : Prop := ∃ x y : Nat, ((x = a ∧ y = b) ∨ (x = b ∧ y = a)) ∧ e = .returned (.tuple #[.int .i64 (x : Int), .int .i64 (y : Int)]) ∧ PvSt w w' B g n c s l

set_option maxRecDepth 100000 in
set_option maxHeartbeats 2000000 in
theorem order2_any (g B n c s a b : Nat) (l : List Int) (w : World) (h : PvSt w w B g n c s l) (ha : a < n) (hb : b < n) (hn : n ≤ 1000000) :
    Calls Try.prog 106 #[.slice (some ⟨g, 0, none⟩) n c, .int .i64 (a : Int), .int .i64 (b : Int), .pointer (some ⟨s, 0, none⟩)] w (Ord2 w B g n c s l a b) := by
  obtain ⟨k, hbx⟩ := h.box
  obtain ⟨ca, -⟩ := h.own.at_ (j := a) ha
  obtain ⟨cb, -⟩ := h.own.at_ (j := b) hb
  have HH := hide h
  obtain ⟨ck, fk⟩ := hbx.c1
  have p0 : (0 : Int) ≤ (a : Int) := by omega
  have p1 : (a : Int) < (n : Int) := by omega
  have p2 : (0 : Int) ≤ (b : Int) := by omega
  have p3 : (b : Int) < (n : Int) := by omega
  obtain ⟨x, hx⟩ : ∃ x, nth l a = x := ⟨_, rfl⟩
  obtain ⟨y, hy⟩ : ∃ y, nth l b = y := ⟨_, rfl⟩
  rw [hx] at ca
  rw [hy] at cb
  clear h hbx hx hy
  cases hlt2 : ltB y x
  · have HLT := hide hlt2
    clear hlt2
    go_enter Try.func106, Try.ntmps106
    go_wp2_with fail
    go_quiet ((go_at_call 94; exact Calls.quiet_of_same ((less_no y x _ (by have := ltB_no HLT.out; omega)).mono fun e w' h => ⟨h.1, h.2.symm⟩)))
    have HL3 := hide (HH.out.drewN nq)
    go_wp2_with fail
    go_ret2
    exact ⟨a, b, .inl ⟨rfl, rfl⟩, rfl, HL3.out⟩
  · have HLT := hide hlt2
    clear hlt2
    go_enter Try.func106, Try.ntmps106
    go_wp2_with fail
    go_quiet ((go_at_call 94; exact Calls.quiet_of_same ((less_yes y x _ (ltB_yes HLT.out)).mono fun e w' h => ⟨h.1, h.2.symm⟩)))
    obtain ⟨k2, hk2⟩ : ∃ k2, IntKind.i64.wrap (k + 1) = k2 := ⟨_, rfl⟩
    have HL3 := hide ((HH.out.drewN nq).set k2)
    have ck2 : (w.drewN nq).cell? ⟨s, 0, none⟩ = some (.int .i64 k) := ck
    have fk2 : (w.drewN nq).frozen? ⟨s, 0, none⟩ = false := fk
    generalize w.drewN nq = wq at HL3 ck2 fk2 ⊢
    clear ck fk ca cb
    go_wp2_with fail
    go_ret2
    exact ⟨b, a, .inr ⟨rfl, rfl⟩, rfl, HL3.out⟩
end Go.Proofs.Ytchcpeenpijekaa

/- Go's sort of runes, walked: medianOrdered, medianAdjacentOrdered, choosePivotOrdered, breakPatternsOrdered. -/
namespace Go.Proofs.Ytchcpeenpijekaa
open Go.RowKit
set_option linter.unusedVariables false

/-- What a median answers: one of its places. -/
def Med (w : World) (B g n c s : Nat) (l : List Int) (p : Nat → Prop) (e : Ending) (w' : World) : Prop := ∃ x : Nat, p x ∧ e = .returned (.int .i64 (x : Int)) ∧ PvSt w w' B g n c s l

set_option maxHeartbeats 1000000 in
theorem median_any (g B n c s x y z : Nat) (l : List Int) (w : World) (h : PvSt w w B g n c s l) (hx : x < n) (hy : y < n) (hz : z < n) (hn : n ≤ 1000000) :
    Calls Try.prog 104 #[.slice (some ⟨g, 0, none⟩) n c, .int .i64 (x : Int), .int .i64 (y : Int), .int .i64 (z : Int), .pointer (some ⟨s, 0, none⟩)] w (Med w B g n c s l fun q => q = x ∨ q = y ∨ q = z) := by
  have HH := hide h
  have H2 := hide (fun (W : World) (a b : Nat) (hW : PvSt W W B g n c s l) (ha : a < n) (hb : b < n) => order2_any g B n c s a b l W hW ha hb hn)
  clear h
  go_enter Try.func104, Try.ntmps104
  go_wp2_with fail
  refine (H2.out _ _ _ HH.out hx hy).mono ?_
  rintro e w1 ⟨x1, y1, h1, rfl, hp1⟩
  have HP1 := hide hp1
  have q1 : x1 < n ∧ y1 < n := by omega
  clear hp1
  go_wp2_with fail
  refine (H2.out w1 y1 z ⟨HP1.out.own, HP1.out.box, World.grownBy.refl w1 _⟩ q1.2 hz).mono ?_
  rintro e w2 ⟨x2, y2, h2, rfl, hp2⟩
  have HP2 := hide (HP1.out.trans hp2)
  have q2 : x2 < n ∧ y2 < n := by omega
  clear hp2 HP1
  go_wp2_with fail
  refine (H2.out w2 x1 x2 ⟨HP2.out.own, HP2.out.box, World.grownBy.refl w2 _⟩ q1.1 q2.1).mono ?_
  rintro e w3 ⟨x3, y3, h3, rfl, hp3⟩
  have HP3 := hide (HP2.out.trans hp3)
  clear hp3 HP2
  go_wp2_with fail
  go_ret
  exact ⟨y3, by omega, rfl, HP3.out⟩

set_option maxHeartbeats 1000000 in
theorem medianAdj_any (g B n c s x : Nat) (l : List Int) (w : World) (h : PvSt w w B g n c s l) (h0 : 0 < x) (hx : x + 1 < n) (hn : n ≤ 1000000) :
    Calls Try.prog 103 #[.slice (some ⟨g, 0, none⟩) n c, .int .i64 (x : Int), .pointer (some ⟨s, 0, none⟩)] w (Med w B g n c s l fun q => x - 1 ≤ q ∧ q ≤ x + 1) := by
  have HH := hide h
  have e1 : IntKind.i64.wrap ((x : Int) - 1) = ((x - 1 : Nat) : Int) := by rw [IntWalk.i64_in _ (by omega)]; omega
  have e2 : IntKind.i64.wrap ((x : Int) + 1) = ((x + 1 : Nat) : Int) := by rw [IntWalk.i64_in _ (by omega)]; omega
  obtain ⟨a, ha⟩ : ∃ a, x - 1 = a := ⟨_, rfl⟩
  obtain ⟨b, hb⟩ : ∃ b, x + 1 = b := ⟨_, rfl⟩
  rw [ha] at e1
  rw [hb] at e2
  have hab : a < n ∧ b < n ∧ x < n := by omega
  have HAB := hide (And.intro ha hb)
  have H2 := hide (median_any g B n c s a x b l w h hab.1 hab.2.2 hab.2.1 hn)
  clear h ha hb
  go_enter Try.func103, Try.ntmps103
  go_wp2_with fail
  refine H2.out.mono ?_
  rintro e w1 ⟨q, hq, rfl, hp⟩
  have HP := hide hp
  clear hp e1 e2
  go_wp2_with fail
  go_ret
  exact ⟨q, by have := HAB.out; omega, rfl, HP.out⟩

/-- What choosePivot answers: a place from a on ahead of b, a hint. -/
def Pivot (w : World) (B g n c a b : Nat) (l : List Int) (e : Ending) (w' : World) : Prop := ∃ (p : Nat) (k : Int), a ≤ p ∧ p < b ∧ (k = 0 ∨ k = 1 ∨ k = 2) ∧ e = .returned (.tuple #[.int .i64 (p : Int), .int .i64 k]) ∧ Own w' B (some ⟨g, 0, none⟩) n c l ∧ Below w.heap.size w w'
theorem PvSt.below {w W w' : World} {B g n c : Nat} {l : List Int} (h : PvSt W w' B g n c w.heap.size l) (hb : Below w.heap.size w W) : Below w.heap.size w w' := hb.grown h.grown hb.size fun k e => by cases e; exact Nat.le_refl _

set_option maxRecDepth 100000 in
set_option maxHeartbeats 4000000 in
theorem choosePivot_any (g B n c a b : Nat) (l : List Int) (w : World) (h : Own w B (some ⟨g, 0, none⟩) n c l) (hab : a + 8 ≤ b) (hbn : b ≤ n) (hn : n ≤ 1000000) :
    Calls Try.prog 91 #[.slice (some ⟨g, 0, none⟩) n c, .int .i64 (a : Int), .int .i64 (b : Int)] w (Pivot w B g n c a b l) := by
  obtain ⟨L, hL⟩ : ∃ L, b = a + L := ⟨b - a, by omega⟩
  have HL := hide hL
  have e0 : IntKind.i64.wrap ((b : Int) - (a : Int)) = (L : Int) := by rw [IntWalk.i64_in _ (by omega)]; omega
  obtain ⟨f, hf⟩ : ∃ f, L / 4 = f := ⟨_, rfl⟩
  have e1 : (L : Int) / 4 = (f : Int) := by omega
  have hL8 : 8 ≤ L := by omega
  have hLn : a + L ≤ n := by omega
  have hf2 : 4 * f ≤ L ∧ L < 4 * f + 4 := by omega
  have HF := hide hf2
  have hW0 : PvSt (w.alloc (.cells #[.int .i64 0] 3)) (w.alloc (.cells #[.int .i64 0] 3)) B g n c w.heap.size l := ⟨h.alloc _, ⟨0, Box.new w _ _⟩, World.grownBy.refl _ _⟩
  have HW0 := hide hW0
  have HB0 := hide ((Below.refl w.heap.size w).alloc (Nat.le_refl _) (.cells #[.int .i64 0] 3))
  have hfn : f ≤ 250000 := by omega
  have hg8 : decide ((8 : Int) ≤ (L : Int)) = true := by simp; omega
  clear h hL hf hab hbn hW0
  have HM := hide (fun (W : World) (x y z : Nat) (X Y Z : Int) (hX : X = x) (hY : Y = y) (hZ : Z = z) (hW : PvSt W W B g n c w.heap.size l) (hx : x < n) (hy : y < n) (hz : z < n) => show Calls Try.prog 104 #[.slice (some ⟨g, 0, none⟩) n c, .int .i64 X, .int .i64 Y, .int .i64 Z, .pointer (some ⟨w.heap.size, 0, none⟩)] W _ from by
    subst hX hY hZ
    exact median_any g B n c w.heap.size x y z l W hW hx hy hz hn)
  have HA := hide (fun (W : World) (x : Nat) (X : Int) (hX : X = x) (hW : PvSt W W B g n c w.heap.size l) (h0 : 0 < x) (hx : x + 1 < n) => show Calls Try.prog 103 #[.slice (some ⟨g, 0, none⟩) n c, .int .i64 X, .pointer (some ⟨w.heap.size, 0, none⟩)] W _ from by
    subst hX
    exact medianAdj_any g B n c w.heap.size x l W hW h0 hx hn)
  go_enter Try.func91, Try.ntmps91
  go_upto_if 32 with fail
  go_cut [11] (fun s11 wx => ∃ q : Nat, a ≤ q ∧ q < b ∧ s11 = .int .i64 (q : Int) ∧ PvSt (w.alloc (.cells #[.int .i64 0] 3)) wx B g n c w.heap.size l)
  case first =>
    by_cases h50 : 50 ≤ L
    · have hg50 : decide ((50 : Int) ≤ (L : Int)) = true := by simp; omega
      have hf12 : 12 ≤ f := by omega
      go_wp2_with fail
      refine (HA.out _ (a + f) _ (by omega) HW0.out (by omega) (by omega)).mono ?_
      rintro e w1 ⟨i1, hi1, rfl, hp⟩
      have HP1 := hide hp
      clear hp
      go_wp2_with fail
      refine (HA.out _ (a + f * 2) _ (by omega) ⟨HP1.out.own, HP1.out.box, World.grownBy.refl _ _⟩ (by omega) (by omega)).mono ?_
      rintro e w2 ⟨i2, hi2, rfl, hp⟩
      have HP2 := hide (HP1.out.trans hp)
      clear hp HP1
      go_wp2_with fail
      refine (HA.out _ (a + f * 3) _ (by omega) ⟨HP2.out.own, HP2.out.box, World.grownBy.refl _ _⟩ (by omega) (by omega)).mono ?_
      rintro e w3 ⟨i3, hi3, rfl, hp⟩
      have HP3 := hide (HP2.out.trans hp)
      clear hp HP2
      go_wp2_with fail
      refine (HM.out _ i1 i2 i3 _ _ _ rfl rfl rfl ⟨HP3.out.own, HP3.out.box, World.grownBy.refl _ _⟩ (by omega) (by omega) (by omega)).mono ?_
      rintro e w4 ⟨q, hq, rfl, hp⟩
      have HP4 := hide (HP3.out.trans hp)
      have hLL := HL.out
      have hqq : a ≤ q ∧ q < b := by omega
      clear hp HP3 hLL
      go_wp2_with fail
      go_meet
      exact ⟨q, hqq.1, hqq.2, rfl, HP4.out⟩
    · have hg50 : decide ((50 : Int) ≤ (L : Int)) = false := by simp; omega
      go_wp2_with fail
      refine (HM.out _ (a + f) (a + f * 2) (a + f * 3) _ _ _ (by omega) (by omega) (by omega) HW0.out (by omega) (by omega) (by omega)).mono ?_
      rintro e w4 ⟨q, hq, rfl, hp⟩
      have HP4 := hide hp
      have hLL := HL.out
      have hqq : a ≤ q ∧ q < b := by omega
      clear hp hLL
      go_wp2_with fail
      go_meet
      exact ⟨q, hqq.1, hqq.2, rfl, HP4.out⟩
  case rest =>
    obtain ⟨q, hq1, hq2, rfl, hp⟩ := hcut
    obtain ⟨k, hk⟩ := hp.box
    obtain ⟨ck, fk⟩ := hk.c1
    have HP := hide hp
    clear hp hk HM HA HW0
    by_cases k0 : k = 0
    · have d0 : (k == 0) = true := by simp [k0]
      clear k0
      go_wp2_with fail
      go_ret2
      exact ⟨q, 1, hq1, hq2, by omega, rfl, HP.out.own, HP.out.below HB0.out⟩
    · have d0 : (k == 0) = false := by simp [k0]
      clear k0
      by_cases k12 : k = 12
      · have d12 : (k == 12) = true := by simp [k12]
        clear k12
        go_wp2_with fail
        go_ret2
        exact ⟨q, 2, hq1, hq2, by omega, rfl, HP.out.own, HP.out.below HB0.out⟩
      · have d12 : (k == 12) = false := by simp [k12]
        clear k12
        go_wp2_with fail
        go_ret2
        exact ⟨q, 0, hq1, hq2, by omega, rfl, HP.out.own, HP.out.below HB0.out⟩
end Go.Proofs.Ytchcpeenpijekaa

/- Go's sort of runes, walked: breakPatternsOrdered. -/
namespace Go.Proofs.Ytchcpeenpijekaa
open Go.RowKit
set_option linter.unusedVariables false

theorem grown_new {w w' : World} {row : Option Nat} (h : w.grownBy w' row) {s : Nat} (hs : w.heap.size ≤ s) (i : Nat) (v : Value) : w.grownBy (w'.setCell ⟨s, i, none⟩ v) row :=
  ⟨h.os, h.tape, h.output, by simpa [World.setCell] using h.size, fun k hk hne => (Below.heap_setCell w' ⟨s, i, none⟩ v k (by show k ≠ s; omega)).trans (h.block k hk hne)⟩
theorem and_le (x m : Nat) (hm : m < 18446744073709551616) : 0 ≤ bits .and .u64 (x : Int) (m : Int) ∧ bits .and .u64 (x : Int) (m : Int) ≤ (m : Int) := by
  have h : bits .and .u64 (x : Int) (m : Int) = IntKind.u64.wrap ((BitVec.ofInt 64 (x : Int) &&& BitVec.ofInt 64 (m : Int)).toNat : Int) := rfl
  have hb : (BitVec.ofInt 64 (x : Int) &&& BitVec.ofInt 64 (m : Int)).toNat ≤ m := by
    rw [BitVec.toNat_and]
    refine Nat.le_trans Nat.and_le_right ?_
    rw [BitVec.toNat_ofInt]
    omega
  rw [h, IntKind.wrap_u64]
  omega
/-- Between two swaps. -/
structure Brk (w wr : World) (B g n c a b s : Nat) (l : List Int) : Prop where
  srt : ∃ l1, Srt w wr B g n c a b l l1
  box : ∃ X : Nat, X < 18446744073709551616 ∧ Box wr s 121 #[.int .u64 (X : Int)]
theorem Brk.next {w wr : World} {B g n c a b s : Nat} {l : List Int} (h : Brk w wr B g n c a b s l) (hs : w.heap.size ≤ s) (hg : g < w.heap.size) (X : Nat) (hX : X < 18446744073709551616) (q : Nat) : Brk w ((wr.setCell ⟨s, 0, none⟩ (.int .u64 (X : Int))).drewN q) B g n c a b s l := by
  obtain ⟨l1, h1⟩ := h.srt
  obtain ⟨Y, hY, h2⟩ := h.box
  refine ⟨⟨l1, (h1.own.far (p := ⟨s, 0, none⟩) (fun e => ?_) _).drewN q, grown_drewN (grown_new h1.grown hs 0 _) q, h1.pm⟩, X, hX, h2.set 0 _⟩
  injection e with e
  have e' : g = s := e
  omega

theorem box_swap {w W : World} {g : Nat} (h : ∃ X : Nat, X < 18446744073709551616 ∧ Box W w.heap.size 121 #[.int .u64 (X : Int)]) (hg : g < w.heap.size) (i j : Nat) (u v : Value) :
    ∃ X : Nat, X < 18446744073709551616 ∧ Box ((W.setCell ⟨g, i, none⟩ u).setCell ⟨g, j, none⟩ v).drew w.heap.size 121 #[.int .u64 (X : Int)] := by
  obtain ⟨X, hX, h⟩ := h
  exact ⟨X, hX, ((h.far (p := ⟨g, i, none⟩) (show w.heap.size ≠ g by omega) u).far (p := ⟨g, j, none⟩) (show w.heap.size ≠ g by omega) v).drew⟩
theorem Srt.swap0 {w w1 : World} {B g n c a b : Nat} {l l1 : List Int} (h : Srt w w1 B g n c a b l l1) {i j : Nat} (hi : a ≤ i) (hi2 : i < b) (hj : a ≤ j) (hj2 : j < b) (hb : b ≤ n) (q : Nat) :
    Srt w (((w1.drewN q).setCell ⟨g, i, none⟩ (.int .i32 (nth l1 j))).setCell ⟨g, j, none⟩ (.int .i32 (nth l1 i))) B g n c a b l (swapL l1 i j) :=
  ⟨((h.own.drewN q).swap (by omega) (by omega)), grown_set (grown_set (grown_drewN h.grown q) i (.int .i32 (nth l1 j))) j (.int .i32 (nth l1 i)), h.pm.trans (Pm.swap hi hi2 hj hj2 (by rw [h.own.len]; exact hb))⟩

set_option maxRecDepth 100000 in
set_option maxHeartbeats 4000000 in
theorem break_any (g B n c a b : Nat) (l : List Int) (w : World) (h : Own w B (some ⟨g, 0, none⟩) n c l) (hab : a + 8 ≤ b) (hbn : b ≤ n) (hn : n ≤ 1000000) :
    Calls Try.prog 90 #[.slice (some ⟨g, 0, none⟩) n c, .int .i64 (a : Int), .int .i64 (b : Int)] w fun e w' => e = .returned (.tuple #[]) ∧ ∃ l', Srt w w' B g n c a b l l' := by
  obtain ⟨L, hL⟩ : ∃ L, b = a + L := ⟨b - a, by omega⟩
  have HL := hide hL
  have hgw := (h.blk_ge g rfl).2
  have e0 : IntKind.i64.wrap ((b : Int) - (a : Int)) = (L : Int) := by rw [IntWalk.i64_in _ (by omega)]; omega
  obtain ⟨M, hM⟩ : ∃ M : Nat, M = 1 <<< Go.Sort.bitsLen L := ⟨_, rfl⟩
  have hM1 : 1 ≤ M := by rw [hM, Nat.one_shiftLeft]; exact Nat.two_pow_pos _
  have hM2 : M ≤ 2 * L := by rw [hM, Nat.one_shiftLeft]; exact Go.Sort.two_pow_bitsLen_le (by omega)
  have HNP := hide (fun W => nextPow_any L (by omega) W)
  rw [← hM] at HNP
  obtain ⟨f, hf⟩ : ∃ f, L / 4 = f := ⟨_, rfl⟩
  have e1 : (L : Int) / 4 = (f : Int) := by omega
  have hf2 : 4 * f ≤ L ∧ L < 4 * f + 4 := by omega
  have hL8 : 8 ≤ L := by omega
  have hLn : a + L ≤ n := by omega
  have hfn : f ≤ 250000 := by omega
  have hg8 : decide ((8 : Int) ≤ (L : Int)) = true := by simp; omega
  have HB0 := hide (show Brk w (w.alloc (.cells #[.int .u64 (L : Int)] 121)) B g n c a b w.heap.size l from
    ⟨⟨l, h.alloc _, (World.grownBy_alloc w _ _), Pm.refl _ _ _⟩, L, by omega, Box.new w _ _⟩)
  have hu : IntKind.u64.wrap (L : Int) = (L : Int) := by simp [IntKind.wrap_u64]; omega
  clear h hL hM hf hab hbn
  go_enter Try.func90, Try.ntmps90
  go_wp2_with (go_at_call 101; refine (HNP.out _).mono ?_; rintro e w1 ⟨rfl, rfl⟩)
  go_loopw [9] (fun vi wr => ∃ (t : Nat), vi = .int .i64 ((a + f * 2 - 1 + t : Nat) : Int) ∧ t ≤ 3 ∧ Hid (Brk w wr B g n c a b w.heap.size l)) (fun vi _ => a + f * 2 + 3 - (intOf vi).toNat)
  case atStart => exact ⟨0, by congr 1; omega, by omega, HB0.out⟩
  case round =>
    obtain ⟨t, rfl, ht, HB⟩ := hrel
    obtain ⟨i, hi⟩ : ∃ i, a + f * 2 - 1 + t = i := ⟨_, rfl⟩
    rw [hi]
    have hi2 : i + 1 = a + f * 2 + t := by omega
    by_cases ht3 : t ≤ 2
    · obtain ⟨X, hX, h2⟩ := HB.out.box
      obtain ⟨Y, hY⟩ : ∃ Y : Nat, Y = Go.Sort.xorNextN X := ⟨_, rfl⟩
      have lY : Y < 18446744073709551616 := by rw [hY]; exact Go.Sort.xorNextN_lt X hX
      have HNX := hide (show Calls Try.prog 102 #[.pointer (some ⟨w.heap.size, 0, none⟩)] wr fun e w' => e = .returned (.int .u64 (Y : Int)) ∧ w' = (wr.setCell ⟨w.heap.size, 0, none⟩ (.int .u64 (Y : Int))).drewN 3 from by rw [hY]; exact xorNext_any _ 0 X hX wr (h2.c1).1 (h2.c1).2)
      have HB2 := hide (HB.out.next (Nat.le_refl _) hgw Y lY 3)
      obtain ⟨m, hm⟩ : ∃ m, M - 1 = m := ⟨_, rfl⟩
      have hm1 : IntKind.u64.wrap ((M : Int) - 1) = (m : Int) := by simp [IntKind.wrap_u64]; omega
      obtain ⟨O, hO⟩ : ∃ O : Nat, bits .and .u64 (Y : Int) (m : Int) = (O : Int) ∧ O ≤ m := by
        have := and_le Y m (by omega)
        exact ⟨(bits .and .u64 (Y : Int) (m : Int)).toNat, by omega, by omega⟩
      obtain ⟨hO1, hO2⟩ := hO
      have hO3 : IntKind.i64.wrap (O : Int) = (O : Int) := IntWalk.i64_in _ (by omega)
      have hO4 : O < 2 * L := by omega
      clear h2 hX hY hm HB hO2
      go_wp2_with fail
      refine HNX.out.mono ?_
      rintro e w2 ⟨rfl, rfl⟩
      generalize (wr.setCell ⟨w.heap.size, 0, none⟩ (.int .u64 (Y : Int))).drewN 3 = w2 at HB2 ⊢
      clear HNX
      obtain ⟨l1, h1⟩ := HB2.out.srt
      have HL1 := hide h1
      have HBX := hide HB2.out.box
      clear h1 HB2
      by_cases hLO : L ≤ O
      · obtain ⟨o, ho⟩ : ∃ o, O - L = o := ⟨_, rfl⟩
        have e2 : IntKind.i64.wrap ((O : Int) - (L : Int)) = (o : Int) := by rw [IntWalk.i64_in _ (by omega)]; omega
        obtain ⟨p, hp⟩ : ∃ p, a + o = p := ⟨_, rfl⟩
        have e3 : IntKind.i64.wrap ((a : Int) + (o : Int)) = (p : Int) := by rw [IntWalk.i64_in _ (by omega)]; omega
        have hpn : p < n := by omega
        have hin : i < n := by omega
        have HPI := hide (show a ≤ i ∧ i < b ∧ a ≤ p ∧ p < b from by have := HL.out; omega)
        clear ho hp
        obtain ⟨ci, fi⟩ := HL1.out.own.at_ (j := i) hin
        obtain ⟨cp, fp⟩ := HL1.out.own.at_ (j := p) hpn
        by_cases hip : i = p
        · subst hip
          have HX := hide (HL1.out.swap (i := i) (j := i) HPI.out.1 HPI.out.2.1 HPI.out.1 HPI.out.2.1 (by have := HL.out; omega))
          have HBX3 := hide (box_swap HBX.out hgw i i (.int .i32 (nth l1 i)) (.int .i32 (nth l1 i)))
          go_wp2_with fail
          go_region
          go_wp2_with fail
          go_roundw
          case rel => exact ⟨t + 1, by congr 1; omega, by omega, ⟨_, HX.out⟩, HBX3.out⟩
          case measure => simp [intOf]; omega
        · have HX := hide (HL1.out.swap (i := i) (j := p) HPI.out.1 HPI.out.2.1 HPI.out.2.2.1 HPI.out.2.2.2 (by have := HL.out; omega))
          have HBX3 := hide (box_swap HBX.out hgw i p (.int .i32 (nth l1 p)) (.int .i32 (nth l1 i)))
          go_wp2_with fail
          go_region
          go_wp2_with fail
          go_roundw
          case rel => exact ⟨t + 1, by congr 1; omega, by omega, ⟨_, HX.out⟩, HBX3.out⟩
          case measure => simp [intOf]; omega
      · obtain ⟨p, hp⟩ : ∃ p, a + O = p := ⟨_, rfl⟩
        have hOL : ¬ ((L : Int) ≤ (O : Int)) := by omega
        have e3 : IntKind.i64.wrap ((a : Int) + (O : Int)) = (p : Int) := by rw [IntWalk.i64_in _ (by omega)]; omega
        have hpn : p < n := by omega
        have hin : i < n := by omega
        have HPI := hide (show a ≤ i ∧ i < b ∧ a ≤ p ∧ p < b from by have := HL.out; omega)
        clear hp
        obtain ⟨ci, fi⟩ := HL1.out.own.at_ (j := i) hin
        obtain ⟨cp, fp⟩ := HL1.out.own.at_ (j := p) hpn
        by_cases hip : i = p
        · subst hip
          have HX := hide (HL1.out.swap (i := i) (j := i) HPI.out.1 HPI.out.2.1 HPI.out.1 HPI.out.2.1 (by have := HL.out; omega))
          have HBX3 := hide (box_swap HBX.out hgw i i (.int .i32 (nth l1 i)) (.int .i32 (nth l1 i)))
          go_wp2_with fail
          go_region
          go_wp2_with fail
          go_roundw
          case rel => exact ⟨t + 1, by congr 1; omega, by omega, ⟨_, HX.out⟩, HBX3.out⟩
          case measure => simp [intOf]; omega
        · have HX := hide (HL1.out.swap (i := i) (j := p) HPI.out.1 HPI.out.2.1 HPI.out.2.2.1 HPI.out.2.2.2 (by have := HL.out; omega))
          have HBX3 := hide (box_swap HBX.out hgw i p (.int .i32 (nth l1 p)) (.int .i32 (nth l1 i)))
          go_wp2_with fail
          go_region
          go_wp2_with fail
          go_roundw
          case rel => exact ⟨t + 1, by congr 1; omega, by omega, ⟨_, HX.out⟩, HBX3.out⟩
          case measure => simp [intOf]; omega
    · obtain rfl : t = 3 := by omega
      go_wp2_with fail
      go_end0
      exact ⟨rfl, HB.out.srt⟩
end Go.Proofs.Ytchcpeenpijekaa
