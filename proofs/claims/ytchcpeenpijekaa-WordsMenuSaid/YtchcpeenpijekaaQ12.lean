/- Pieces, joined: SrtP, SrtA, Len, Xor. -/
import Derived.Test.YtchcpeenpijekaaQ03
import Derived.IntWalk
import Derived.RegionTactic
import Derived.ChangeAlike
import Derived.BigRegion
import Derived.Deep.LoopGhost
import Derived.Deep.CutBlock
import Derived.Deep.DeepCutAuto
import Derived.Shelf.Small.Bits
import Derived.Shelf.Strconv.Itoa0
import Derived.Test.YtchcpeenpijekaaProg
import Derived.Shelf.SlGeneric
import Derived.Shelf.SlSortCmp.Xorshift

/- Plain laws of sorting a row of integers in place: permuted from a on ahead of b, ascending there. No program in sight. -/
namespace Go.Proofs.Ytchcpeenpijekaa
open Go.RowKit
set_option linter.unusedVariables false

def swapL (l : List Int) (i j : Nat) : List Int := (l.set i (nth l j)).set j (nth l i)
theorem swapL_len (l : List Int) (i j : Nat) : (swapL l i j).length = l.length := by simp [swapL]
theorem swapL_nth {l : List Int} {i j : Nat} (hi : i < l.length) (hj : j < l.length) (k : Nat) : nth (swapL l i j) k = if k = j then nth l i else if k = i then nth l j else nth l k := by
  unfold swapL
  by_cases h1 : k = j
  · subst h1
    rw [if_pos rfl, nth_set_self (by simpa using hj)]
  · rw [if_neg h1, nth_set_other (fun e => h1 e.symm)]
    by_cases h2 : k = i
    · subst h2
      rw [if_pos rfl, nth_set_self hi]
    · rw [if_neg h2, nth_set_other (fun e => h2 e.symm)]
theorem swapL_perm {l : List Int} {i j : Nat} (hi : i < l.length) (hj : j < l.length) : (swapL l i j).Perm l := by
  unfold swapL
  rw [nth_eq hi, nth_eq hj]
  exact List.set_set_perm hi hj

/-- Permuted from a on ahead of b; all else as it was. -/
structure Pm (a b : Nat) (l l' : List Int) : Prop where
  perm : l'.Perm l
  out : ∀ i, i < a ∨ b ≤ i → nth l' i = nth l i
  in_ : ∀ i, a ≤ i → i < b → ∃ j, a ≤ j ∧ j < b ∧ nth l' i = nth l j
theorem Pm.len {a b : Nat} {l l' : List Int} (h : Pm a b l l') : l'.length = l.length := h.perm.length_eq
theorem Pm.refl (a b : Nat) (l : List Int) : Pm a b l l := ⟨List.Perm.refl _, fun _ _ => rfl, fun i h1 h2 => ⟨i, h1, h2, rfl⟩⟩
theorem Pm.trans {a b : Nat} {l l' l'' : List Int} (h : Pm a b l l') (k : Pm a b l' l'') : Pm a b l l'' :=
  ⟨k.perm.trans h.perm, fun i hi => (k.out i hi).trans (h.out i hi), fun i h1 h2 => by
    obtain ⟨j, j1, j2, e⟩ := k.in_ i h1 h2
    obtain ⟨q, q1, q2, e'⟩ := h.in_ j j1 j2
    exact ⟨q, q1, q2, e.trans e'⟩⟩
theorem Pm.wider {a b a' b' : Nat} {l l' : List Int} (h : Pm a b l l') (ha : a' ≤ a) (hb : b ≤ b') : Pm a' b' l l' :=
  ⟨h.perm, fun i hi => h.out i (by omega), fun i h1 h2 => by
    by_cases e : a ≤ i ∧ i < b
    · obtain ⟨j, j1, j2, e'⟩ := h.in_ i e.1 e.2
      exact ⟨j, by omega, by omega, e'⟩
    · exact ⟨i, h1, h2, h.out i (by omega)⟩⟩
theorem Pm.swap {a b i j : Nat} {l : List Int} (hi : a ≤ i) (hi2 : i < b) (hj : a ≤ j) (hj2 : j < b) (hb : b ≤ l.length) : Pm a b l (swapL l i j) := by
  have hn := fun k => swapL_nth (l := l) (i := i) (j := j) (by omega) (by omega) k
  refine ⟨swapL_perm (by omega) (by omega), fun k hk => ?_, fun k h1 h2 => ?_⟩
  · rw [hn, if_neg (by omega), if_neg (by omega)]
  · rw [hn]
    by_cases e1 : k = j
    · rw [if_pos e1]; exact ⟨i, hi, hi2, rfl⟩
    · by_cases e2 : k = i
      · rw [if_neg e1, if_pos e2]; exact ⟨j, hj, hj2, rfl⟩
      · rw [if_neg e1, if_neg e2]; exact ⟨k, h1, h2, rfl⟩
theorem Pm.all {a b : Nat} {l l' : List Int} (h : Pm a b l l') {p : Int → Prop} (hp : ∀ i, a ≤ i → i < b → p (nth l i)) : ∀ i, a ≤ i → i < b → p (nth l' i) := fun i h1 h2 => by
  obtain ⟨j, j1, j2, e⟩ := h.in_ i h1 h2
  rw [e]; exact hp j j1 j2
theorem Pm.w32 {a b : Nat} {l l' : List Int} (h : Pm a b l l') (hl : W32 l) : W32 l' := fun x hx => hl x (h.perm.mem_iff.1 hx)
/-- Ascending from a on ahead of b. -/
def Asc (l : List Int) (a b : Nat) : Prop := ∀ i j, a ≤ i → i < j → j < b → nth l i ≤ nth l j
theorem Asc.small {l : List Int} {a b : Nat} (h : b ≤ a + 1) : Asc l a b := fun i j h1 h2 h3 => by omega
theorem Asc.narrow {l : List Int} {a b a' b' : Nat} (h : Asc l a b) (ha : a ≤ a') (hb : b' ≤ b) : Asc l a' b' := fun i j h1 h2 h3 => h i j (by omega) h2 (by omega)
theorem Asc.same {l l' : List Int} {a b : Nat} (h : Asc l a b) (e : ∀ i, a ≤ i → i < b → nth l' i = nth l i) : Asc l' a b := fun i j h1 h2 h3 => by
  rw [e i h1 (by omega), e j (by omega) h3]; exact h i j h1 h2 h3
theorem Asc.pairwise {l : List Int} (h : Asc l 0 l.length) : l.Pairwise (· ≤ ·) := by
  rw [List.pairwise_iff_getElem]
  intro i j hi hj hij
  have := h i j (by omega) hij hj
  rwa [nth_eq hi, nth_eq hj] at this
/-- Nothing from a on ahead of b is less than what stands ahead of a. -/
def Lo (l : List Int) (a b : Nat) : Prop := a = 0 ∨ ∀ i, a ≤ i → i < b → nth l (a - 1) ≤ nth l i
theorem Lo.pm {l l' : List Int} {a b : Nat} (h : Lo l a b) (k : Pm a b l l') : Lo l' a b := by
  rcases h with h | h
  · exact .inl h
  · by_cases ha : a = 0
    · exact .inl ha
    · refine .inr fun i h1 h2 => ?_
      rw [k.out (a - 1) (by omega)]
      exact k.all (p := fun x => nth l (a - 1) ≤ x) h i h1 h2

/-- The element at j on its way down from i: all others up to i ascend. -/
structure Ins (l : List Int) (a i j : Nat) : Prop where
  asc : ∀ p q, a ≤ p → p < q → q ≤ i → q ≠ j → nth l p ≤ nth l q
theorem Ins.start {l : List Int} {a i : Nat} (h : Asc l a i) : Ins l a i i := ⟨fun p q h1 h2 h3 h4 => h p q h1 h2 (by omega)⟩
theorem Ins.step {l : List Int} {a i j : Nat} (h : Ins l a i (j + 1)) (hj : a ≤ j) (hi : j + 1 ≤ i) (hl : i < l.length) (hlt : nth l (j + 1) < nth l j) : Ins (swapL l (j + 1) j) a i j := by
  have hn := fun k => swapL_nth (l := l) (i := j + 1) (j := j) (by omega) (by omega) k
  refine ⟨fun p q h1 h2 h3 h4 => ?_⟩
  rw [hn, hn]
  by_cases q1 : q = j + 1
  · subst q1
    rw [if_neg (show ¬ j + 1 = j by omega), if_pos rfl]
    by_cases p1 : p = j
    · rw [if_pos p1]; omega
    · rw [if_neg p1, if_neg (by omega)]
      exact h.asc p j h1 (by omega) (by omega) (by omega)
  · rw [if_neg h4, if_neg q1]
    by_cases p1 : p = j
    · rw [if_pos p1]; subst p1
      exact h.asc (p + 1) q (by omega) (by omega) h3 (by omega)
    · by_cases p2 : p = j + 1
      · rw [if_neg p1, if_pos p2]
        exact h.asc j q hj (by omega) h3 q1
      · rw [if_neg p1, if_neg p2]
        exact h.asc p q h1 h2 h3 q1
theorem Ins.stop {l : List Int} {a i j : Nat} (h : Ins l a i j) (hji : j ≤ i) (haj : a ≤ j) (hs : j = a ∨ nth l (j - 1) ≤ nth l j) : Asc l a (i + 1) := fun p q h1 h2 h3 => by
  by_cases e : q = j
  · subst e
    rcases hs with hs | hs
    · omega
    · by_cases e2 : p = q - 1
      · rw [e2]; exact hs
      · exact Int.le_trans (h.asc p (q - 1) h1 (by omega) (by omega) (by omega)) hs
  · exact h.asc p q h1 h2 (by omega) e
end Go.Proofs.Ytchcpeenpijekaa

/- Go's sort of runes, walked: cmp.Less, insertionSortOrdered. -/
namespace Go.Proofs.Ytchcpeenpijekaa
open Go.RowKit
set_option linter.unusedVariables false

theorem Own.at_ {w : World} {B n c g : Nat} {l : List Int} (h : Own w B (some ⟨g, 0, none⟩) n c l) {j : Nat} (hj : j < n) : w.cell? ⟨g, j, none⟩ = some (.int .i32 (nth l j)) ∧ w.frozen? ⟨g, j, none⟩ = false := ⟨h.cell hj, h.frozen j⟩
theorem Own.swap {w : World} {B n c g : Nat} {l : List Int} (h : Own w B (some ⟨g, 0, none⟩) n c l) {i j : Nat} (hi : i < n) (hj : j < n) : Own ((w.setCell ⟨g, i, none⟩ (.int .i32 (nth l j))).setCell ⟨g, j, none⟩ (.int .i32 (nth l i))) B (some ⟨g, 0, none⟩) n c (swapL l i j) :=
  (h.set hi (h.wf.bd j)).set hj (h.wf.bd i)
/-- What a step of the sort leaves: the row permuted, nothing else turned. -/
structure Srt (w w' : World) (B g n c a b : Nat) (l l' : List Int) : Prop where
  own : Own w' B (some ⟨g, 0, none⟩) n c l'
  grown : w.grownBy w' (some g)
  pm : Pm a b l l'
theorem Srt.refl {w : World} {B g n c : Nat} {l : List Int} (h : Own w B (some ⟨g, 0, none⟩) n c l) (a b : Nat) : Srt w w B g n c a b l l := ⟨h, World.grownBy.refl w _, Pm.refl _ _ _⟩
theorem Srt.trans {w w1 w2 : World} {B g n c a b : Nat} {l l1 l2 : List Int} (h : Srt w w1 B g n c a b l l1) (k : Srt w1 w2 B g n c a b l1 l2) : Srt w w2 B g n c a b l l2 := ⟨k.own, h.grown.trans k.grown, h.pm.trans k.pm⟩
theorem Srt.wider {w w1 : World} {B g n c a b a' b' : Nat} {l l1 : List Int} (h : Srt w w1 B g n c a b l l1) (ha : a' ≤ a) (hb : b ≤ b') : Srt w w1 B g n c a' b' l l1 := ⟨h.own, h.grown, h.pm.wider ha hb⟩
theorem Srt.drewN {w w1 : World} {B g n c a b : Nat} {l l1 : List Int} (h : Srt w w1 B g n c a b l l1) (q : Nat) : Srt w (w1.drewN q) B g n c a b l l1 := ⟨h.own.drewN q, grown_drewN h.grown q, h.pm⟩
theorem Srt.swap {w w1 : World} {B g n c a b : Nat} {l l1 : List Int} (h : Srt w w1 B g n c a b l l1) {i j : Nat} (hi : a ≤ i) (hi2 : i < b) (hj : a ≤ j) (hj2 : j < b) (hb : b ≤ n) :
    Srt w ((w1.setCell ⟨g, i, none⟩ (.int .i32 (nth l1 j))).setCell ⟨g, j, none⟩ (.int .i32 (nth l1 i))).drew B g n c a b l (swapL l1 i j) :=
  ⟨(h.own.swap (by omega) (by omega)).drew, grown_drewN (grown_set (grown_set h.grown i (.int .i32 (nth l1 j))) j (.int .i32 (nth l1 i))) 1, h.pm.trans (Pm.swap hi hi2 hj hj2 (by rw [h.own.len]; exact hb))⟩

set_option maxHeartbeats 400000 in
theorem isNaN_any (x : Int) (w : World) : Calls Try.prog 105 #[.int .i32 x] w fun e w' => e = .returned (.bool false) ∧ w = w' := by
  go_enter Try.func105, Try.ntmps105
  go_wp2
  go_ret
  exact ⟨rfl, rfl⟩
set_option maxHeartbeats 400000 in
theorem less_yes (x y : Int) (w : World) (h : x < y) : Calls Try.prog 94 #[.int .i32 x, .int .i32 y] w fun e w' => e = .returned (.bool true) ∧ w = w' := by
  go_enter Try.func94, Try.ntmps94
  go_wp2_with (go_at_call 105; refine (isNaN_any _ _).mono ?_; rintro e w' ⟨rfl, rfl⟩)
  go_ret
  exact ⟨rfl, rfl⟩
set_option maxHeartbeats 400000 in
theorem less_no (x y : Int) (w : World) (h : ¬ x < y) : Calls Try.prog 94 #[.int .i32 x, .int .i32 y] w fun e w' => e = .returned (.bool false) ∧ w = w' := by
  have d : decide (x < y) = false := by simpa using h
  go_enter Try.func94, Try.ntmps94
  go_wp2_with (go_at_call 105; refine (isNaN_any _ _).mono ?_; rintro e w' ⟨rfl, rfl⟩)
  go_ret
  exact ⟨rfl, rfl⟩
def ltB (x y : Int) : Bool := decide (x < y)
theorem less_any (x y : Int) (w : World) : Calls Try.prog 94 #[.int .i32 x, .int .i32 y] w fun e w' => e = .returned (.bool (ltB x y)) ∧ w = w' := by
  unfold ltB
  by_cases h : x < y
  · rw [decide_eq_true h]; exact less_yes x y w h
  · rw [decide_eq_false h]; exact less_no x y w h
theorem ltB_yes {x y : Int} (h : ltB x y = true) : x < y := of_decide_eq_true h
theorem ltB_no {x y : Int} (h : ltB x y = false) : y ≤ x := by have := of_decide_eq_false h; omega

set_option maxRecDepth 100000 in
set_option maxHeartbeats 4000000 in
theorem insertion_any (g B n c a b : Nat) (l : List Int) (w : World) (h : Own w B (some ⟨g, 0, none⟩) n c l) (hab : a ≤ b) (hbn : b ≤ n) (hn : n ≤ 1000000) :
    Calls Try.prog 88 #[.slice (some ⟨g, 0, none⟩) n c, .int .i64 (a : Int), .int .i64 (b : Int)] w fun e w' => e = .returned (.tuple #[]) ∧ ∃ l', Srt w w' B g n c a b l l' ∧ Asc l' a b := by
  have HR := hide (Srt.refl h a b)
  clear h
  go_enter Try.func88, Try.ntmps88
  go_wp2_with fail
  go_loopg [6] (b - a) (fun g1 vi wr => ∃ (i : Nat) (l1 : List Int), vi = .int .i64 i ∧ a < i ∧ i ≤ b + 1 ∧ b + 1 - i ≤ g1 + 1 ∧ Hid (Srt w wr B g n c a b l l1) ∧ Hid (Asc l1 a (min i b)))
  case atStart => exact ⟨a + 1, l, by go_num, by omega, by omega, by omega, HR.out, Asc.small (by omega)⟩
  case round =>
    obtain ⟨gO, rfl⟩ : ∃ gO : Nat, gO = gk := ⟨_, rfl⟩
    obtain ⟨i, l1, rfl, hai, hib, hg1, HL, HT⟩ := hrel
    by_cases hlt : i < b
    · have hmin : min i b = i := by omega
      rw [hmin] at HT
      clear hmin
      go_wp2_with fail
      go_loopg [7] i (fun g2 vj wr2 => ∃ (j : Nat) (l2 : List Int), vj = .int .i64 j ∧ a ≤ j ∧ j ≤ i ∧ j ≤ g2 ∧ Hid (Srt w wr2 B g n c a b l l2) ∧ Hid (Ins l2 a i j))
      case atStart => exact ⟨i, l1, rfl, by omega, Nat.le_refl _, Nat.le_refl _, HL.out, Ins.start HT.out⟩
      case round =>
        obtain ⟨j, l2, rfl, haj, hji, hg2, HL2, HD⟩ := hrel
        have HOUT := hide (fun (hst : j = a ∨ nth l2 (j - 1) ≤ nth l2 j) => show Asc l2 a (min (i + 1) b) from by
          rw [show min (i + 1) b = i + 1 by omega]
          exact HD.out.stop hji haj hst)
        by_cases hja : a < j
        · obtain ⟨p, hp⟩ : ∃ p, j = p + 1 := ⟨j - 1, by omega⟩
          have HJP := hide hp
          obtain ⟨cj, fj⟩ := HL2.out.own.at_ (j := j) (by omega)
          obtain ⟨cp, fp⟩ := HL2.out.own.at_ (j := p) (by omega)
          have hji1 : j - 1 = p := by omega
          rw [hji1] at HOUT
          have e1 : IntKind.i64.wrap ((j : Int) - 1) = (p : Int) := by rw [IntWalk.i64_in _ (by omega)]; omega
          have p0 : (0 : Int) ≤ (j : Int) := by omega
          have p1 : (j : Int) < (n : Int) := by omega
          have p2 : (0 : Int) ≤ (p : Int) := by omega
          have p3 : (p : Int) < (n : Int) := by omega
          have p4 : (a : Int) < (j : Int) := by omega
          have p5 : decide (a < j) = true := by simp; omega
          have hjn : j < n := by omega
          have hpn : p < n := by omega
          have hpi : p + 1 ≤ i := by omega
          have hjp : j ≠ p := by omega
          clear hp hji1
          obtain ⟨x, hx⟩ : ∃ x, nth l2 j = x := ⟨_, rfl⟩
          obtain ⟨y, hy⟩ : ∃ y, nth l2 p = y := ⟨_, rfl⟩
          rw [hx] at cj
          rw [hy] at cp
          have HXY := hide (And.intro hx hy)
          clear hx hy
          cases hlt2 : ltB x y
          · have HLT := hide hlt2
            go_wp2_with fail
            go_quiet ((go_at_call 94; exact Calls.quiet_of_same ((less_no x y _ (by have := ltB_no HLT.out; omega)).mono fun e w' h => ⟨h.1, h.2.symm⟩)))
            have HO := hide (HOUT.out (.inr (by rw [HXY.out.1, HXY.out.2]; exact ltB_no HLT.out)))
            have HL3 := hide (HL2.out.drewN nq)
            clear cj fj cp fp hlt2
            go_wp2_with fail
            clear e1
            go_roundg (b - (i + 1))
            case measure => omega
            case rel => exact ⟨i + 1, l2, by go_num, by omega, by omega, by omega, HL3.out, HO.out⟩
          · have HLT := hide hlt2
            go_wp2_with fail
            go_quiet ((go_at_call 94; exact Calls.quiet_of_same ((less_yes x y _ (ltB_yes HLT.out)).mono fun e w' h => ⟨h.1, h.2.symm⟩)))
            have HL3 := hide (HL2.out.drewN nq)
            have HX := hide (HL3.out.swap (i := j) (j := p) (by omega) (by omega) (by have := HJP.out; clear e1; omega) (by omega) hbn)
            have hd := HD.out
            rw [HJP.out] at hd
            have HD2 := hide (hd.step (by have := HJP.out; clear e1; omega) hpi (by rw [HL2.out.own.len]; clear e1; omega) (by rw [← HJP.out, HXY.out.1, HXY.out.2]; exact ltB_yes HLT.out))
            rw [← HJP.out] at HD2
            rw [HXY.out.1, HXY.out.2] at HX
            obtain ⟨wq, hwq⟩ : ∃ wq, wq = wr.drewN nq := ⟨_, rfl⟩
            have cj2 : wq.cell? ⟨g, j, none⟩ = some (.int .i32 x) := by rw [hwq]; exact cj
            have cp2 : wq.cell? ⟨g, p, none⟩ = some (.int .i32 y) := by rw [hwq]; exact cp
            have fj2 : wq.frozen? ⟨g, j, none⟩ = false := by rw [hwq]; exact fj
            have fp2 : wq.frozen? ⟨g, p, none⟩ = false := by rw [hwq]; exact fp
            rw [← hwq] at HX ⊢
            clear hwq cj cp fj fp hlt2 hd HL3
            go_wp2_with fail
            go_region
            go_wp2_with fail
            clear e1
            go_roundg p
            case measure => have := HJP.out; omega
            case rel => exact ⟨p, swapL l2 j p, rfl, by have := HJP.out; omega, by omega, by have := HJP.out; omega, HX.out, HD2.out⟩
        · have d1 : decide (a < j) = false := by simp; omega
          have d2 : ¬ ((a : Int) < (j : Int)) := by omega
          have HO := hide (HOUT.out (.inl (by omega)))
          go_wp2_with fail
          go_quiet (fail)
          have HL3 := hide (HL2.out.drewN nq)
          go_wp2_with fail
          go_roundg (b - (i + 1))
          case measure => omega
          case rel => exact ⟨i + 1, l2, by go_num, by omega, by omega, by omega, HL3.out, HO.out⟩
    · have hmin : min i b = b := by omega
      rw [hmin] at HT
      clear hmin
      go_wp2_with fail
      go_end0
      exact ⟨rfl, l1, HL.out, HT.out⟩
end Go.Proofs.Ytchcpeenpijekaa

/- math/bits.Len, Len32, Len64: the shelf's contracts at this program, in plain words. -/
namespace Go.Proofs.Ytchcpeenpijekaa
open Go.Shelf Go.Proofs

def lays128_ren : Go.Shelf.Ren := ⟨fun | 128 => 97 | n => n, fun | 51 => 118 | 3 => 3 | 4 => 4 | 46 => 90 | 5 => 5 | 9 => 9 | n => n, fun | n => n⟩
theorem lays128 : Go.Proofs.Lays.n128 Try.prog lays128_ren := {
  mixed := by kernel_rfl
  f128 := Try.func97.trans (congrArg some (by kernel_rfl))
  t3 := Try.underlying3
  a3 := Try.isAgg3
  z3 := Try.sizeOf3
  v3 := Try.zeroValue3
  t4 := Try.underlying4
  a4 := Try.isAgg4
  z4 := Try.sizeOf4
  v4 := Try.zeroValue4
  t5 := Try.underlying5
  a5 := Try.isAgg5
  z5 := Try.sizeOf5
  v5 := Try.zeroValue5
  t9 := Try.underlying9
  a9 := Try.isAgg9
  z9 := Try.sizeOf9
  v9 := Try.zeroValue9
  t46 := Try.underlying90
  a46 := Try.isAgg90
  z46 := Try.sizeOf90
  v46 := Try.zeroValue90
  t51 := Try.underlying118
  a51 := Try.isAgg118
  z51 := Try.sizeOf118
  v51 := Try.zeroValue118 }
theorem bits_Len32 (x : Int) (w : World) (h0 : 0 ≤ x) (h1 : x ≤ 4294967295) :
    Calls Try.prog 97 #[.int .u32 x] w fun e w' => e = .returned (.int .i64 (Lib.bitLen x.toNat)) ∧ w' = w := Any.bits_Len32 lays128 x w h0 h1
def lays125_ren : Go.Shelf.Ren := ⟨fun | 125 => 86 | 128 => 97 | 129 => 98 | n => n, fun | 46 => 90 | 3 => 3 | 51 => 118 | 53 => 120 | 4 => 4 | 5 => 5 | 9 => 9 | n => n, fun | n => n⟩
theorem lays125 : Go.Proofs.Lays.n125 Try.prog lays125_ren := {
  mixed := by kernel_rfl
  f125 := Try.func86.trans (congrArg some (by kernel_rfl))
  f128 := Try.func97.trans (congrArg some (by kernel_rfl))
  f129 := Try.func98.trans (congrArg some (by kernel_rfl))
  t3 := Try.underlying3
  a3 := Try.isAgg3
  z3 := Try.sizeOf3
  v3 := Try.zeroValue3
  t4 := Try.underlying4
  a4 := Try.isAgg4
  z4 := Try.sizeOf4
  v4 := Try.zeroValue4
  t5 := Try.underlying5
  a5 := Try.isAgg5
  z5 := Try.sizeOf5
  v5 := Try.zeroValue5
  t9 := Try.underlying9
  a9 := Try.isAgg9
  z9 := Try.sizeOf9
  v9 := Try.zeroValue9
  t46 := Try.underlying90
  a46 := Try.isAgg90
  z46 := Try.sizeOf90
  v46 := Try.zeroValue90
  t51 := Try.underlying118
  a51 := Try.isAgg118
  z51 := Try.sizeOf118
  v51 := Try.zeroValue118
  t53 := Try.underlying120
  a53 := Try.isAgg120
  z53 := Try.sizeOf120
  v53 := Try.zeroValue120 }
theorem bits_Len (x : Int) (w : World) (h0 : 0 ≤ x) (h1 : x ≤ 18446744073709551615) :
    Calls Try.prog 86 #[.int .u64 x] w fun e w' => e = .returned (.int .i64 (Lib.bitLen x.toNat)) ∧ w' = w := Any.bits_Len lays125 x w h0 h1
def lays129_ren : Go.Shelf.Ren := ⟨fun | 129 => 98 | n => n, fun | 53 => 120 | 3 => 3 | 4 => 4 | 46 => 90 | 5 => 5 | 9 => 9 | n => n, fun | n => n⟩
theorem lays129 : Go.Proofs.Lays.n129 Try.prog lays129_ren := {
  mixed := by kernel_rfl
  f129 := Try.func98.trans (congrArg some (by kernel_rfl))
  t3 := Try.underlying3
  a3 := Try.isAgg3
  z3 := Try.sizeOf3
  v3 := Try.zeroValue3
  t4 := Try.underlying4
  a4 := Try.isAgg4
  z4 := Try.sizeOf4
  v4 := Try.zeroValue4
  t5 := Try.underlying5
  a5 := Try.isAgg5
  z5 := Try.sizeOf5
  v5 := Try.zeroValue5
  t9 := Try.underlying9
  a9 := Try.isAgg9
  z9 := Try.sizeOf9
  v9 := Try.zeroValue9
  t46 := Try.underlying90
  a46 := Try.isAgg90
  z46 := Try.sizeOf90
  v46 := Try.zeroValue90
  t53 := Try.underlying120
  a53 := Try.isAgg120
  z53 := Try.sizeOf120
  v53 := Try.zeroValue120 }
theorem bits_Len64 (x : Int) (w : World) (h0 : 0 ≤ x) (h1 : x ≤ 18446744073709551615) :
    Calls Try.prog 98 #[.int .u64 x] w fun e w' => e = .returned (.int .i64 (Lib.bitLen x.toNat)) ∧ w' = w := Any.bits_Len64 lays129 x w h0 h1
end Go.Proofs.Ytchcpeenpijekaa

/- slices.nextPowerOfTwo, xorshift.Next: the shelf's contracts at this program, in plain words. -/
namespace Go.Proofs.Ytchcpeenpijekaa
open Go.Shelf Go.Proofs

def lays47_ren : Go.Shelf.Ren := ⟨fun | 47 => 101 | 15 => 86 | 28 => 97 | 29 => 98 | n => n, fun | 3 => 3 | 39 => 90 | 53 => 118 | 55 => 120 | 4 => 4 | 5 => 5 | 9 => 9 | n => n, fun | n => n⟩
theorem lays47 : Go.Proofs.SlLaysF0.n47 Try.prog lays47_ren := {
  mixed := by kernel_rfl
  f15 := Try.func86.trans (congrArg some (by kernel_rfl))
  f28 := Try.func97.trans (congrArg some (by kernel_rfl))
  f29 := Try.func98.trans (congrArg some (by kernel_rfl))
  f47 := Try.func101.trans (congrArg some (by kernel_rfl))
  t3 := Try.underlying3
  a3 := Try.isAgg3
  z3 := Try.sizeOf3
  v3 := Try.zeroValue3
  t4 := Try.underlying4
  a4 := Try.isAgg4
  z4 := Try.sizeOf4
  v4 := Try.zeroValue4
  t5 := Try.underlying5
  a5 := Try.isAgg5
  z5 := Try.sizeOf5
  v5 := Try.zeroValue5
  t9 := Try.underlying9
  a9 := Try.isAgg9
  z9 := Try.sizeOf9
  v9 := Try.zeroValue9
  t39 := Try.underlying90
  a39 := Try.isAgg90
  z39 := Try.sizeOf90
  v39 := Try.zeroValue90
  t53 := Try.underlying118
  a53 := Try.isAgg118
  z53 := Try.sizeOf118
  v53 := Try.zeroValue118
  t55 := Try.underlying120
  a55 := Try.isAgg120
  z55 := Try.sizeOf120
  v55 := Try.zeroValue120 }
theorem nextPow_any (n : Nat) (hn : n < 4611686018427387904) (w : World) : Calls Try.prog 101 #[.int .i64 n] w fun e w' => e = .returned (.int .u64 ((1 <<< Go.Sort.bitsLen n : Nat) : Int)) ∧ w' = w := AnyF.nextPowerOfTwo lays47 n hn w
def lays48_ren : Go.Shelf.Ren := ⟨fun | 48 => 102 | n => n, fun | 76 => 127 | 55 => 120 | 0 => 0 | 66 => 121 | 39 => 90 | n => n, fun | n => n⟩
theorem lays48 : Go.Proofs.SlLaysF0.n48 Try.prog lays48_ren := {
  mixed := by kernel_rfl
  f48 := Try.func102.trans (congrArg some (by kernel_rfl))
  t0 := Try.underlying0
  a0 := Try.isAgg0
  z0 := Try.sizeOf0
  v0 := Try.zeroValue0
  t39 := Try.underlying90
  a39 := Try.isAgg90
  z39 := Try.sizeOf90
  v39 := Try.zeroValue90
  t55 := Try.underlying120
  a55 := Try.isAgg120
  z55 := Try.sizeOf120
  v55 := Try.zeroValue120
  t66 := Try.underlying121
  a66 := Try.isAgg121
  z66 := Try.sizeOf121
  v66 := Try.zeroValue121
  t76 := Try.underlying127
  a76 := Try.isAgg127
  z76 := Try.sizeOf127
  v76 := Try.zeroValue127 }
theorem xorNext_any (rb ro X : Nat) (hX : X < 18446744073709551616) (w : World) (hc : w.cell? ⟨rb, ro, none⟩ = some (.int .u64 X)) (hf : w.frozen? ⟨rb, ro, none⟩ = false) :
    Calls Try.prog 102 #[.pointer (some ⟨rb, ro, none⟩)] w fun e w' => e = .returned (.int .u64 (Go.Sort.xorNextN X : Nat)) ∧ w' = (w.setCell ⟨rb, ro, none⟩ (.int .u64 (Go.Sort.xorNextN X : Nat))).drewN 3 := AnyF.xorshift_Next lays48 rb ro X hX w hc hf
end Go.Proofs.Ytchcpeenpijekaa
