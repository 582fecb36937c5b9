/- Go's sort of runes, walked: breakPatternsOrdered. -/
import Derived.Test.YtchcpeenpijekaaSrtC
import Derived.Sort.Walk7
namespace Go.Proofs.Ytchcpeenpijekaa
open Go.RowKit
set_option linter.unusedVariables false

theorem grown_new {w w' : World} {row : Option Nat} (h : w.grownBy w' row) {s : Nat} (hs : w.heap.size ≤ s) (i : Nat) (v : Value) : w.grownBy (w'.setCell ⟨s, i, none⟩ v) row :=
  ⟨h.os, h.tape, h.output, by simpa [World.setCell] using h.size, fun k hk hne => (Below.heap_setCell w' ⟨s, i, none⟩ v k (by show k ≠ s; omega)).trans (h.block k hk hne)⟩
theorem and_le (x m : Nat) (hm : m < 18446744073709551616) : 0 ≤ bits .and .u64 (x : Int) (m : Int) ∧ bits .and .u64 (x : Int) (m : Int) ≤ (m : Int) := by
  have h : bits .and .u64 (x : Int) (m : Int) = IntKind.u64.wrap ((BitVec.ofInt 64 (x : Int) &&& BitVec.ofInt 64 (m : Int)).toNat : Int) := rfl
  have hb : (BitVec.ofInt 64 (x : Int) &&& BitVec.ofInt 64 (m : Int)).toNat ≤ m := by
    rw [BitVec.toNat_and]
    refine Nat.le_trans Nat.and_le_right ?_
    rw [BitVec.toNat_ofInt]
    omega
  rw [h, IntKind.wrap_u64]
  omega
/-- Between two swaps. -/
structure Brk (w wr : World) (B g n c a b s : Nat) (l : List Int) : Prop where
  srt : ∃ l1, Srt w wr B g n c a b l l1
  box : ∃ X : Nat, X < 18446744073709551616 ∧ Box wr s 121 #[.int .u64 (X : Int)]
theorem Brk.next {w wr : World} {B g n c a b s : Nat} {l : List Int} (h : Brk w wr B g n c a b s l) (hs : w.heap.size ≤ s) (hg : g < w.heap.size) (X : Nat) (hX : X < 18446744073709551616) (q : Nat) : Brk w ((wr.setCell ⟨s, 0, none⟩ (.int .u64 (X : Int))).drewN q) B g n c a b s l := by
  obtain ⟨l1, h1⟩ := h.srt
  obtain ⟨Y, hY, h2⟩ := h.box
  refine ⟨⟨l1, (h1.own.far (p := ⟨s, 0, none⟩) (fun e => ?_) _).drewN q, grown_drewN (grown_new h1.grown hs 0 _) q, h1.pm⟩, X, hX, h2.set 0 _⟩
  injection e with e
  have e' : g = s := e
  omega

theorem box_swap {w W : World} {g : Nat} (h : ∃ X : Nat, X < 18446744073709551616 ∧ Box W w.heap.size 121 #[.int .u64 (X : Int)]) (hg : g < w.heap.size) (i j : Nat) (u v : Value) :
    ∃ X : Nat, X < 18446744073709551616 ∧ Box ((W.setCell ⟨g, i, none⟩ u).setCell ⟨g, j, none⟩ v).drew w.heap.size 121 #[.int .u64 (X : Int)] := by
  obtain ⟨X, hX, h⟩ := h
  exact ⟨X, hX, ((h.far (p := ⟨g, i, none⟩) (show w.heap.size ≠ g by omega) u).far (p := ⟨g, j, none⟩) (show w.heap.size ≠ g by omega) v).drew⟩
theorem Srt.swap0 {w w1 : World} {B g n c a b : Nat} {l l1 : List Int} (h : Srt w w1 B g n c a b l l1) {i j : Nat} (hi : a ≤ i) (hi2 : i < b) (hj : a ≤ j) (hj2 : j < b) (hb : b ≤ n) (q : Nat) :
    Srt w (((w1.drewN q).setCell ⟨g, i, none⟩ (.int .i32 (nth l1 j))).setCell ⟨g, j, none⟩ (.int .i32 (nth l1 i))) B g n c a b l (swapL l1 i j) :=
  ⟨((h.own.drewN q).swap (by omega) (by omega)), grown_set (grown_set (grown_drewN h.grown q) i (.int .i32 (nth l1 j))) j (.int .i32 (nth l1 i)), h.pm.trans (Pm.swap hi hi2 hj hj2 (by rw [h.own.len]; exact hb))⟩

set_option maxRecDepth 100000 in
set_option maxHeartbeats 4000000 in
theorem break_any (g B n c a b : Nat) (l : List Int) (w : World) (h : Own w B (some ⟨g, 0, none⟩) n c l) (hab : a + 8 ≤ b) (hbn : b ≤ n) (hn : n ≤ 1000000) :
    Calls Try.prog 90 #[.slice (some ⟨g, 0, none⟩) n c, .int .i64 (a : Int), .int .i64 (b : Int)] w fun e w' => e = .returned (.tuple #[]) ∧ ∃ l', Srt w w' B g n c a b l l' := by
  obtain ⟨L, hL⟩ : ∃ L, b = a + L := ⟨b - a, by omega⟩
  have HL := hide hL
  have hgw := (h.blk_ge g rfl).2
  have e0 : IntKind.i64.wrap ((b : Int) - (a : Int)) = (L : Int) := by rw [IntWalk.i64_in _ (by omega)]; omega
  obtain ⟨M, hM⟩ : ∃ M : Nat, M = 1 <<< Go.Sort.bitsLen L := ⟨_, rfl⟩
  have hM1 : 1 ≤ M := by rw [hM, Nat.one_shiftLeft]; exact Nat.two_pow_pos _
  have hM2 : M ≤ 2 * L := by rw [hM, Nat.one_shiftLeft]; exact Go.Sort.two_pow_bitsLen_le (by omega)
  have HNP := hide (fun W => nextPow_any L (by omega) W)
  rw [← hM] at HNP
  obtain ⟨f, hf⟩ : ∃ f, L / 4 = f := ⟨_, rfl⟩
  have e1 : (L : Int) / 4 = (f : Int) := by omega
  have hf2 : 4 * f ≤ L ∧ L < 4 * f + 4 := by omega
  have hL8 : 8 ≤ L := by omega
  have hLn : a + L ≤ n := by omega
  have hfn : f ≤ 250000 := by omega
  have hg8 : decide ((8 : Int) ≤ (L : Int)) = true := by simp; omega
  have HB0 := hide (show Brk w (w.alloc (.cells #[.int .u64 (L : Int)] 121)) B g n c a b w.heap.size l from
    ⟨⟨l, h.alloc _, (World.grownBy_alloc w _ _), Pm.refl _ _ _⟩, L, by omega, Box.new w _ _⟩)
  have hu : IntKind.u64.wrap (L : Int) = (L : Int) := by simp [IntKind.wrap_u64]; omega
  clear h hL hM hf hab hbn
  go_enter Try.func90, Try.ntmps90
  go_wp2_with (go_at_call 101; refine (HNP.out _).mono ?_; rintro e w1 ⟨rfl, rfl⟩)
  go_loopw [9] (fun vi wr => ∃ (t : Nat), vi = .int .i64 ((a + f * 2 - 1 + t : Nat) : Int) ∧ t ≤ 3 ∧ Hid (Brk w wr B g n c a b w.heap.size l)) (fun vi _ => a + f * 2 + 3 - (intOf vi).toNat)
  case atStart => exact ⟨0, by congr 1; omega, by omega, HB0.out⟩
  case round =>
    obtain ⟨t, rfl, ht, HB⟩ := hrel
    obtain ⟨i, hi⟩ : ∃ i, a + f * 2 - 1 + t = i := ⟨_, rfl⟩
    rw [hi]
    have hi2 : i + 1 = a + f * 2 + t := by omega
    by_cases ht3 : t ≤ 2
    · obtain ⟨X, hX, h2⟩ := HB.out.box
      obtain ⟨Y, hY⟩ : ∃ Y : Nat, Y = Go.Sort.xorNextN X := ⟨_, rfl⟩
      have lY : Y < 18446744073709551616 := by rw [hY]; exact Go.Sort.xorNextN_lt X hX
      have HNX := hide (show Calls Try.prog 102 #[.pointer (some ⟨w.heap.size, 0, none⟩)] wr fun e w' => e = .returned (.int .u64 (Y : Int)) ∧ w' = (wr.setCell ⟨w.heap.size, 0, none⟩ (.int .u64 (Y : Int))).drewN 3 from by rw [hY]; exact xorNext_any _ 0 X hX wr (h2.c1).1 (h2.c1).2)
      have HB2 := hide (HB.out.next (Nat.le_refl _) hgw Y lY 3)
      obtain ⟨m, hm⟩ : ∃ m, M - 1 = m := ⟨_, rfl⟩
      have hm1 : IntKind.u64.wrap ((M : Int) - 1) = (m : Int) := by simp [IntKind.wrap_u64]; omega
      obtain ⟨O, hO⟩ : ∃ O : Nat, bits .and .u64 (Y : Int) (m : Int) = (O : Int) ∧ O ≤ m := by
        have := and_le Y m (by omega)
        exact ⟨(bits .and .u64 (Y : Int) (m : Int)).toNat, by omega, by omega⟩
      obtain ⟨hO1, hO2⟩ := hO
      have hO3 : IntKind.i64.wrap (O : Int) = (O : Int) := IntWalk.i64_in _ (by omega)
      have hO4 : O < 2 * L := by omega
      clear h2 hX hY hm HB hO2
      go_wp2_with fail
      refine HNX.out.mono ?_
      rintro e w2 ⟨rfl, rfl⟩
      generalize (wr.setCell ⟨w.heap.size, 0, none⟩ (.int .u64 (Y : Int))).drewN 3 = w2 at HB2 ⊢
      clear HNX
      obtain ⟨l1, h1⟩ := HB2.out.srt
      have HL1 := hide h1
      have HBX := hide HB2.out.box
      clear h1 HB2
      by_cases hLO : L ≤ O
      · obtain ⟨o, ho⟩ : ∃ o, O - L = o := ⟨_, rfl⟩
        have e2 : IntKind.i64.wrap ((O : Int) - (L : Int)) = (o : Int) := by rw [IntWalk.i64_in _ (by omega)]; omega
        obtain ⟨p, hp⟩ : ∃ p, a + o = p := ⟨_, rfl⟩
        have e3 : IntKind.i64.wrap ((a : Int) + (o : Int)) = (p : Int) := by rw [IntWalk.i64_in _ (by omega)]; omega
        have hpn : p < n := by omega
        have hin : i < n := by omega
        have HPI := hide (show a ≤ i ∧ i < b ∧ a ≤ p ∧ p < b from by have := HL.out; omega)
        clear ho hp
        obtain ⟨ci, fi⟩ := HL1.out.own.at_ (j := i) hin
        obtain ⟨cp, fp⟩ := HL1.out.own.at_ (j := p) hpn
        by_cases hip : i = p
        · subst hip
          have HX := hide (HL1.out.swap (i := i) (j := i) HPI.out.1 HPI.out.2.1 HPI.out.1 HPI.out.2.1 (by have := HL.out; omega))
          have HBX3 := hide (box_swap HBX.out hgw i i (.int .i32 (nth l1 i)) (.int .i32 (nth l1 i)))
          go_wp2_with fail
          go_region
          go_wp2_with fail
          go_roundw
          case rel => exact ⟨t + 1, by congr 1; omega, by omega, ⟨_, HX.out⟩, HBX3.out⟩
          case measure => simp [intOf]; omega
        · have HX := hide (HL1.out.swap (i := i) (j := p) HPI.out.1 HPI.out.2.1 HPI.out.2.2.1 HPI.out.2.2.2 (by have := HL.out; omega))
          have HBX3 := hide (box_swap HBX.out hgw i p (.int .i32 (nth l1 p)) (.int .i32 (nth l1 i)))
          go_wp2_with fail
          go_region
          go_wp2_with fail
          go_roundw
          case rel => exact ⟨t + 1, by congr 1; omega, by omega, ⟨_, HX.out⟩, HBX3.out⟩
          case measure => simp [intOf]; omega
      · obtain ⟨p, hp⟩ : ∃ p, a + O = p := ⟨_, rfl⟩
        have hOL : ¬ ((L : Int) ≤ (O : Int)) := by omega
        have e3 : IntKind.i64.wrap ((a : Int) + (O : Int)) = (p : Int) := by rw [IntWalk.i64_in _ (by omega)]; omega
        have hpn : p < n := by omega
        have hin : i < n := by omega
        have HPI := hide (show a ≤ i ∧ i < b ∧ a ≤ p ∧ p < b from by have := HL.out; omega)
        clear hp
        obtain ⟨ci, fi⟩ := HL1.out.own.at_ (j := i) hin
        obtain ⟨cp, fp⟩ := HL1.out.own.at_ (j := p) hpn
        by_cases hip : i = p
        · subst hip
          have HX := hide (HL1.out.swap (i := i) (j := i) HPI.out.1 HPI.out.2.1 HPI.out.1 HPI.out.2.1 (by have := HL.out; omega))
          have HBX3 := hide (box_swap HBX.out hgw i i (.int .i32 (nth l1 i)) (.int .i32 (nth l1 i)))
          go_wp2_with fail
          go_region
          go_wp2_with fail
          go_roundw
          case rel => exact ⟨t + 1, by congr 1; omega, by omega, ⟨_, HX.out⟩, HBX3.out⟩
          case measure => simp [intOf]; omega
        · have HX := hide (HL1.out.swap (i := i) (j := p) HPI.out.1 HPI.out.2.1 HPI.out.2.2.1 HPI.out.2.2.2 (by have := HL.out; omega))
          have HBX3 := hide (box_swap HBX.out hgw i p (.int .i32 (nth l1 p)) (.int .i32 (nth l1 i)))
          go_wp2_with fail
          go_region
          go_wp2_with fail
          go_roundw
          case rel => exact ⟨t + 1, by congr 1; omega, by omega, ⟨_, HX.out⟩, HBX3.out⟩
          case measure => simp [intOf]; omega
    · obtain rfl : t = 3 := by omega
      go_wp2_with fail
      go_end0
      exact ⟨rfl, HB.out.srt⟩
end Go.Proofs.Ytchcpeenpijekaa
