/- The longest trigger ahead of a place: abbrev.Find. -/
import Derived.Test.YtkoieceifplphaaSnipF
import Derived.BigQuiet
namespace Go.Proofs.Ytkoieceifplphaa
open Go.RowKit
set_option linter.unusedVariables false

def trigLen (l : List Snp) (i : Int) : Nat :=
  match l[i.toNat]? with
  | some y => y.trig.length
  | none => 0
/-- Among the first rows: the first one of those whose trigger is the longest that stands there; -1: none. -/
def bestN (l : List Snp) (s : List Int) (a : Nat) : Nat → Int
  | 0 => -1
  | j + 1 =>
    match l[j]? with
    | some x => if stdS x.trig s a = true ∧ (bestN l s a j < 0 ∨ trigLen l (bestN l s a j) < x.trig.length) then (j : Int) else bestN l s a j
    | none => bestN l s a j
theorem bestN_lt (l : List Snp) (s : List Int) (a : Nat) : ∀ j, -1 ≤ bestN l s a j ∧ bestN l s a j < j
  | 0 => ⟨by simp [bestN], by simp [bestN]⟩
  | j + 1 => by
    have := bestN_lt l s a j
    unfold bestN
    cases l[j]? with
    | none => simp only; omega
    | some x => simp only; split <;> omega
def findS (l : List Snp) (s : List Int) (at_ : Int) : Int := if (0 ≤ at_ ∧ at_ ≤ s.length) ∧ tabT l = true then bestN l s at_.toNat l.length else -1

set_option maxRecDepth 100000 in
set_option maxHeartbeats 4000000 in
theorem afind_any (A S : Option Addr) (n c k d : Nat) (at_ : Int) (us : Nat → SNV) (l : List Snp) (s : List Int) (w : World) (h : Snips w A n us l) (hS : Runes w S k s) (hn : n ≤ 9223372036854775807) (hk : k ≤ d) (hd : d ≤ 9223372036854775807) :
    Calls Try.prog 20 #[.slice A n c, .slice S k d, .int .i64 at_] w fun e w' => e = .returned (.tuple #[.int .i64 (max (findS l s at_) 0), .bool (decide (0 ≤ findS l s at_))]) ∧ Below w.heap.size w w' := by
  have H := hide h
  have HS := hide hS
  have HLS := hide hS.len
  have HL := hide h.len
  have hno : ¬ ((0 ≤ at_ ∧ at_ ≤ (k : Int)) ∧ tabT l = true) → findS l s at_ = -1 := fun hc => by unfold findS; rw [HLS.out, if_neg hc]
  clear h hS
  go_enter Try.func20, Try.ntmps20
  by_cases h0 : at_ < 0
  · rw [hno (by omega)]
    clear hno
    go_wp2_with fail
    go_ret2
    exact ⟨rfl, Below.refl _ _⟩
  by_cases h1 : (k : Int) < at_
  · rw [hno (by omega)]
    clear hno
    go_wp2_with fail
    go_ret2
    exact ⟨rfl, Below.refl _ _⟩
  obtain ⟨a, rfl⟩ : ∃ a : Nat, at_ = a := ⟨at_.toNat, by omega⟩
  have hak : a ≤ k := by omega
  have HMT := hide (amay_any A n c us l w H.out hn)
  cases hm : tabT l
  · rw [hno (by rw [hm]; simp)]
    rw [hm] at HMT
    clear hno hm
    go_wp2_with fail
    refine HMT.out.mono ?_
    rintro e w1 ⟨rfl, hb1⟩
    have HB1 := hide hb1
    go_wp2_with fail
    go_ret2
    exact ⟨rfl, HB1.out⟩
  · have hyes : findS l s (a : Int) = bestN l s a n := by unfold findS; rw [HLS.out, if_pos ⟨by omega, hm⟩, HL.out]; rfl
    rw [hyes]
    rw [hm] at HMT
    clear hno hm hyes
    go_wp2_with fail
    refine HMT.out.mono ?_
    rintro e w1 ⟨rfl, hb1⟩
    have HB1 := hide hb1
    clear hb1 HMT
    go_wp2_with fail
    go_loopw [8, 26] (fun b i wx => ∃ j : Nat, j ≤ n ∧ i = .int .i64 j ∧ b = .int .i64 (bestN l s a j) ∧ Below w.heap.size w wx) (fun _ i _ => n - (intOf i).toNat)
    case atStart => exact ⟨0, Nat.zero_le _, rfl, rfl, HB1.out⟩
    case round =>
      obtain ⟨j, hj, rfl, rfl, hbel⟩ := hrel
      have HW := hide hbel
      have H1 := hide (H.out.below hbel)
      have HS1 := hide (HS.out.below hbel)
      clear hbel
      by_cases hlt : j < n
      · obtain ⟨ab, ao, rfl, c0, c1⟩ := H1.out.at_ j hlt
        obtain ⟨x, hx, hr⟩ := H1.out.rd j hlt
        have hxt := hr.cap
        have hbn := bestN_lt l s a j
        have hstep : bestN l s a (j + 1) = if stdS x.trig s a = true ∧ (bestN l s a j < 0 ∨ trigLen l (bestN l s a j) < x.trig.length) then (j : Int) else bestN l s a j := by
          conv => lhs; unfold bestN
          rw [hx]
        rw [hr.trig.len] at hstep
        have hbl : Below wr.heap.size wr (wr.alloc (.cells #[.slice (us j).T (us j).n (us j).c, .slice (us j).B (us j).m (us j).d] 36)) := (Below.refl _ _).alloc (Nat.le_refl _) _
        have HBX := hide (Box.new wr 36 #[.slice (us j).T (us j).n (us j).c, .slice (us j).B (us j).m (us j).d])
        have hb0 : ∀ i : Nat, bestN l s a j = (i : Int) → trigLen l (bestN l s a j) = (us i).n ∧ i < j := fun i hi => by
          refine ⟨?_, by omega⟩
          obtain ⟨y, hy, hry⟩ := H1.out.rd i (by omega)
          unfold trigLen
          rw [hi, Int.toNat_natCast, hy]
          exact hry.trig.len
        have HST := hide (fun W (hb : Below wr.heap.size wr W) => stands_any (us j).T S (us j).n (us j).c k d a x.trig s W (hr.trig.below hb) (HS1.out.below hb) (by omega) hak hk hd)
        have HBL := hide hbl
        have HSTEP := hide hstep
        have HB0 := hide hb0
        clear hbl hx hr hstep hb0
        generalize hbb : bestN l s a j = b at hbn HSTEP HB0
        have HBB := hide hbb
        clear hbb
        generalize stdS x.trig s a = m at HST HSTEP
        obtain ⟨⟨x0, x1⟩, _⟩ := HBX.out.c2
        cases m
        · have hs2 := HSTEP.out
          rw [if_neg (by simp)] at hs2
          have HS2 := hide hs2
          have HLT := hide hlt
          clear hs2 hbn
          go_wp2_with fail
          go_quiet ((go_at_call 47; exact Calls.quiet_of (HST.out _ (below_drewN1 HBL.out _))))
          go_wp2_with fail
          go_roundw
          case rel => exact ⟨j + 1, by have := HLT.out; omega, by go_num, by rw [HS2.out], HW.out.trans ((below_drewN1 HBL.out _).mono HW.out.size)⟩
          case measure => have := HLT.out; simp [intOf]; omega
        · by_cases hb0 : b < 0
          · have hs2 := HSTEP.out
            rw [if_pos ⟨rfl, .inl hb0⟩] at hs2
            have HS2 := hide hs2
            have HLT := hide hlt
            clear hs2 hbn
            have d0 : decide (b < 0) = true := by simp [hb0]
            go_wp2_with fail
            go_quiet ((go_at_call 47; exact Calls.quiet_of (HST.out _ (below_drewN1 HBL.out _))))
            go_wp2_with fail
            go_roundw
            case rel => exact ⟨j + 1, by have := HLT.out; omega, by go_num, by rw [HS2.out], HW.out.trans ((below_drewN1 HBL.out _).mono HW.out.size)⟩
            case measure => have := HLT.out; simp [intOf]; omega
          · obtain ⟨i, rfl⟩ : ∃ i : Nat, b = i := ⟨b.toNat, by omega⟩
            obtain ⟨htl, hij⟩ := HB0.out i rfl
            have hs2 := HSTEP.out
            rw [htl] at hs2
            obtain ⟨ib, io, hie, i0, i1⟩ := (H1.out.below HBL.out).at_ i (by omega)
            injection hie with hie
            injection hie with hie1 hie2
            subst hie1 hie2
            have d0 : decide ((i : Int) < 0) = false := by simp
            have r0 : (0 : Int) ≤ (i : Int) := by omega
            have r1 : (i : Int) < (n : Int) := by omega
            by_cases hg : (us i).n < (us j).n
            · rw [if_pos ⟨rfl, .inr hg⟩] at hs2
              have HS2 := hide hs2
              have HLT := hide hlt
              have d1 : decide ((us i).n < (us j).n) = true := by simp [hg]
              clear hs2 hbn htl hij hb0 hg
              go_wp2_with fail
              go_quiet ((go_at_call 47; exact Calls.quiet_of (HST.out _ (below_drewN1 HBL.out _))))
              go_wp2_with fail
              go_roundw
              case rel => exact ⟨j + 1, by have := HLT.out; omega, by go_num, by rw [HS2.out], HW.out.trans ((below_drewN1 HBL.out _).mono HW.out.size)⟩
              case measure => have := HLT.out; simp [intOf]; omega
            · rw [if_neg (fun h => by rcases h.2 with h1 | h1 <;> omega)] at hs2
              have HS2 := hide hs2
              have HLT := hide hlt
              have d1 : decide ((us i).n < (us j).n) = false := by simp [hg]
              clear hs2 hbn htl hij hb0 hg
              go_wp2_with fail
              go_quiet ((go_at_call 47; exact Calls.quiet_of (HST.out _ (below_drewN1 HBL.out _))))
              go_wp2_with fail
              go_roundw
              case rel => exact ⟨j + 1, by have := HLT.out; omega, by go_num, by rw [HS2.out], HW.out.trans ((below_drewN1 HBL.out _).mono HW.out.size)⟩
              case measure => have := HLT.out; simp [intOf]; omega
      · have e : j = n := by omega
        have hlo := (bestN_lt l s a j).1
        have HE := hide (show bestN l s a n = bestN l s a j by rw [e])
        clear e
        generalize bestN l s a j = b at hlo HE
        by_cases hz : 0 ≤ b
        · have hd0 : decide (0 ≤ b) = true := by simp [hz]
          have hd1 : decide (b < 0) = false := by simp [hz]
          go_wp2_with fail
          go_ret2
          exact ⟨by rw [HE.out, show max b 0 = b by omega]; simp [hz], HW.out⟩
        · have hd0 : decide (0 ≤ b) = false := by simp; omega
          have hd1 : decide (b < 0) = true := by simp; omega
          go_wp2_with fail
          go_ret2
          exact ⟨by rw [HE.out, show max b 0 = 0 by omega]; simp; omega, HW.out⟩
end Go.Proofs.Ytkoieceifplphaa
