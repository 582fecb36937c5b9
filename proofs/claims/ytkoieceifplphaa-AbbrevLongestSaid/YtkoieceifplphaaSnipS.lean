/- The reference's answers of layer 23: Find, Row, Named. -/
import Derived.Test.YtkoieceifplphaaSnipR
namespace Go.Proofs.Ytkoieceifplphaa
open Go.RowKit
set_option linter.unusedVariables false

set_option maxRecDepth 100000 in
set_option maxHeartbeats 4000000 in
theorem rrow_any (A T : Option Addr) (n c m d : Nat) (us : Nat → SNV) (l : List Snp) (t : List Int) (w : World) (h : Snips w A n us l) (hT : Runes w T m t) (hn : n ≤ 9223372036854775807) (hm : m ≤ 9223372036854775807) :
    Calls Try.prog 66 #[.slice A n c, .slice T m d] w fun e w' => e = .returned (.tuple #[.int .i64 (max (idxT (fun x => sameS x.trig t) l) 0), .bool (decide (0 ≤ idxT (fun x => sameS x.trig t) l))]) ∧ ∃ q, w' = w.drewN q := by
  have H := hide h
  have HL := hide h.len
  have HT := hide hT
  clear h hT
  go_enter Try.func66, Try.ntmps66
  go_wp2_with fail
  go_loopw [6] (fun i wx => ∃ j q : Nat, j ≤ n ∧ i = .int .i64 j ∧ wx = w.drewN q ∧ Hid (∀ (a : Nat) (x : Snp), a < j → l[a]? = some x → sameS x.trig t = false)) (fun i _ => n - (intOf i).toNat)
  case atStart => exact ⟨0, 0, Nat.zero_le _, rfl, rfl, fun a x ha => absurd ha (by omega)⟩
  case round =>
    obtain ⟨j, q, hj, rfl, rfl, hal⟩ := hrel
    by_cases hlt : j < n
    · obtain ⟨ab, ao, rfl, c0, c1⟩ := H.out.at_ j hlt
      obtain ⟨x, hx, hr⟩ := H.out.rd j hlt
      have HX := hide hx
      have hcap := hr.cap
      have j0 : (0 : Int) ≤ (j : Int) := by omega
      have j1 : (j : Int) < (n : Int) := by omega
      have HM := hide (fun q => refSame_any (us j).T T (us j).n (us j).c m d x.trig t (w.drewN q) (hr.trig.drewN q) (HT.out.drewN q) (by omega) hm)
      clear hx hr
      cases hs : sameS x.trig t
      · have HS := hide hs
        rw [hs] at HM
        clear hs
        go_wp2_with fail
        refine (HM.out _).mono ?_
        rintro e w1 ⟨rfl, q1, rfl⟩
        go_wp2_with fail
        go_roundw
        case rel => exact ⟨j + 1, _, by omega, by go_num, rfl, fun a y ha hy => by
          rcases Nat.lt_succ_iff_lt_or_eq.1 ha with h1 | h1
          · exact hal.out a y h1 hy
          · subst h1
            rw [HX.out] at hy
            rw [← Option.some.inj hy]; exact HS.out⟩
        case measure => simp [intOf]; omega
      · have HI := hide (idxT_some (p := fun x => sameS x.trig t) HX.out hs hal.out)
        rw [hs] at HM
        clear hs
        go_wp2_with fail
        refine (HM.out _).mono ?_
        rintro e w1 ⟨rfl, q1, rfl⟩
        go_wp2_with fail
        go_ret2
        exact ⟨by rw [HI.out]; exact retIB (by omega) (by simp), _, rfl⟩
    · have HI := hide (idxT_none (p := fun x => sameS x.trig t) (l := l) (fun a x hx => hal.out a x (by have := (List.getElem?_eq_some_iff.1 hx).1; rw [HL.out] at this; omega) hx))
      go_wp2_with fail
      go_ret2
      exact ⟨by rw [HI.out]; exact retIB (by omega) (by simp), q, rfl⟩

theorem named_row {l : List Snp} {s : List Int} {at_ : Int} (h : 0 < aheadS s at_) (ht : tabT l = true) : namedS l s at_ = idxT (fun x => sameS x.trig ((s.drop (at_.toNat - aheadS s at_)).take (aheadS s at_))) l := by
  unfold aheadS at h ⊢
  by_cases hc : 0 ≤ at_ ∧ at_ ≤ s.length
  · rw [if_pos hc] at h ⊢
    unfold namedS
    rw [if_pos ⟨hc, ht⟩]
    congr 1
    funext x
    unfold ownT
    rw [decide_eq_true h, Bool.true_and]
  · rw [if_neg hc] at h
    omega
theorem named_no {l : List Snp} {s : List Int} {at_ : Int} (h : aheadS s at_ = 0 ∨ tabT l = false) : namedS l s at_ = -1 := by
  unfold namedS
  by_cases hc : (0 ≤ at_ ∧ at_ ≤ s.length) ∧ tabT l = true
  · rw [if_pos hc]
    rcases h with h | h
    · unfold aheadS at h
      rw [if_pos hc.1] at h
      rw [h]
      exact idxT_none fun j x _ => by simp [ownT]
    · rw [h] at hc
      exact absurd hc.2 (by simp)
  · rw [if_neg hc]
theorem aheadS_in {s : List Int} {at_ : Int} (h : 0 < aheadS s at_) : 0 ≤ at_ ∧ at_ ≤ s.length ∧ (aheadS s at_ : Int) ≤ at_ := by
  unfold aheadS at h ⊢
  by_cases hc : 0 ≤ at_ ∧ at_ ≤ s.length
  · rw [if_pos hc] at h ⊢
    have := aheadN_le s at_.toNat
    omega
  · rw [if_neg hc] at h
    omega

set_option maxRecDepth 100000 in
set_option maxHeartbeats 4000000 in
theorem rnamed_any (A S : Option Addr) (n c k d : Nat) (at_ : Int) (us : Nat → SNV) (l : List Snp) (s : List Int) (w : World) (h : Snips w A n us l) (hS : Runes w S k s) (hn : n ≤ 9223372036854775807) (hk : k ≤ d) (hd : d ≤ 9223372036854775807) :
    Calls Try.prog 40 #[.slice A n c, .slice S k d, .int .i64 at_] w fun e w' => e = .returned (.tuple #[.int .i64 (max (namedS l s at_) 0), .bool (decide (0 ≤ namedS l s at_))]) ∧ Below w.heap.size w w' := by
  have H := hide h
  have HS := hide hS
  have HSL := hide hS.len
  have HAH := hide (rahead_any S k d at_ s w hS (by omega))
  have HMT := hide (rmaytab_any A n c us l w h hn)
  have HNO := hide (@named_no l s at_)
  have HIN := hide (@aheadS_in s at_)
  have HYES := hide (@named_row l s at_)
  clear h hS
  generalize aheadS s at_ = m at HAH HNO HIN HYES
  cases hm : tabT l
  · rw [HNO.out (.inr hm)]
    rw [hm] at HMT
    clear hm
    go_enter Try.func40, Try.ntmps40
    go_wp2_with fail
    refine HAH.out.mono ?_
    rintro e w' ⟨rfl, rfl⟩
    go_wp2_with fail
    refine HMT.out.mono ?_
    rintro e w1 ⟨rfl, hb1⟩
    have HB1 := hide hb1
    clear hb1
    go_wp2_with fail
    go_ret2
    exact ⟨rfl, HB1.out⟩
  · rw [hm] at HMT
    rcases Nat.eq_zero_or_pos m with h0 | h0
    · rw [HNO.out (.inl h0)]
      have d0 : ((m : Int) == 0) = true := by simp; omega
      clear hm h0
      go_enter Try.func40, Try.ntmps40
      go_wp2_with fail
      refine HAH.out.mono ?_
      rintro e w' ⟨rfl, rfl⟩
      go_wp2_with fail
      refine HMT.out.mono ?_
      rintro e w1 ⟨rfl, hb1⟩
      have HB1 := hide hb1
      clear hb1
      go_wp2_with fail
      go_ret2
      exact ⟨rfl, HB1.out⟩
    · rw [HYES.out h0 hm]
      have hin := HIN.out h0
      rw [HSL.out] at hin
      obtain ⟨a, rfl⟩ : ∃ a : Nat, at_ = a := ⟨at_.toNat, by omega⟩
      obtain ⟨f, hf⟩ : ∃ f, a - m = f := ⟨_, rfl⟩
      have hfm : f + m ≤ k := by omega
      have d0 : ((m : Int) == 0) = false := by simp; omega
      have v1 : IntKind.i64.wrap ((a : Int) - (m : Int)) = (f : Int) := by rw [IntWalk.i64_in _ (by omega)]; omega
      have v2 : (a : Int) - (m : Int) = (f : Int) := by omega
      have f0 : (0 : Int) ≤ (f : Int) := by omega
      have hsl := run_sub_lh S k d f m (by omega)
      have hsl' : ∀ W, (Instr.slice 23 (.slice S k d) (some (.int .i64 (f : Int))) (some (.int .i64 (a : Int))) none).run Try.prog W = .ok (.slice (sub S d f) m (d - f)) W := fun W => by
        rw [show (a : Int) = (f : Int) + (m : Int) by omega]
        exact hsl W
      rw [Int.toNat_natCast, hf]
      have HMID := hide (HS.out.mid (a := f) (m := m) (c := d) hfm hk)
      generalize (s.drop f).take m = t at HMID ⊢
      have hm9 : m ≤ 9223372036854775807 := by omega
      clear hm h0 hf hsl HNO HYES HIN hin
      go_enter Try.func40, Try.ntmps40
      go_wp2_with fail
      refine HAH.out.mono ?_
      rintro e w' ⟨rfl, rfl⟩
      go_wp2_with fail
      refine HMT.out.mono ?_
      rintro e w1 ⟨rfl, hb1⟩
      have HB1 := hide hb1
      clear hb1
      go_wp2_with fail
      refine (rrow_any A (sub S d f) n c m (d - f) us l t _ (H.out.below HB1.out) (HMID.out.below HB1.out) hn hm9).mono ?_
      rintro e w2 ⟨rfl, q, rfl⟩
      go_wp2_with fail
      go_ret2
      exact ⟨rfl, below_drewN1 HB1.out q⟩

end Go.Proofs.Ytkoieceifplphaa
