/- The row whose trigger is the word ahead of a place: abbrev.Named. -/
import Derived.Test.YtkoieceifplphaaSnipG
namespace Go.Proofs.Ytkoieceifplphaa
open Go.RowKit
set_option linter.unusedVariables false

/-- Is a row's trigger the m elements ahead of a place? -/
def ownT (s : List Int) (a m : Nat) (x : Snp) : Bool := decide (0 < m) && sameS x.trig ((s.drop (a - m)).take m)
def namedS (l : List Snp) (s : List Int) (at_ : Int) : Int := if (0 ≤ at_ ∧ at_ ≤ s.length) ∧ tabT l = true then idxT (ownT s at_.toNat (aheadN s at_.toNat)) l else -1

/-- What Named's closure has captured. -/
structure Capt (w : World) (gn gs ga : Nat) (S : Option Addr) (k d a m : Nat) : Prop where
  n_ : Box w gn 3 #[.int .i64 (m : Int)]
  s_ : Box w gs 23 #[.slice S k d]
  a_ : Box w ga 3 #[.int .i64 (a : Int)]
theorem Capt.below {w w' : World} {gn gs ga : Nat} {S : Option Addr} {k d a m : Nat} (h : Capt w gn gs ga S k d a m) (hb : Below w.heap.size w w') : Capt w' gn gs ga S k d a m :=
  ⟨h.n_.below hb, h.s_.below hb, h.a_.below hb⟩

set_option maxRecDepth 100000 in
set_option maxHeartbeats 2000000 in
theorem snipOwn_any (v : SNV) (x : Snp) (gn gs ga : Nat) (S : Option Addr) (k d a m : Nat) (s : List Int) (w : World) (h : SRd w v x) (hC : Capt w gn gs ga S k d a m) (hS : Runes w S k s) (hma : m ≤ a) (hak : a ≤ k) (hk : k ≤ d) (hd : d ≤ 9223372036854775807) :
    Calls Try.prog 50 #[.agg #[.slice v.T v.n v.c, .slice v.B v.m v.d], .pointer (some ⟨gn, 0, none⟩), .pointer (some ⟨gs, 0, none⟩), .pointer (some ⟨ga, 0, none⟩)] w fun e w' => e = .returned (.bool (ownT s a m x)) ∧ Below w.heap.size w w' := by
  have hbl : Below w.heap.size w (w.alloc (.cells #[.slice v.T v.n v.c, .slice v.B v.m v.d] 36)) := (Below.refl _ _).alloc (Nat.le_refl _) _
  have hcap := h.cap
  obtain ⟨f, hf⟩ : ∃ f, a - m = f := ⟨_, rfl⟩
  have hfm : f + m ≤ k := by omega
  have HM := hide (fun W (hb : Below w.heap.size w W) => same_any v.T (sub S d f) v.n v.c m (d - f) x.trig ((s.drop f).take m) W (h.trig.below hb) ((hS.below hb).mid hfm hk) (by omega) (by omega))
  have HBL := hide hbl
  obtain ⟨⟨l0, l1⟩, _⟩ := (Box.new w 36 #[.slice v.T v.n v.c, .slice v.B v.m v.d]).c2
  obtain ⟨y0, _⟩ := (hC.n_.below hbl).c1
  obtain ⟨y1, _⟩ := (hC.s_.below hbl).c1
  obtain ⟨y2, _⟩ := (hC.a_.below hbl).c1
  have hr : ownT s a m x = (decide (0 < m) && sameS x.trig ((s.drop f).take m)) := by unfold ownT; rw [hf]
  rw [hr]
  clear hr
  generalize sameS x.trig ((s.drop f).take m) = r at HM ⊢
  have hv : IntKind.i64.wrap ((a : Int) - (m : Int)) = (f : Int) := by rw [IntWalk.i64_in _ (by omega)]; omega
  have v0 : (0 : Int) ≤ (f : Int) := by omega
  have hsl := run_sub_lh S k d f m (by omega)
  have hsl' : ∀ W, (Instr.slice 23 (.slice S k d) (some (.int .i64 (f : Int))) (some (.int .i64 (a : Int))) none).run Try.prog W = .ok (.slice (sub S d f) m (d - f)) W := fun W => by
    rw [show (a : Int) = (f : Int) + (m : Int) by omega]
    exact hsl W
  clear hsl hbl h hC hS hf
  by_cases hm0 : 0 < m
  · have d0 : decide (0 < (m : Int)) = true := by simp; omega
    have d1 : decide (0 < m) = true := by simp [hm0]
    rw [d1]
    clear hm0
    go_enter Try.func50, Try.ntmps50
    go_wp2_with fail
    go_quiet ((go_at_call 51; exact Calls.quiet_of (HM.out _ (below_drewN1 HBL.out _))))
    go_wp2_with fail
    go_ret
    exact ⟨retB (by simp), below_drewN1 HBL.out _⟩
  · have d0 : decide (0 < (m : Int)) = false := by simp; omega
    have d1 : decide (0 < m) = false := by simp [hm0]
    rw [d1]
    clear hm0
    go_enter Try.func50, Try.ntmps50
    go_wp2_with fail
    go_quiet ((go_at_call 51; exact Calls.quiet_of (HM.out _ (below_drewN1 HBL.out _))))
    go_wp2_with fail
    go_ret
    exact ⟨retB (by simp), below_drewN1 HBL.out _⟩

set_option maxRecDepth 100000 in
set_option maxHeartbeats 2000000 in
theorem indexOwn_any (A : Option Addr) (n c : Nat) (us : Nat → SNV) (l : List Snp) (gn gs ga : Nat) (S : Option Addr) (k d a m : Nat) (s : List Int) (w : World) (h : Snips w A n us l) (hn : n ≤ 9223372036854775807) (hC : Capt w gn gs ga S k d a m) (hS : Runes w S k s) (hma : m ≤ a) (hak : a ≤ k) (hk : k ≤ d) (hd : d ≤ 9223372036854775807) :
    Calls Try.prog 49 #[.slice A n c, .func (.func 50) #[] #[.pointer (some ⟨gn, 0, none⟩), .pointer (some ⟨gs, 0, none⟩), .pointer (some ⟨ga, 0, none⟩)]] w fun e w' => e = .returned (.int .i64 (idxT (ownT s a m) l)) ∧ Below w.heap.size w w' := by
  have H := hide h
  have HL := hide h.len
  have HCP := hide hC
  have HS0 := hide hS
  have eg := Try.call50
  clear h hC hS
  go_enter Try.func49, Try.ntmps49
  go_wp2_with fail
  go_loopw [5, 8] (fun _ i wx => ∃ k : Nat, k ≤ n ∧ i = .int .i64 k ∧ Below w.heap.size w wx ∧ Hid (∀ (j : Nat) (x : Snp), j < k → l[j]? = some x → ownT s a m x = false)) (fun _ i _ => n - (intOf i).toNat)
  case atStart => exact ⟨0, Nat.zero_le _, rfl, Below.refl _ _, fun j x hj => absurd hj (by omega)⟩
  case round =>
    obtain ⟨z, hz, rfl, hbel, hj⟩ := hrel
    have HW := hide hbel
    have H1 := hide (H.out.below hbel)
    have HC1 := hide (HCP.out.below hbel)
    have HS1 := hide (HS0.out.below hbel)
    clear hbel
    by_cases hlt : z < n
    · obtain ⟨ab, ao, rfl, c0, c1⟩ := H1.out.at_ z hlt
      obtain ⟨x, hx, hr⟩ := H1.out.rd z hlt
      have HX := hide hx
      have HR := hide hr
      clear hx hr
      cases hs : ownT s a m x
      · have HS := hide hs
        clear hs
        go_wp2_with fail
        refine (snipOwn_any (us z) x gn gs ga S k d a m s _ HR.out HC1.out HS1.out hma hak hk hd).mono ?_
        rw [HS.out]
        rintro e w1 ⟨rfl, hb1⟩
        have HB1 := hide (HW.out.trans (hb1.mono HW.out.size))
        clear hb1 c0 c1
        go_wp2
        go_round
        case rel => exact ⟨z + 1, by omega, by go_num, HB1.out, fun j y h' hy => (by
          rcases Nat.lt_succ_iff_lt_or_eq.1 h' with h1 | h1
          · exact hj.out j y h1 hy
          · subst h1
            rw [HX.out] at hy
            rw [← Option.some.inj hy]; exact HS.out)⟩
        case measure => simp [intOf]; omega
      · have HS := hide hs
        clear hs
        go_wp2_with fail
        refine (snipOwn_any (us z) x gn gs ga S k d a m s _ HR.out HC1.out HS1.out hma hak hk hd).mono ?_
        rw [HS.out]
        rintro e w1 ⟨rfl, hb1⟩
        have HB1 := hide (HW.out.trans (hb1.mono HW.out.size))
        clear hb1 c0 c1
        go_wp2
        go_ret
        exact ⟨retI (idxT_some HX.out HS.out fun j y hj' hy => hj.out j y hj' hy).symm, HB1.out⟩
    · have hk' : z = n := by omega
      go_wp2_with fail
      go_ret
      exact ⟨retI (idxT_none fun j y hy => hj.out j y (by have := (List.getElem?_eq_some_iff.1 hy).1; rw [HL.out] at this; omega) hy).symm, HW.out⟩

theorem retIB {a b : Int} {p q : Bool} (h : a = b) (k : p = q) : Ending.returned (.tuple #[.int .i64 a, .bool p]) = .returned (.tuple #[.int .i64 b, .bool q]) := by rw [h, k]
theorem idxT_lo (p : Snp → Bool) (l : List Snp) : -1 ≤ idxT p l := by
  unfold idxT
  split <;> omega

set_option maxRecDepth 100000 in
set_option maxHeartbeats 4000000 in
theorem anamed_any (A S : Option Addr) (n c k d : Nat) (at_ : Int) (us : Nat → SNV) (l : List Snp) (s : List Int) (w : World) (h : Snips w A n us l) (hS : Runes w S k s) (hn : n ≤ 9223372036854775807) (hk : k ≤ d) (hd : d ≤ 9223372036854775807) :
    Calls Try.prog 21 #[.slice A n c, .slice S k d, .int .i64 at_] w fun e w' => e = .returned (.tuple #[.int .i64 (max (namedS l s at_) 0), .bool (decide (0 ≤ namedS l s at_))]) ∧ Below w.heap.size w w' := by
  have H := hide h
  have HS := hide hS
  have HLS := hide hS.len
  have hno : ¬ ((0 ≤ at_ ∧ at_ ≤ (k : Int)) ∧ tabT l = true) → namedS l s at_ = -1 := fun hc => by unfold namedS; rw [HLS.out, if_neg hc]
  have hb0 : Below w.heap.size w ((w.alloc (.cells #[.slice S k d] 23)).alloc (.cells #[.int .i64 at_] 3)) := ((Below.refl _ _).alloc (Nat.le_refl _) _).alloc (by simp) _
  have HB0 := hide hb0
  have HX1 := hide ((Box.new w 23 #[.slice S k d]).alloc (.cells #[.int .i64 at_] 3))
  have HX2 := hide (Box.newAt (w := w.alloc (.cells #[.slice S k d] 23)) (g := w.heap.size + 1) (by simp) 3 #[.int .i64 at_])
  obtain ⟨y1, _⟩ := HX1.out.c1
  obtain ⟨y2, _⟩ := HX2.out.c1
  clear h hS hb0
  by_cases h0 : at_ < 0
  · rw [hno (by omega)]
    clear hno
    go_enter Try.func21, Try.ntmps21
    go_wp2_with fail
    go_ret2
    exact ⟨rfl, HB0.out⟩
  by_cases h1 : (k : Int) < at_
  · rw [hno (by omega)]
    clear hno
    go_enter Try.func21, Try.ntmps21
    go_wp2_with fail
    go_ret2
    exact ⟨rfl, HB0.out⟩
  obtain ⟨a, rfl⟩ : ∃ a : Nat, at_ = a := ⟨at_.toNat, by omega⟩
  have hak : a ≤ k := by omega
  have HMT := hide (amay_any A n c us l _ (H.out.below HB0.out) hn)
  cases hm : tabT l
  · rw [hno (by rw [hm]; simp)]
    rw [hm] at HMT
    clear hno hm
    go_enter Try.func21, Try.ntmps21
    go_wp2_with fail
    refine HMT.out.mono ?_
    rintro e w1 ⟨rfl, hb1⟩
    have HB1 := hide (HB0.out.trans (hb1.mono HB0.out.size))
    go_wp2_with fail
    go_ret2
    exact ⟨rfl, HB1.out⟩
  · have hyes : namedS l s (a : Int) = idxT (ownT s a (aheadN s a)) l := by unfold namedS; rw [HLS.out, if_pos ⟨by omega, hm⟩]; rfl
    have HLO := hide (idxT_lo (ownT s a (aheadN s a)) l)
    have HAH := hide (fun W (hb : Below w.heap.size w W) => ahead_any S k d a s W (HS.out.below hb) (by omega))
    have hae : aheadS s (a : Int) = aheadN s a := by unfold aheadS; rw [HLS.out, if_pos (by omega)]; rfl
    have hna := aheadN_le s a
    rw [hyes]
    rw [hm] at HMT
    rw [hae] at HAH
    clear hno hm hyes hae
    generalize aheadN s a = m at hna HLO HAH ⊢
    generalize hI : idxT (ownT s a m) l = i at HLO ⊢
    have HI := hide hI
    clear hI
    go_enter Try.func21, Try.ntmps21
    go_wp2_with fail
    refine HMT.out.mono ?_
    rintro e w1 ⟨rfl, hb1⟩
    have HX1' := hide (HX1.out.below hb1)
    have HX2' := hide (HX2.out.below hb1)
    have HB1 := hide (HB0.out.trans (hb1.mono HB0.out.size))
    obtain ⟨y1, _⟩ := HX1'.out.c1
    obtain ⟨y2, _⟩ := HX2'.out.c1
    clear hb1 HMT
    go_wp2_with fail
    refine (HAH.out _ HB1.out).mono ?_
    rintro e w' ⟨rfl, rfl⟩
    clear HAH
    obtain ⟨g, hg⟩ : ∃ g, w1.heap.size = g := ⟨_, rfl⟩
    have HX3 := hide (Box.newAt hg 3 #[.int .i64 (m : Int)])
    have HB2 := hide (HB1.out.alloc HB1.out.size (.cells #[.int .i64 (m : Int)] 3))
    have HC := hide (Capt.mk HX3.out (HX1'.out.alloc _) (HX2'.out.alloc _))
    have HH := hide (H.out.below HB2.out)
    have HHS := hide (HS.out.below HB2.out)
    clear HX1 HX2 HX1' HX2' HX3 HB0 HB1 y1 y2
    go_wp2_with fail
    refine (indexOwn_any A n c us l g w.heap.size (w.heap.size + 1) S k d a m s _ HH.out hn HC.out HHS.out hna hak hk hd).mono ?_
    rw [HI.out]
    have hlo := HLO.out
    rintro e w2 ⟨rfl, hb2⟩
    have HB3 := hide (HB2.out.trans (hb2.mono HB2.out.size))
    clear hb2 HB2 HC HH HHS
    by_cases hz : 0 ≤ i
    · have hd0 : decide (0 ≤ i) = true := by simp [hz]
      have hd1 : decide (i < 0) = false := by simp [hz]
      go_wp2_with fail
      go_ret2
      exact ⟨retIB (by omega) (by simp [hz]), HB3.out⟩
    · have hd0 : decide (0 ≤ i) = false := by simp; omega
      have hd1 : decide (i < 0) = true := by simp; omega
      go_wp2_with fail
      go_ret2
      exact ⟨retIB (by omega) (by simp; omega), HB3.out⟩
end Go.Proofs.Ytkoieceifplphaa
