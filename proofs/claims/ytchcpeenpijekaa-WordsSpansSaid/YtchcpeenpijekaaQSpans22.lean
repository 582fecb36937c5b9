/- The walk of standishlaw22.WordsSpans: it answers true. -/
import Derived.Test.YtchcpeenpijekaaQ33
namespace Go.Proofs.Ytchcpeenpijekaa
open Go.RowKit
set_option linter.unusedVariables false

/-- Is a word's element at a place? -/
def wrdAt (s : List Int) (i : Int) : Bool := decide (0 ≤ i ∧ i < s.length) && wrdS (nth s i.toNat)
set_option maxHeartbeats 1000000 in
theorem word22_any (S : Option Addr) (n d : Nat) (s : List Int) (i : Int) (w : World) (h : Runes w S n s) (hn : n ≤ 1000000) :
    Calls Try.prog 41 #[.slice S n d, .int .i64 i] w fun e w' => e = .returned (.bool (wrdAt s i)) ∧ w = w' := by
  have hl := h.len
  by_cases h0 : i < 0
  · have HE := hide (show wrdAt s i = false from by unfold wrdAt; rw [decide_eq_false (by omega), Bool.false_and])
    have d0 : ¬ (0 : Int) ≤ i := by omega
    have d1 : decide ((0 : Int) ≤ i) = false := by simp; omega
    clear h hl
    go_enter Try.func41, Try.ntmps41
    go_wp2_with fail
    go_ret
    exact ⟨by rw [HE.out]; rfl, rfl⟩
  · obtain ⟨j, rfl⟩ := Int.eq_ofNat_of_zero_le (show 0 ≤ i by omega)
    clear h0
    have j0 : (0 : Int) ≤ (j : Int) := by omega
    by_cases h1 : j < n
    · obtain ⟨b, o, rfl, hc⟩ := h.at_ j h1
      have HE := hide (show wrdAt s (j : Int) = wrdS (nth s j) from by unfold wrdAt; rw [decide_eq_true (by omega), Bool.true_and]; rfl)
      have j1 : (j : Int) < (n : Int) := by omega
      clear h hl
      generalize nth s j = r at hc HE
      go_enter Try.func41, Try.ntmps41
      go_wp2_with (go_at_call 64; (with_reducible refine (rclass_any _ _).mono ?_); rintro e w5 ⟨rfl, rfl⟩)
      go_ret
      exact ⟨retB (by rw [HE.out]; unfold wrdS; by_cases h : clsS r = 3 <;> simp [h]), rfl⟩
    · have HE := hide (show wrdAt s (j : Int) = false from by unfold wrdAt; rw [decide_eq_false (by omega), Bool.false_and])
      have d1 : decide ((j : Int) < (n : Int)) = false := by simp; omega
      clear h hl
      go_enter Try.func41, Try.ntmps41
      go_wp2_with fail
      go_ret
      exact ⟨by rw [HE.out]; rfl, rfl⟩
theorem wrdAt_in {s : List Int} {j : Nat} (h : j < s.length) : wrdAt s (j : Int) = wrdS (nth s j) := by unfold wrdAt; rw [decide_eq_true (by omega), Bool.true_and]; rfl
theorem wrdAt_out {s : List Int} {i : Int} (h : ¬ (0 ≤ i ∧ i < s.length)) : wrdAt s i = false := by unfold wrdAt; rw [decide_eq_false h, Bool.false_and]

def sumP (L : List (Nat × Nat)) : Nat := (L.map fun p => p.2 - p.1).sum
theorem sum_spG : ∀ (l : List Int) (i : Nat), sumP (spG i none l) = l.countP wrdS ∧ ∀ f, f ≤ i → sumP (spG i (some f) l) = i - f + l.countP wrdS
  | [], i => ⟨rfl, fun f hf => by simp [spG, sumP]⟩
  | x :: r, i => by
    obtain ⟨h1, h2⟩ := sum_spG r (i + 1)
    by_cases hw : wrdS x = true
    · rw [List.countP_cons_of_pos hw]
      refine ⟨?_, fun f hf => ?_⟩
      · show sumP (if wrdS x = true then _ else _) = _
        rw [if_pos hw, h2 i (by omega)]
        omega
      · show sumP (if wrdS x = true then _ else _) = _
        rw [if_pos hw, h2 f (by omega)]
        omega
    · rw [List.countP_cons_of_neg hw]
      refine ⟨?_, fun f hf => ?_⟩
      · show sumP (if wrdS x = true then _ else _) = _
        rw [if_neg hw, h1]
      · show sumP (if wrdS x = true then _ else _) = _
        rw [if_neg hw]
        show (i - f) + sumP (spG (i + 1) none r) = _
        rw [h1]
theorem sum_spans (s : List Int) : sumP (spansS s) = s.countP wrdS := (sum_spG s 0).1
theorem sum_next {L : List (Nat × Nat)} {i : Nat} {p : Nat × Nat} (h : L[i]? = some p) : sumP (L.take (i + 1)) = sumP (L.take i) + (p.2 - p.1) := by
  obtain ⟨hi, rfl⟩ := List.getElem?_eq_some_iff.1 h
  unfold sumP
  rw [List.take_succ_eq_append_getElem hi, List.map_append, List.sum_append]
  simp
theorem sum_take_le (L : List (Nat × Nat)) (i : Nat) : sumP (L.take i) ≤ sumP L := by
  have h := congrArg sumP (List.take_append_drop i L)
  unfold sumP at h ⊢
  rw [List.map_append, List.sum_append] at h
  omega
theorem cnt_next {s : List Int} {i : Nat} (h : i < s.length) : (s.take (i + 1)).countP wrdS = (s.take i).countP wrdS + if wrdS (nth s i) = true then 1 else 0 := by
  rw [List.take_succ_eq_append_getElem h, List.countP_append, List.countP_singleton, nth_eq h]
theorem cnt_take_le (s : List Int) (i : Nat) : (s.take i).countP wrdS ≤ s.countP wrdS := (List.take_sublist i s).countP_le
/-- Is the touched one among these? -/
def tchd (o : Option (Nat × Nat)) (l : List (Nat × Nat)) : Bool := match o with | some p => decide (p ∈ l) | none => false
theorem tchd_nil (o : Option (Nat × Nat)) : tchd o [] = false := by cases o <;> simp [tchd]
theorem tchd_next {o : Option (Nat × Nat)} {L : List (Nat × Nat)} {i : Nat} {p : Nat × Nat} (h : L[i]? = some p) (hne : o ≠ some p) : tchd o (L.take (i + 1)) = tchd o (L.take i) := by
  obtain ⟨hi, rfl⟩ := List.getElem?_eq_some_iff.1 h
  cases o with
  | none => rfl
  | some q =>
    unfold tchd
    rw [decide_eq_decide, List.take_succ_eq_append_getElem hi, List.mem_append, List.mem_singleton]
    constructor
    · rintro (h1 | h1)
      · exact h1
      · exact absurd (by rw [h1]) hne
    · exact .inl
theorem tchd_here {L : List (Nat × Nat)} {i : Nat} {p : Nat × Nat} (h : L[i]? = some p) : tchd (some p) (L.take (i + 1)) = true := by
  obtain ⟨hi, rfl⟩ := List.getElem?_eq_some_iff.1 h
  have h1 : L[i] ∈ L.take (i + 1) := by
    rw [List.take_succ_eq_append_getElem hi]
    exact List.mem_append_right _ (List.mem_singleton.2 rfl)
  exact decide_eq_true h1
theorem touch_mem {L : List (Nat × Nat)} {a : Int} {p : Nat × Nat} (h : touchL L a = some p) : p ∈ L ∧ (p.1 : Int) ≤ a ∧ a ≤ p.2 := by
  have h1 := List.mem_of_find?_eq_some h
  have h2 := List.find?_some h
  simp at h2
  exact ⟨h1, h2⟩
theorem touch_uniq {s : List Int} {a : Int} {p : Nat × Nat} (hp : p ∈ spansS s) (h1 : (p.1 : Int) ≤ a) (h2 : a ≤ (p.2 : Int)) : touchL (spansS s) a = some p := by
  cases ho : touchL (spansS s) a with
  | none =>
    unfold touchL at ho
    rw [List.find?_eq_none] at ho
    exact absurd (by simp; exact ⟨h1, h2⟩) (ho p hp)
  | some q =>
    obtain ⟨hq, h3, h4⟩ := touch_mem ho
    obtain ⟨i, hi⟩ := List.getElem?_of_mem hp
    obtain ⟨j, hj⟩ := List.getElem?_of_mem hq
    obtain ⟨hi1, hi2⟩ := List.getElem?_eq_some_iff.1 hi
    obtain ⟨hj1, hj2⟩ := List.getElem?_eq_some_iff.1 hj
    have hasc := List.pairwise_iff_getElem.1 (spans_ok s).asc
    rcases Nat.lt_trichotomy i j with h | h | h
    · have := hasc i j hi1 hj1 h
      rw [hi2, hj2] at this
      omega
    · subst h
      rw [← hi2, ← hj2]
    · have := hasc j i hj1 hi1 h
      rw [hi2, hj2] at this
      omega
theorem tchd_all {L : List (Nat × Nat)} {a : Int} : tchd (touchL L a) L = (touchL L a).isSome := by
  cases ho : touchL L a with
  | none => rfl
  | some p => exact decide_eq_true (touch_mem ho).1
theorem touch_iff {s : List Int} {k : Nat} (hk : k ≤ s.length) : (touchL (spansS s) (k : Int)).isSome = (wrdAt s (k : Int) || wrdAt s ((k : Int) - 1)) := by
  have hok := spans_ok s
  cases ho : touchL (spansS s) (k : Int) with
  | some p =>
    obtain ⟨hp, h1, h2⟩ := touch_mem ho
    have hw := (hok.word p hp).1
    have hlt := hw.lt
    have hle := hw.le
    by_cases e : k < p.2
    · rw [wrdAt_in (show k < s.length by omega), hw.in_ k (by omega) e]
      rfl
    · have e2 : k - 1 < s.length := by omega
      have e3 : ((k : Int) - 1) = ((k - 1 : Nat) : Int) := by omega
      rw [e3, wrdAt_in e2, hw.in_ (k - 1) (by omega) (by omega), Bool.or_true]
      rfl
  | none =>
    unfold touchL at ho
    rw [List.find?_eq_none] at ho
    have h1 : wrdAt s (k : Int) = false := by
      by_cases e : k < s.length
      · rw [wrdAt_in e]
        cases hw : wrdS (nth s k)
        · rfl
        · obtain ⟨p, hp, h1, h2⟩ := hok.all k (Nat.zero_le _) e hw
          exact absurd (by simp; omega) (ho p hp)
      · exact wrdAt_out (by omega)
    have h2 : wrdAt s ((k : Int) - 1) = false := by
      by_cases e : 0 < k
      · have e3 : ((k : Int) - 1) = ((k - 1 : Nat) : Int) := by omega
        rw [e3, wrdAt_in (by omega)]
        cases hw : wrdS (nth s (k - 1))
        · rfl
        · obtain ⟨p, hp, h1, h2⟩ := hok.all (k - 1) (Nat.zero_le _) (by omega) hw
          exact absurd (by simp; omega) (ho p hp)
      · exact wrdAt_out (by omega)
    rw [h1, h2]
    rfl

set_option maxRecDepth 100000 in
set_option maxHeartbeats 4000000 in
theorem spans22_any (S : Option Addr) (n d : Nat) (s : List Int) (at_ : Int) (w : World) (hS : Runes w S n s) (hd : n ≤ d) (hdm : d ≤ 9223372036854775807) :
    Calls Try.prog 10 #[.slice S n d, .int .i64 at_] w fun e w' => e = .returned (.bool true) ∧ Below w.heap.size w w' := by
  have HC := hide (cut_any S n d 200 w hd hdm (by omega))
  obtain ⟨n2, hn2⟩ : ∃ n2, min n 200 = n2 := ⟨_, rfl⟩
  rw [hn2] at HC
  have hn3 : n2 ≤ n := by omega
  have hn4 : n2 ≤ 200 := by omega
  obtain ⟨s2, hs2⟩ : ∃ s2, s.take n2 = s2 := ⟨_, rfl⟩
  have HS := hide (show Runes w S n2 s2 from by rw [← hs2]; exact hS.take hn3)
  have HLN := hide HS.out.len
  have hd2 : n2 ≤ d := by omega
  obtain ⟨k, hk, hidx⟩ : ∃ k, k ≤ n2 ∧ Calls Try.prog 27 #[.int .i64 at_, .int .i64 ((n2 : Int) + 1)] w fun e w' => e = .returned (.int .i64 (k : Nat)) ∧ w = w' := by
    refine ⟨idxN at_ ((n2 : Int) + 1).toNat, ?_, index_any at_ ((n2 : Int) + 1) w (by omega) (by omega)⟩
    have := idxN_lt (k := at_) (n := ((n2 : Int) + 1).toNat) (by omega)
    omega
  have HIX := hide hidx
  obtain ⟨o, ho⟩ : ∃ o, touchL (spansS s2) (k : Int) = o := ⟨_, rfl⟩
  obtain ⟨X1, hX1⟩ : ∃ X1, tfst o = X1 := ⟨_, rfl⟩
  obtain ⟨X2, hX2⟩ : ∃ X2, tsnd o = X2 := ⟨_, rfl⟩
  obtain ⟨ok, hok⟩ : ∃ ok, o.isSome = ok := ⟨_, rfl⟩
  have hto := touched_any S n2 d s2 k w HS.out (by omega) o ho
  unfold TouchQ at hto
  rw [hX1, hX2, hok] at hto
  have HTO := hide hto
  have HO := hide ho
  have HOX := hide (And.intro hX1 (And.intro hX2 hok))
  clear hn2 hs2 hS hidx hto ho hX1 hX2 hok
  go_enter Try.func10, Try.ntmps10
  go_upto_region 5 with (first
    | (go_at_call 32; refine HC.out.mono ?_; rintro e w5 ⟨rfl, rfl⟩)
    | (go_at_call 27; (with_reducible refine HIX.out.mono ?_); rintro e w5 ⟨rfl, rfl⟩)
    | (go_at_call 39; (with_reducible refine HTO.out.mono ?_); rintro e w1 ⟨rfl, hb1⟩))
  obtain ⟨ga, hga⟩ : ∃ ga, w1.heap.size = ga := ⟨_, rfl⟩
  have hba := (Below.refl w1.heap.size w1).alloc (Nat.le_refl _) (.cells #[.int .i64 (X1 : Nat), .int .i64 (X2 : Nat)] 61)
  have HA := hide (Box.newAt hga 61 #[.int .i64 (X1 : Nat), .int .i64 (X2 : Nat)])
  have HB := hide (hb1.trans (hba.mono hb1.size))
  rw [hga]
  clear hb1 hba hga HC HIX HTO
  generalize w1.alloc (.cells #[.int .i64 (X1 : Nat), .int .i64 (X2 : Nat)] 61) = W1 at HA HB ⊢
  go_upto_region 7 with (go_at_call 34; (with_reducible refine (spans_any S n2 d s2 _ (HS.out.below HB.out) (by omega)).mono ?_); rintro e w2 ⟨A2, m2, d2, rfl, hO2, hb2⟩)
  have HSP := hide hO2
  have HSL := hide (show (spansS s2).length = m2 from SpO.len hO2)
  have HA2 := hide (HA.out.below hb2)
  have HB2 := hide (HB.out.trans (hb2.mono HB.out.size))
  have hm2 : m2 ≤ 200 := by have h1 := spans_len (s := s2); have h2 := HSL.out; have h3 := HLN.out; omega
  have htot : sumP (spansS s2) ≤ 200 := by
    rw [sum_spans]
    have h1 := List.countP_le_length (p := wrdS) (l := s2)
    have h3 := HLN.out
    omega
  have HTOT := hide htot
  clear hO2 hb2 HA HB htot
  go_wp2_with fail
  go_loopw [5, 6, 10, 31] (fun s5 s6 s10 s31 wx => ∃ (i : Nat) (E : Int) (T : Bool) (a : Nat), i ≤ m2 ∧ s31 = .int .i64 i ∧ s5 = .int .i64 a ∧ a ≤ 200 ∧ s6 = .int .i64 E ∧ -1 ≤ E ∧ E ≤ 200 ∧ s10 = .bool T ∧ Hid (a = sumP ((spansS s2).take i)) ∧ Hid (∀ p, (spansS s2)[i]? = some p → E < (p.1 : Int)) ∧ Hid (T = tchd o ((spansS s2).take i)) ∧ Hid (Below w2.heap.size w2 wx)) (fun _ _ _ s31 _ => m2 - (intOf s31).toNat)
  case atStart => exact ⟨0, -1, false, 0, Nat.zero_le _, rfl, rfl, by omega, rfl, by omega, by omega, rfl, by rw [List.take_zero]; rfl, (fun p _ => by omega), (by rw [List.take_zero]; exact (tchd_nil _).symm), Below.refl _ _⟩
  case round =>
    obtain ⟨i, E, T, a, hi, rfl, rfl, ha, rfl, hE1, hE2, rfl, HA3, HE, HT, HBX⟩ := hrel
    by_cases hlt : i < m2
    · obtain ⟨p, hp⟩ : ∃ p, (spansS s2)[i]? = some p := ⟨_, List.getElem?_eq_getElem (by rw [HSL.out]; exact hlt)⟩
      obtain ⟨g, rfl, c0, c1⟩ := SpO.at_ (RowG.below HSP.out HBX.out) hp
      have hpm := List.mem_of_getElem? hp
      have hw := ((spans_ok s2).word p hpm).1
      have hln := HLN.out
      have hp1 : p.1 < p.2 := hw.lt
      have hp2 : p.2 ≤ n2 := by have := hw.le; omega
      have hEp : E < (p.1 : Int) := HE.out p hp
      have i0 : (0 : Int) ≤ (i : Int) := by omega
      have i1 : (i : Int) < (m2 : Int) := by omega
      obtain ⟨xb, hxb⟩ : ∃ xb, wr.heap.size = xb := ⟨_, rfl⟩
      have HXB := hide (Box.newAt hxb 61 #[.int .i64 (p.1 : Nat), .int .i64 (p.2 : Nat)])
      have HB3 := hide (HBX.out.alloc HBX.out.size (.cells #[.int .i64 (p.1 : Nat), .int .i64 (p.2 : Nat)] 61))
      have hsn := sum_next hp
      have hst := sum_take_le (spansS s2) (i + 1)
      have htt := HTOT.out
      have hA3 := HA3.out
      have HSN := hide (show a + (p.2 - p.1) = sumP ((spansS s2).take (i + 1)) from by omega)
      have ha2 : a + (p.2 - p.1) ≤ 200 := by omega
      have HEN := hide (show ∀ q, (spansS s2)[i + 1]? = some q → (p.2 : Int) < (q.1 : Int) from fun q hq => by
        obtain ⟨h1, h2⟩ := List.getElem?_eq_some_iff.1 hp
        obtain ⟨h3, h4⟩ := List.getElem?_eq_some_iff.1 hq
        have := List.pairwise_iff_getElem.1 (spans_ok s2).asc i (i + 1) h1 h3 (by omega)
        rw [h2, h4] at this
        omega)
      have hl1 : wrdAt s2 ((p.1 : Int) - 1) = false := by
        by_cases e : 0 < p.1
        · rw [show ((p.1 : Int) - 1) = ((p.1 - 1 : Nat) : Int) by omega, wrdAt_in (by omega)]
          exact hw.lo e
        · exact wrdAt_out (by omega)
      have hl2 : wrdAt s2 (p.2 : Int) = false := by
        by_cases e : p.2 < s2.length
        · rw [wrdAt_in e]
          exact hw.hi e
        · exact wrdAt_out (by omega)
      have HIN := hide (show ∀ j, p.1 ≤ j → j < p.2 → wrdAt s2 (j : Int) = true from fun j h1 h2 => by
        rw [wrdAt_in (by omega)]
        exact hw.in_ j h1 h2)
      have HTU := hide (fun (h1 : (p.1 : Int) ≤ (k : Int)) (h2 : (k : Int) ≤ (p.2 : Int)) => (touch_uniq hpm h1 h2).symm.trans HO.out)
      have HTN := hide (fun (h : ¬ ((p.1 : Int) ≤ (k : Int) ∧ (k : Int) ≤ (p.2 : Int))) => tchd_next (o := o) hp (fun e => h (touch_mem (HO.out.trans e)).2))
      have HTH := hide (tchd_here hp)
      clear hp hpm hw hln hsn hst htt hA3 HBX HA3 HE
      go_upto_region 9 with fail
      generalize wr.alloc (.cells #[.int .i64 (p.1 : Nat), .int .i64 (p.2 : Nat)] 61) = W5 at HXB HB3 ⊢
      clear c0 c1 hxb
      have HR5 := hide ((HS.out.below HB2.out).below HB3.out)
      have h1 := word22_any S n2 d s2 ((p.1 : Int) - 1) W5 HR5.out (by omega)
      have h2 := word22_any S n2 d s2 (p.2 : Int) W5 HR5.out (by omega)
      rw [hl1] at h1
      rw [hl2] at h2
      have HW1 := hide h1
      have HW2 := hide h2
      clear h1 h2 hl1 hl2
      obtain ⟨⟨x0, x1⟩, -⟩ := HXB.out.c2
      obtain ⟨⟨o0, o1⟩, -⟩ := (HA2.out.below HB3.out).c2
      obtain ⟨y1, y2⟩ := p
      dsimp only at *
      have b1 : ¬ ((y1 : Int) ≤ E) := by omega
      have b2 : ¬ y2 ≤ y1 := by omega
      have b3 : ¬ n2 < y2 := by omega
      have b4 : decide ((y1 : Int) ≤ E) = false := by simp; omega
      have b5 : decide (y2 ≤ y1) = false := by simp; omega
      have b6 : decide (n2 < y2) = false := by simp; omega
      have b7 : (0 : Int) ≤ (y1 : Int) := by omega
      go_upto_region 11 with (first
        | (go_at_call 41; (with_reducible refine HW1.out.mono ?_); rintro e w6 ⟨rfl, rfl⟩)
        | (go_at_call 41; (with_reducible refine HW2.out.mono ?_); rintro e w6 ⟨rfl, rfl⟩))
      clear HW1 HW2 b1 b4
      go_wp2_with fail
      go_loop [13] (fun s13 => ∃ j : Nat, y1 ≤ j ∧ j ≤ y2 ∧ s13 = .int .i64 j) (fun s13 => y2 - (intOf s13).toNat)
      case atStart => exact ⟨y1, Nat.le_refl _, by omega, rfl⟩
      case round =>
        obtain ⟨j, hj1, hj2, rfl⟩ := hrel
        by_cases hjl : j < y2
        · have h1 := word22_any S n2 d s2 (j : Int) W5 HR5.out (by omega)
          rw [HIN.out j hj1 hjl] at h1
          have HWJ := hide h1
          clear h1
          go_wp2_with (go_at_call 41; (with_reducible refine HWJ.out.mono ?_); rintro e w6 ⟨rfl, rfl⟩)
          go_round
          case rel => exact ⟨j + 1, by omega, by omega, by go_num⟩
          case measure => simp [intOf]; omega
        · go_upto_region 16 with fail
          have v1 : IntKind.i64.wrap ((a : Int) + (y2 : Int)) = (a : Int) + (y2 : Int) := IntWalk.i64_in _ (by omega)
          have v2 : IntKind.i64.wrap ((a : Int) + (y2 : Int) - (y1 : Int)) = ((a + (y2 - y1) : Nat) : Int) := by rw [IntWalk.i64_in _ (by omega)]; omega
          have v3 : (a : Int) + (y2 : Int) - (y1 : Int) = ((a + (y2 - y1) : Nat) : Int) := by omega
          go_big_quiet (fail)
          clear v1 v2 v3
          have HBQ := hide (HB3.out.trans ((lt_drewN W5 nq).mono HB3.out.size))
          by_cases c1 : y1 ≤ k
          · by_cases c2 : k ≤ y2
            · have ho := HTU.out (by omega) (by omega)
              obtain rfl : X1 = y1 := by rw [← HOX.out.1, ← ho]; rfl
              obtain rfl : X2 = y2 := by rw [← HOX.out.2.1, ← ho]; rfl
              obtain rfl : ok = true := by rw [← HOX.out.2.2, ← ho]; rfl
              have HTT := hide (show true = tchd o ((spansS s2).take (i + 1)) from by rw [← ho]; exact HTH.out.symm)
              clear ho HTU HTN HTH
              cases T
              all_goals
                go_wp2_with fail
                go_roundw
                case rel => exact ⟨i + 1, (X2 : Int), true, a + (X2 - X1), by omega, by go_num, rfl, ha2, rfl, by omega, by omega, rfl, HSN.out, HEN.out, HTT.out, HBQ.out⟩
                case measure => simp [intOf]; omega
            · have HTT := hide (show T = tchd o ((spansS s2).take (i + 1)) from by rw [HTN.out (by omega), HT.out])
              have c3 : decide (k ≤ y2) = false := by simp; omega
              clear HTU HTN HTH
              go_wp2_with fail
              go_roundw
              case rel => exact ⟨i + 1, (y2 : Int), T, a + (y2 - y1), by omega, by go_num, rfl, ha2, rfl, by omega, by omega, rfl, HSN.out, HEN.out, HTT.out, HBQ.out⟩
              case measure => simp [intOf]; omega
          · have HTT := hide (show T = tchd o ((spansS s2).take (i + 1)) from by rw [HTN.out (by omega), HT.out])
            have c3 : decide (y1 ≤ k) = false := by simp; omega
            clear HTU HTN HTH
            go_wp2_with fail
            go_roundw
            case rel => exact ⟨i + 1, (y2 : Int), T, a + (y2 - y1), by omega, by go_num, rfl, ha2, rfl, by omega, by omega, rfl, HSN.out, HEN.out, HTT.out, HBQ.out⟩
            case measure => simp [intOf]; omega
    · obtain rfl : i = m2 := by omega
      have hall : (spansS s2).take i = spansS s2 := List.take_of_length_le (by rw [HSL.out]; exact Nat.le_refl _)
      have HTT := hide (show T = ok from by rw [HT.out, hall, ← HOX.out.2.2, ← HO.out]; exact tchd_all)
      have HAC := hide (show a = s2.countP wrdS from by rw [HA3.out, hall, sum_spans])
      have HR6 := hide ((HS.out.below HB2.out).below HBX.out)
      have HKO := hide (show ok = (wrdAt s2 (k : Int) || wrdAt s2 ((k : Int) - 1)) from by
        rw [← HOX.out.2.2, ← HO.out]
        exact touch_iff (by rw [HLN.out]; exact hk))
      clear hall HT HA3 HE
      go_wp2_with fail
      go_loop [5, 14, 109] (fun s5 _ s109 => ∃ (j b : Nat), j ≤ n2 ∧ s109 = .int .i64 j ∧ b ≤ 200 ∧ s5 = .int .i64 b ∧ Hid (b + (s2.take j).countP wrdS = s2.countP wrdS)) (fun _ _ s109 => n2 - (intOf s109).toNat)
      case atStart => exact ⟨0, a, Nat.zero_le _, rfl, ha, rfl, (show a + (s2.take 0).countP wrdS = s2.countP wrdS from by rw [List.take_zero]; have := HAC.out; simpa using this)⟩
      case round =>
        obtain ⟨j, b, hj, rfl, hb, rfl, HBB⟩ := hrel
        by_cases hjl : j < n2
        · have h1 := word22_any S n2 d s2 (j : Int) wr HR6.out (by omega)
          rw [wrdAt_in (by rw [HLN.out]; exact hjl)] at h1
          have hcn := cnt_next (s := s2) (i := j) (by rw [HLN.out]; exact hjl)
          have hcl := cnt_take_le s2 (j + 1)
          have hbb := HBB.out
          cases hz : wrdS (nth s2 j)
          · rw [hz] at h1 hcn
            have HWJ := hide h1
            have HBN := hide (show b + (s2.take (j + 1)).countP wrdS = s2.countP wrdS from by rw [if_neg (by decide)] at hcn; omega)
            clear h1 hcn hcl hbb hz HBB
            go_wp2_with (go_at_call 41; (with_reducible refine HWJ.out.mono ?_); rintro e w6 ⟨rfl, rfl⟩)
            go_round
            case rel => exact ⟨j + 1, b, by omega, by go_num, hb, rfl, HBN.out⟩
            case measure => simp [intOf]; omega
          · rw [hz] at h1 hcn
            have HWJ := hide h1
            rw [if_pos rfl] at hcn
            have hb0 : 0 < b := by omega
            have HBN := hide (show (b - 1) + (s2.take (j + 1)).countP wrdS = s2.countP wrdS from by omega)
            have HE1 := hide (show ((b : Int) - 1) = ((b - 1 : Nat) : Int) from by omega)
            clear h1 hcn hcl hbb hz HBB
            go_wp2_with (go_at_call 41; (with_reducible refine HWJ.out.mono ?_); rintro e w6 ⟨rfl, rfl⟩)
            go_round
            case rel => exact ⟨j + 1, b - 1, by omega, by go_num, by omega, by rw [← HE1.out], HBN.out⟩
            case measure => simp [intOf]; omega
        · obtain rfl : j = n2 := by omega
          have hb0 : b = 0 := by
            have h := HBB.out
            rw [List.take_of_length_le (by rw [HLN.out]; exact Nat.le_refl _)] at h
            omega
          subst hb0
          obtain rfl : T = ok := HTT.out
          have h1 := word22_any S j d s2 (k : Int) wr HR6.out (by omega)
          have h2 := word22_any S j d s2 ((k : Int) - 1) wr HR6.out (by omega)
          obtain ⟨z1, hz1⟩ : ∃ z1, wrdAt s2 (k : Int) = z1 := ⟨_, rfl⟩
          obtain ⟨z2, hz2⟩ : ∃ z2, wrdAt s2 ((k : Int) - 1) = z2 := ⟨_, rfl⟩
          rw [hz1] at h1
          rw [hz2] at h2
          have hko := HKO.out
          rw [hz1, hz2] at hko
          have HW1 := hide h1
          have HW2 := hide h2
          have HBF := hide (HB2.out.trans (HBX.out.mono HB2.out.size))
          clear h1 h2 hz1 hz2 HKO HBB HTT HAC
          cases z1 <;> cases z2
          all_goals
            simp only [Bool.or_true, Bool.or_false, Bool.true_or, Bool.false_or] at hko
            subst hko
            go_wp2_with (first
              | (go_at_call 41; (with_reducible refine HW1.out.mono ?_); rintro e w6 ⟨rfl, rfl⟩)
              | (go_at_call 41; (with_reducible refine HW2.out.mono ?_); rintro e w6 ⟨rfl, rfl⟩)
              | (go_at_call 37; (with_reducible refine (known22_any _).mono ?_); rintro e w7 ⟨rfl, hb7⟩))
            have HB7 := hide (HBF.out.trans (hb7.mono HBF.out.size))
            clear hb7
            go_ret
            exact ⟨rfl, HB7.out⟩
end Go.Proofs.Ytchcpeenpijekaa
