/- Contracts of change.Apply and standishref1.Apply: one function of lists. -/
import Derived.Test.YtjhnenljmmeflaaChgMay
import Derived.Test.YtjhnenljmmeflaaCat
namespace Go.Proofs.Ytjhnenljmmeflaa
open Go.RowKit
set_option linter.unusedVariables false

/-- What a change does to a text, and the error's number. -/
def applyS (s : List Int) (at_ : Int) (cut put : List Int) : List Int := s.take at_.toNat ++ put ++ s.drop (at_.toNat + cut.length)

/-- A call hands back new memory that reads as l, and an error's number. -/
def NewE (w : World) (l : List Int) (code : Int) (e : Ending) (w' : World) : Prop :=
  ∃ A n c, e = .returned (.tuple #[.slice A n c, .int .i64 code]) ∧ Own w' w.heap.size A n c l ∧ Below w.heap.size w w'

theorem cmay_any (S : Option Addr) (k d : Nat) (at_ : Int) (C P : Option Addr) (n c m e' : Nat) (s cut put : List Int) (w : World) (hS : Runes w S k s) (hC : Runes w C n cut) (hP : Runes w P m put)
    (hk : k ≤ 35184372088832) (hn : n ≤ 35184372088832) (hm : m ≤ 35184372088832) (hd : k ≤ d) (hd2 : d ≤ 9223372036854775807) (hat : -9223372036854775808 ≤ at_ ∧ at_ ≤ 9223372036854775807) :
    Calls Try.prog 58 #[.slice S k d, .agg #[.int .i64 at_, .slice C n c, .slice P m e']] w fun e w' => e = .returned (.bool (mayC s at_ cut put)) ∧ Below w.heap.size w w' := by
  by_cases h : 0 ≤ at_ ∧ at_ + n ≤ k ∧ k ≤ 1000 ∧ m + k ≤ 1000 + n
  · obtain ⟨a, rfl⟩ := Int.eq_ofNat_of_zero_le h.1
    have e1 : mayC s a cut put = (sameS ((s.drop a).take n) cut && mayS cut && mayS put) := by
      unfold mayC fitC
      rw [hS.len, hC.len, hP.len, decide_eq_true h]
      rfl
    rw [e1]
    exact cmay_fit S k d a C P n c m e' _ cut put w (hS.mid (by omega) hd) hC hP (by omega) (by omega) (by omega) hd hd2
  · have e1 : mayC s at_ cut put = false := by
      unfold mayC fitC
      rw [hS.len, hC.len, hP.len, decide_eq_false h]
      rfl
    rw [e1]
    exact cmay_out S k d at_ C P n c m e' w hk hn hm hat h

theorem rmay_any (S : Option Addr) (k d : Nat) (at_ : Int) (C P : Option Addr) (n c m e' : Nat) (s cut put : List Int) (w : World) (hS : Runes w S k s) (hC : Runes w C n cut) (hP : Runes w P m put)
    (hk : k ≤ 35184372088832) (hn : n ≤ 35184372088832) (hm : m ≤ 35184372088832) (hd : k ≤ d) (hd2 : d ≤ 9223372036854775807) :
    Calls Try.prog 49 #[.slice S k d, .agg #[.int .i64 at_, .slice C n c, .slice P m e']] w fun e w' => e = .returned (.bool (mayC s at_ cut put)) ∧ Below w.heap.size w w' := by
  by_cases h : 0 ≤ at_ ∧ at_ + n ≤ k
  · obtain ⟨a, rfl⟩ := Int.eq_ofNat_of_zero_le h.1
    have e1 : mayC s a cut put = (sameS ((s.drop a).take n) cut && mayS cut && mayS put && decide ((k : Int) ≤ 1000) && decide ((m : Int) ≤ 1000 - ((k : Int) - n))) := by
      unfold mayC fitC
      rw [hS.len, hC.len, hP.len, Int.toNat_natCast, Bool.and_assoc (sameS _ _ && _ && _), Bool.and_comm (sameS _ _ && _ && _) (decide _ && decide _)]
      congr 1
      rw [Bool.eq_iff_iff]
      simp
      omega
    rw [e1]
    exact rmay_in S k d a C P n c m e' _ cut put w (hS.mid (by omega) hd) hC hP (by omega) hk hm hd hd2
  · have e1 : mayC s at_ cut put = false := by
      unfold mayC fitC
      rw [hS.len, hC.len, hP.len, decide_eq_false (by omega)]
      rfl
    rw [e1]
    exact rmay_out S k d at_ C P n c m e' w hk (decide_eq_false (by omega))

set_option maxHeartbeats 400000 in
theorem rapply_no (S : Option Addr) (k d : Nat) (at_ : Int) (C P : Option Addr) (n c m e' : Nat) (s cut put : List Int) (w : World) (hS : Runes w S k s) (hC : Runes w C n cut) (hP : Runes w P m put)
    (hk : k ≤ 35184372088832) (hn : n ≤ 35184372088832) (hm : m ≤ 35184372088832) (hd : k ≤ d) (hd2 : d ≤ 9223372036854775807) (hno : mayC s at_ cut put = false) :
    Calls Try.prog 17 #[.slice S k d, .agg #[.int .i64 at_, .slice C n c, .slice P m e']] w (NewE w [] 1) := by
  have h := fun W (hb : Below w.heap.size w W) => rmay_any S k d at_ C P n c m e' s cut put W (hS.below hb) (hC.below hb) (hP.below hb) hk hn hm hd hd2
  rw [hno] at h
  have H := hide h
  clear h hno hS hC hP
  go_enter Try.func17, Try.ntmps17
  go_wp2_with fail
  refine (H.out _ ((Below.refl _ _).alloc (Nat.le_refl _) _)).mono ?_
  rintro e w1 ⟨rfl, hb1⟩
  have HB := hide hb1
  clear hb1
  go_wp2_with fail
  go_ret2
  exact ⟨none, 0, 0, rfl, Own.nil _ _, ((Below.refl _ _).alloc (Nat.le_refl _) _).trans (HB.out.mono (by simp))⟩

set_option maxHeartbeats 400000 in
theorem rapply_yes (S : Option Addr) (k d : Nat) (at_ : Int) (C P : Option Addr) (n c m e' : Nat) (s cut put : List Int) (w : World) (hS : Runes w S k s) (hC : Runes w C n cut) (hP : Runes w P m put)
    (hk : k ≤ 35184372088832) (hn : n ≤ 35184372088832) (hm : m ≤ 35184372088832) (hd : k ≤ d) (hd2 : d ≤ 9223372036854775807) (hyes : mayC s at_ cut put = true) :
    Calls Try.prog 17 #[.slice S k d, .agg #[.int .i64 at_, .slice C n c, .slice P m e']] w (NewE w (applyS s at_ cut put) 0) := by
  have hf : 0 ≤ at_ ∧ at_ + n ≤ k ∧ k ≤ 1000 ∧ m + k ≤ 1000 + n := by
    unfold mayC fitC at hyes
    rw [Bool.and_eq_true, hS.len, hC.len, hP.len] at hyes
    exact of_decide_eq_true hyes.1
  obtain ⟨a, rfl⟩ := Int.eq_ofNat_of_zero_le hf.1
  have h := fun W (hb : Below w.heap.size w W) => rmay_any S k d a C P n c m e' s cut put W (hS.below hb) (hC.below hb) (hP.below hb) hk hn hm hd hd2
  rw [hyes] at h
  have H := hide h
  have e1 : applyS s a cut put = s.take a ++ put ++ s.drop (a + n) := by unfold applyS; rw [Int.toNat_natCast, hC.len]
  rw [e1]
  have HS := hide hS
  have HP := hide hP
  clear h hyes e1 hS hP hC
  go_enter Try.func17, Try.ntmps17
  go_wp2_with fail
  refine (H.out _ ((Below.refl _ _).alloc (Nat.le_refl _) _)).mono ?_
  rintro e w1 ⟨rfl, hb1⟩
  have hb : Below w.heap.size w w1 := ((Below.refl _ _).alloc (Nat.le_refl _) _).trans (hb1.mono (by simp))
  obtain ⟨⟨f0, f1, f2⟩, _⟩ := ((Box.new w _ _).below hb1).c3
  have HB := hide hb
  clear hb hb1
  go_wp2_with fail
  refine (splice_any S P k d a n m e' s put _ (HS.out.below HB.out) (HP.out.below HB.out) (by omega) (by omega) hd hd2).mono ?_
  rintro e w2 ⟨A2, n2, c2, rfl, hown2, hb2⟩
  have HF := hide (And.intro (hown2.mono HB.out.size) (HB.out.trans (hb2.mono HB.out.size)))
  clear hown2 hb2
  go_wp2_with fail
  go_ret2
  exact ⟨A2, n2, c2, rfl, HF.out⟩
set_option maxHeartbeats 1000000 in
theorem capply_core (S : Option Addr) (k d a : Nat) (C P : Option Addr) (n c m e' : Nat) (s put : List Int) (w : World) (hS : Runes w S k s) (hP : Runes w P m put)
    (h1 : a + n ≤ k) (h2 : k ≤ 1000) (h3 : m ≤ 35184372080000) (hd : k ≤ d) (hd2 : d ≤ 9223372036854775807)
    (hmay : ∀ W, Below w.heap.size w W → Calls Try.prog 58 #[.slice S k d, .agg #[.int .i64 a, .slice C n c, .slice P m e']] W fun e w' => e = .returned (.bool true) ∧ Below W.heap.size W w') :
    Calls Try.prog 42 #[.slice S k d, .agg #[.int .i64 a, .slice C n c, .slice P m e']] w (NewE w (s.take a ++ put ++ s.drop (a + n)) 0) := by
  have hsl := run_sub_s S k d a n h1
  have hsh := run_sub_h S k d a (by omega)
  have hs1 : IntKind.i64.wrap ((a : Int) + n) = (a : Int) + n := IntWalk.i64_in _ (by omega)
  have hs2 : (0 : Int) ≤ (a : Int) + n := by omega
  have hs3 : (0 : Int) ≤ (a : Int) := by omega
  have HT := hide (hS.take (m := a) (by omega))
  have HD := hide (hS.sub (a := a + n) (c := d) h1 hd)
  have HP := hide hP
  have HM := hide hmay
  have hsum : (([s.take a, put, s.drop (a + n)] : List (List Int)).map List.length).sum ≤ 35184372088832 := by
    simp only [List.map_cons, List.map_nil, List.sum_cons, List.sum_nil, List.length_take, List.length_drop, hS.len, hP.len]
    omega
  clear hmay hS hP
  go_enter Try.func42, Try.ntmps42
  go_wp2_with fail
  refine (HM.out _ ((Below.refl _ _).alloc (Nat.le_refl _) _)).mono ?_
  rintro e w1 ⟨rfl, hb1⟩
  have hb : Below w.heap.size w w1 := ((Below.refl _ _).alloc (Nat.le_refl _) _).trans (hb1.mono (by simp))
  obtain ⟨⟨f0, f1, f2⟩, _⟩ := ((Box.new w _ _).below hb1).c3
  have HB := hide hb
  have HX := hide ((Box.new w _ _).below hb1)
  have hlt := HX.out.lt
  clear hb hb1
  go_wp2_with fail
  go_region_held3 (fun w' => w'.cell? ⟨w.heap.size, 0, none⟩ = some (.int .i64 a) ∧ w'.cell? ⟨w.heap.size, 1, none⟩ = some (.slice C n c) ∧ w'.cell? ⟨w.heap.size, 2, none⟩ = some (.slice P m e'))
    (first | go_keep)
    (first
     | (go_at_call 62; refine (concat_any _ 3 3 _ _ (Texts.news3 (HT.out.below HB.out).drew (HP.out.below HB.out).drew (HD.out.below HB.out).drew _) (by omega) hsum).mono ?_
        rintro e w2 ⟨A2, n2, c2, rfl, hown2, hb2⟩
        obtain ⟨⟨k0, k1, k2⟩, _⟩ := ((((HX.out).drew).alloc _).below hb2).c3))
  have HF := hide (And.intro (hown2.mono (Nat.le_trans HB.out.size (by simp))) (HB.out.trans (((Below.refl _ _).drew.alloc (Nat.le_refl _) _).trans (hb2.mono (by simp)) |>.mono HB.out.size)))
  clear hown2 hb2
  go_wp2
  go_ret2
  refine ⟨A2, n2, c2, rfl, ?_, HF.out.2⟩
  have := HF.out.1
  simpa using this

theorem capply_yes (S : Option Addr) (k d : Nat) (at_ : Int) (C P : Option Addr) (n c m e' : Nat) (s cut put : List Int) (w : World) (hS : Runes w S k s) (hC : Runes w C n cut) (hP : Runes w P m put)
    (hk : k ≤ 35184372088832) (hn : n ≤ 35184372088832) (hm : m ≤ 35184372088832) (hd : k ≤ d) (hd2 : d ≤ 9223372036854775807) (hat : -9223372036854775808 ≤ at_ ∧ at_ ≤ 9223372036854775807) (hyes : mayC s at_ cut put = true) :
    Calls Try.prog 42 #[.slice S k d, .agg #[.int .i64 at_, .slice C n c, .slice P m e']] w (NewE w (applyS s at_ cut put) 0) := by
  have hf : 0 ≤ at_ ∧ at_ + n ≤ k ∧ k ≤ 1000 ∧ m + k ≤ 1000 + n := by
    have hy := hyes
    unfold mayC fitC at hy
    rw [Bool.and_eq_true, hS.len, hC.len, hP.len] at hy
    exact of_decide_eq_true hy.1
  obtain ⟨a, rfl⟩ := Int.eq_ofNat_of_zero_le hf.1
  have e1 : applyS s a cut put = s.take a ++ put ++ s.drop (a + n) := by unfold applyS; rw [Int.toNat_natCast, hC.len]
  rw [e1]
  refine capply_core S k d a C P n c m e' s put w hS hP (by omega) (by omega) (by omega) hd hd2 fun W hb => ?_
  rw [← hyes]
  exact cmay_any S k d a C P n c m e' s cut put W (hS.below hb) (hC.below hb) (hP.below hb) hk hn hm hd hd2 hat

set_option maxHeartbeats 400000 in
theorem capply_no (S : Option Addr) (k d : Nat) (at_ : Int) (C P : Option Addr) (n c m e' : Nat) (s cut put : List Int) (w : World) (hS : Runes w S k s) (hC : Runes w C n cut) (hP : Runes w P m put)
    (hk : k ≤ 35184372088832) (hn : n ≤ 35184372088832) (hm : m ≤ 35184372088832) (hd : k ≤ d) (hd2 : d ≤ 9223372036854775807) (hat : -9223372036854775808 ≤ at_ ∧ at_ ≤ 9223372036854775807) (hno : mayC s at_ cut put = false) :
    Calls Try.prog 42 #[.slice S k d, .agg #[.int .i64 at_, .slice C n c, .slice P m e']] w (NewE w [] 1) := by
  have h := fun W (hb : Below w.heap.size w W) => cmay_any S k d at_ C P n c m e' s cut put W (hS.below hb) (hC.below hb) (hP.below hb) hk hn hm hd hd2 hat
  rw [hno] at h
  have H := hide h
  clear h hno hS hC hP
  go_enter Try.func42, Try.ntmps42
  go_wp2_with fail
  refine (H.out _ ((Below.refl _ _).alloc (Nat.le_refl _) _)).mono ?_
  rintro e w1 ⟨rfl, hb1⟩
  have HB := hide hb1
  clear hb1
  go_wp2_with fail
  go_ret2
  exact ⟨none, 0, 0, rfl, Own.nil _ _, ((Below.refl _ _).alloc (Nat.le_refl _) _).trans (HB.out.mono (by simp))⟩

/-- What Apply answers: the text, and the error's number. -/
def appS (s : List Int) (at_ : Int) (cut put : List Int) : List Int := if mayC s at_ cut put then applyS s at_ cut put else []
def appE (s : List Int) (at_ : Int) (cut put : List Int) : Int := if mayC s at_ cut put then 0 else 1

theorem capply_any (S : Option Addr) (k d : Nat) (at_ : Int) (C P : Option Addr) (n c m e' : Nat) (s cut put : List Int) (w : World) (hS : Runes w S k s) (hC : Runes w C n cut) (hP : Runes w P m put)
    (hk : k ≤ 35184372088832) (hn : n ≤ 35184372088832) (hm : m ≤ 35184372088832) (hd : k ≤ d) (hd2 : d ≤ 9223372036854775807) (hat : -9223372036854775808 ≤ at_ ∧ at_ ≤ 9223372036854775807) :
    Calls Try.prog 42 #[.slice S k d, .agg #[.int .i64 at_, .slice C n c, .slice P m e']] w (NewE w (appS s at_ cut put) (appE s at_ cut put)) := by
  unfold appS appE
  cases h : mayC s at_ cut put
  · exact capply_no S k d at_ C P n c m e' s cut put w hS hC hP hk hn hm hd hd2 hat h
  · exact capply_yes S k d at_ C P n c m e' s cut put w hS hC hP hk hn hm hd hd2 hat h
theorem rapply_any (S : Option Addr) (k d : Nat) (at_ : Int) (C P : Option Addr) (n c m e' : Nat) (s cut put : List Int) (w : World) (hS : Runes w S k s) (hC : Runes w C n cut) (hP : Runes w P m put)
    (hk : k ≤ 35184372088832) (hn : n ≤ 35184372088832) (hm : m ≤ 35184372088832) (hd : k ≤ d) (hd2 : d ≤ 9223372036854775807) :
    Calls Try.prog 17 #[.slice S k d, .agg #[.int .i64 at_, .slice C n c, .slice P m e']] w (NewE w (appS s at_ cut put) (appE s at_ cut put)) := by
  unfold appS appE
  cases h : mayC s at_ cut put
  · exact rapply_no S k d at_ C P n c m e' s cut put w hS hC hP hk hn hm hd hd2 h
  · exact rapply_yes S k d at_ C P n c m e' s cut put w hS hC hP hk hn hm hd hd2 h

end Go.Proofs.Ytjhnenljmmeflaa
