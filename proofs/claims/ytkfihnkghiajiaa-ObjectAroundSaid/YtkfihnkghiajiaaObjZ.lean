/- Contracts of layer 25's reference on brackets: pair, Partner, bracketed. -/
import Derived.Test.YtkfihnkghiajiaaObjY
namespace Go.Proofs.Ytkfihnkghiajiaa
open Go.RowKit
set_option linter.unusedVariables false

/-- The three kinds of brackets. -/
def Brk (o c : Int) : Prop := (o = 40 ∧ c = 41) ∨ (o = 91 ∧ c = 93) ∨ (o = 123 ∧ c = 125)
theorem Brk.ne {o c : Int} (h : Brk o c) : o ≠ c := by
  unfold Brk at h
  omega

theorem rpair_any (o c : Int) (w : World) (h : Brk o c) : Calls Try.prog 75 #[.int .i32 o] w fun e w' => e = .returned (.tuple #[.int .i32 c, .int .i64 1]) ∧ w = w' := by
  rcases h with ⟨rfl, rfl⟩ | ⟨rfl, rfl⟩ | ⟨rfl, rfl⟩
  all_goals go_enter Try.func75, Try.ntmps75
  all_goals go_wp2_with fail
  all_goals go_ret2
  all_goals exact ⟨rfl, rfl⟩

def foundN : Option Nat → Int
  | none => 0
  | some t => t

set_option maxRecDepth 100000 in
set_option maxHeartbeats 4000000 in
theorem partner_any (S : Option Addr) (k d f : Nat) (o c z : Int) (ok : Bool) (s : List Int) (w : World) (hS : Runes w S k s) (hk : k ≤ 35184372088832) (hf : f < k) (hoc : Brk o c) (ho : nth s f = o)
    (hz : z = foundN (shutS o c 0 f (s.drop f))) (hok : ok = (shutS o c 0 f (s.drop f)).isSome) :
    Calls Try.prog 72 #[.slice S k d, .int .i64 f] w fun e w' => e = .returned (.tuple #[.int .i64 z, .bool ok]) ∧ w = w' := by
  have HS := hide hS
  have HL := hide hS.len
  have HZ := hide hz
  have HK := hide hok
  have HOC := hide hoc.ne
  have HP := hide (fun W => rpair_any o c W hoc)
  obtain ⟨ab, ao, rfl, hc0⟩ := hS.at_ f hf
  rw [ho] at hc0
  have h0 : (0 : Int) ≤ (f : Int) := by omega
  have h0' : (f : Int) < (k : Int) := by omega
  clear hS hz hok hoc ho
  go_enter Try.func72, Try.ntmps72
  go_wp2_with fail
  refine (HP.out _).mono ?_
  rintro e w' ⟨rfl, rfl⟩
  go_wp2_with fail
  clear hc0 h0 h0'
  go_loop [1, 9] (fun i n => ∃ (a : Nat) (dp : Int), a ≤ k ∧ i = .int .i64 a ∧ n = .int .i64 dp ∧ (-(a : Int) ≤ dp ∧ dp ≤ a) ∧ Hid (shutS o c dp a (s.drop a) = shutS o c 0 f (s.drop f))) (fun i _ => k - (intOf i).toNat)
  case atStart => exact ⟨f, 0, by omega, rfl, rfl, by omega, rfl⟩
  case round =>
    obtain ⟨a, dp, hak, rfl, rfl, hdp, hst⟩ := hrel
    by_cases hlt : a < k
    · obtain ⟨ab', ao', hE, hc⟩ := HS.out.at_ a hlt
      cases hE
      have h0 : (0 : Int) ≤ (a : Int) := by omega
      have h0' : (a : Int) < (k : Int) := by omega
      have HT := hide (shut_step (o := o) (c := c) (deep := dp) (a := a) (s := s) (by rw [HL.out]; exact hlt))
      generalize nth s a = x at hc HT
      have hw : (x = o ∧ x ≠ c) ∨ (x ≠ o ∧ x = c) ∨ (x ≠ o ∧ x ≠ c) := by have := HOC.out; omega
      obtain ⟨dn, hdn⟩ : ∃ dn, (if x = o then dp + 1 else if x = c then dp - 1 else dp) = dn := ⟨_, rfl⟩
      rw [hdn] at HT
      rcases hw with ⟨h1, h2⟩ | ⟨h1, h2⟩ | ⟨h1, h2⟩
      · have e1 : (x == o) = true := by simpa using h1
        have e2 : (x == c) = false := by simpa using h2
        have hd : dn = dp + 1 := by rw [← hdn, if_pos h1]
        rw [hd] at HT
        clear hdn hd h1 h2
        by_cases h0z : dp + 1 = 0
        · have HE := hide (show shutS o c 0 f (s.drop f) = some a by rw [← hst.out, HT.out, if_pos h0z])
          have e3 : (dp + 1 == 0) = true := by simpa using h0z
          rw [HE.out] at HZ HK
          obtain rfl : z = (a : Int) := HZ.out
          obtain rfl : ok = true := HK.out
          go_wp2_with fail
          go_ret2
          exact ⟨rfl, rfl⟩
        · have HE := hide (HT.out.symm.trans hst.out)
          have HN := hide h0z
          have e3 : (dp + 1 == 0) = false := by simpa using h0z
          clear h0z
          go_wp2_with fail
          go_round
          case rel => exact ⟨a + 1, dp + 1, by omega, by go_num, by first | rfl | go_num, by omega, by
            have h1 := HE.out
            rw [if_neg HN.out] at h1
            exact h1⟩
          case measure => simp [intOf]; omega
      · have e1 : (x == o) = false := by simpa using h1
        have e2 : (x == c) = true := by simpa using h2
        have hd : dn = dp - 1 := by rw [← hdn, if_neg h1, if_pos h2]
        rw [hd] at HT
        clear hdn hd h1 h2
        by_cases h0z : dp - 1 = 0
        · have HE := hide (show shutS o c 0 f (s.drop f) = some a by rw [← hst.out, HT.out, if_pos h0z])
          have e3 : (dp - 1 == 0) = true := by simpa using h0z
          rw [HE.out] at HZ HK
          obtain rfl : z = (a : Int) := HZ.out
          obtain rfl : ok = true := HK.out
          go_wp2_with fail
          go_ret2
          exact ⟨rfl, rfl⟩
        · have HE := hide (HT.out.symm.trans hst.out)
          have HN := hide h0z
          have e3 : (dp - 1 == 0) = false := by simpa using h0z
          clear h0z
          go_wp2_with fail
          go_round
          case rel => exact ⟨a + 1, dp - 1, by omega, by go_num, by first | rfl | go_num, by omega, by
            have h1 := HE.out
            rw [if_neg HN.out] at h1
            exact h1⟩
          case measure => simp [intOf]; omega
      · have e1 : (x == o) = false := by simpa using h1
        have e2 : (x == c) = false := by simpa using h2
        have hd : dn = dp := by rw [← hdn, if_neg h1, if_neg h2]
        rw [hd] at HT
        clear hdn hd h1 h2
        by_cases h0z : dp = 0
        · have HE := hide (show shutS o c 0 f (s.drop f) = some a by rw [← hst.out, HT.out, if_pos h0z])
          have e3 : (dp == 0) = true := by simpa using h0z
          rw [HE.out] at HZ HK
          obtain rfl : z = (a : Int) := HZ.out
          obtain rfl : ok = true := HK.out
          go_wp2_with fail
          go_ret2
          exact ⟨rfl, rfl⟩
        · have HE := hide (HT.out.symm.trans hst.out)
          have HN := hide h0z
          have e3 : (dp == 0) = false := by simpa using h0z
          clear h0z
          go_wp2_with fail
          go_round
          case rel => exact ⟨a + 1, dp, by omega, by go_num, by first | rfl | go_num, by omega, by
            have h1 := HE.out
            rw [if_neg HN.out] at h1
            exact h1⟩
          case measure => simp [intOf]; omega
    · obtain rfl : a = k := by omega
      have HE := hide (show shutS o c 0 f (s.drop f) = none by rw [← hst.out, List.drop_of_length_le (by rw [HL.out]; exact Nat.le_refl _)]; rfl)
      rw [HE.out] at HZ HK
      obtain rfl : z = 0 := HZ.out
      obtain rfl : ok = false := HK.out
      go_wp2_with fail
      go_ret2
      exact ⟨rfl, rfl⟩

set_option maxRecDepth 100000 in
set_option maxHeartbeats 4000000 in
theorem bracketed_any (S : Option Addr) (k d at_ : Nat) (o c : Int) (around : Bool) (s : List Int) (w : World) (F T : Nat) (ok : Bool) (hS : Runes w S k s) (hk : k ≤ 35184372088000) (ha : at_ < k) (hoc : Brk o c)
    (hF : F = spF (pairS s at_ o c around)) (hT : T = spT (pairS s at_ o c around)) (hok : ok = (pairS s at_ o c around).isSome) :
    Calls Try.prog 61 #[.slice S k d, .int .i64 at_, .int .i32 o, .int .i32 c, .bool around] w fun e w' =>
      e = .returned (.tuple #[.agg #[.int .i64 F, .int .i64 T], .bool ok]) ∧ Below w.heap.size w w' := by
  have HSL := hide hS.len
  have HF := hide hF
  have HT := hide hT
  have HO := hide hok
  have HX0 := hide (Box.new w 47 #[.int .i64 0, .int .i64 0])
  have HB0 := hide ((Below.refl _ w).alloc (Nat.le_refl _) (.cells #[.int .i64 0, .int .i64 0] 47))
  have HSZ := hide (hS.alloc (.cells #[.int .i64 0, .int .i64 0] 47))
  have HOC := hide hoc
  clear hF hT hok hoc
  obtain ⟨ab, ao, rfl, hc0⟩ := (hS.alloc (.cells #[.int .i64 0, .int .i64 0] 47)).at_ at_ ha
  have h0 : (0 : Int) ≤ (at_ : Int) := by omega
  have h0' : (at_ : Int) < (k : Int) := by omega
  clear hS
  obtain ⟨z, hz⟩ : ∃ z : Int, z = placeN (if nth s at_ = o then some at_ else openS s o c 0 at_) := ⟨_, rfl⟩
  have HZ := hide hz
  have HNE := hide HOC.out.ne
  clear hz
  go_enter Try.func61, Try.ntmps61
  go_upto_if 22 with fail
  generalize hW0 : (w.alloc (.cells #[.int .i64 0, .int .i64 0] 47)) = W0 at HX0 HB0 HSZ hc0 ⊢
  clear hW0
  go_cut [12] (fun f wx => f = .int .i64 z ∧ wx = W0)
  case first =>
    by_cases hx : nth s at_ = o
    · rw [if_pos hx] at HZ
      obtain rfl : z = (at_ : Int) := HZ.out
      have e1 : (nth s at_ != o) = false := by simpa using hx
      clear hx
      go_wp2_with fail
      go_meet
      exact ⟨rfl, rfl⟩
    · rw [if_neg hx] at HZ
      have e1 : (nth s at_ != o) = true := by simpa using hx
      clear hx
      go_wp2_with fail
      clear e1 hc0 h0 h0'
      go_loop [12, 13] (fun i n => ∃ j m : Nat, j ≤ at_ ∧ m ≤ k - j ∧ i = .int .i64 ((j : Int) - 1) ∧ n = .int .i64 m ∧ Hid (openS s o c m j = openS s o c 0 at_)) (fun i _ => (intOf i + 1).toNat)
      case atStart => exact ⟨at_, 0, Nat.le_refl _, Nat.zero_le _, by go_num, rfl, rfl⟩
      case round =>
        obtain ⟨j, m, hj, hm, rfl, rfl, hst⟩ := hrel
        rcases Nat.eq_zero_or_pos j with rfl | hpos
        · obtain rfl : z = -1 := by rw [HZ.out, ← hst.out]; rfl
          go_wp2_with fail
          go_meet
          exact ⟨rfl, rfl⟩
        · obtain ⟨b, rfl⟩ : ∃ b, j = b + 1 := ⟨j - 1, by omega⟩
          have e1 : (((b + 1 : Nat) : Int)) - 1 = (b : Int) := by omega
          rw [e1]
          clear e1
          obtain ⟨ab', ao', hE, hc⟩ := HSZ.out.at_ b (by omega)
          cases hE
          have hb0 : (0 : Int) ≤ (b : Int) := by omega
          have hb1 : (b : Int) < (k : Int) := by omega
          have HT2 := hide (open_step (s := s) (o := o) (c := c) (n := m) (k := b))
          generalize nth s b = x at hc HT2
          have hw : (x = c ∧ x ≠ o) ∨ (x ≠ c ∧ x = o ∧ m = 0) ∨ (x ≠ c ∧ x = o ∧ m ≠ 0) ∨ (x ≠ c ∧ x ≠ o) := by have := HNE.out; omega
          rcases hw with ⟨h1, h2⟩ | ⟨h1, h2, h3⟩ | ⟨h1, h2, h3⟩ | ⟨h1, h2⟩
          · have e1 : (x == c) = true := by simpa using h1
            have e2 : (x == o) = false := by simpa using h2
            rw [if_pos h1] at HT2
            clear h1 h2
            go_wp2_with fail
            go_round
            case rel => exact ⟨b, m + 1, by omega, by omega, by go_num, by go_num, HT2.out.symm.trans hst.out⟩
            case measure => simp [intOf]
          · have e1 : (x == c) = false := by simpa using h1
            have e2 : (x == o) = true := by simpa using h2
            obtain rfl : z = (b : Int) := by rw [HZ.out, ← hst.out, HT2.out, if_neg h1, if_pos h2, if_pos h3]; rfl
            subst h3
            clear h1 h2
            go_wp2_with fail
            go_meet
            exact ⟨rfl, rfl⟩
          · have e1 : (x == c) = false := by simpa using h1
            have e2 : (x == o) = true := by simpa using h2
            have e3 : ((m : Int) == 0) = false := by simpa using h3
            rw [if_neg h1, if_pos h2, if_neg h3] at HT2
            have hm1 : ((m - 1 : Nat) : Int) = (m : Int) - 1 := by omega
            have HM := hide hm1
            have hmp : 0 < m := by omega
            clear h1 h2 h3 hm1
            go_wp2_with fail
            go_round
            case rel => exact ⟨b, m - 1, by omega, by omega, by go_num, by rw [HM.out], HT2.out.symm.trans hst.out⟩
            case measure => simp [intOf]
          · have e1 : (x == c) = false := by simpa using h1
            have e2 : (x == o) = false := by simpa using h2
            rw [if_neg h1, if_neg h2] at HT2
            clear h1 h2
            go_wp2_with fail
            go_round
            case rel => exact ⟨b, m, by omega, by omega, by go_num, rfl, HT2.out.symm.trans hst.out⟩
            case measure => simp [intOf]
  case rest =>
    obtain ⟨rfl, rfl⟩ := hcut
    obtain ⟨⟨x0, x1⟩, z0, z1⟩ := HX0.out.c2
    clear hc0 h0 h0'
    cases hop : (if nth s at_ = o then some at_ else openS s o c 0 at_) with
    | none =>
      have hn := pairS_none1 (around := around) hop
      rw [hn] at HF HT HO
      rw [hop] at HZ
      obtain rfl : z = -1 := HZ.out
      obtain rfl : F = 0 := HF.out
      obtain rfl : T = 0 := HT.out
      obtain rfl : ok = false := HO.out
      clear hn hop
      go_wp2_with fail
      obtain ⟨⟨r0, r1⟩, _⟩ := ((HX0.out.set 0 (.int .i64 0)).set 1 (.int .i64 0)).c2
      exact bodyPost_ret (v := .tuple #[.agg #[.int .i64 0, .int .i64 0], .bool false]) (by simp [results, Try.results61, go_sem, r0, r1]) rfl
        ⟨rfl, (HB0.out.setCell (p := ⟨w.heap.size, 0, none⟩) (Nat.le_refl _) _).setCell (p := ⟨w.heap.size, 1, none⟩) (Nat.le_refl _) _⟩
    | some f =>
      have hf := opened_lt hop
      rw [hop] at HZ
      obtain rfl : z = (f : Int) := HZ.out
      cases hsh : shutS o c 0 f (s.drop f) with
      | none =>
        have hn := pairS_none2 (around := around) hop hsh
        rw [hn] at HF HT HO
        obtain rfl : F = 0 := HF.out
        obtain rfl : T = 0 := HT.out
        obtain rfl : ok = false := HO.out
        have HP := hide (fun W (hW : Runes W (some ⟨ab, ao, none⟩) k s) => partner_any (some ⟨ab, ao, none⟩) k d f o c 0 false s W hW (by omega) (by omega) HOC.out hf.2 (by rw [hsh]; rfl) (by rw [hsh]; rfl))
        clear hn hop hsh hf
        go_wp2_with fail
        refine (HP.out _ HSZ.out).mono ?_
        rintro e w' ⟨rfl, rfl⟩
        go_wp2_with fail
        obtain ⟨⟨r0, r1⟩, _⟩ := ((HX0.out.set 0 (.int .i64 0)).set 1 (.int .i64 0)).c2
        exact bodyPost_ret (v := .tuple #[.agg #[.int .i64 0, .int .i64 0], .bool false]) (by simp [results, Try.results61, go_sem, r0, r1]) rfl
          ⟨rfl, (HB0.out.setCell (p := ⟨w.heap.size, 0, none⟩) (Nat.le_refl _) _).setCell (p := ⟨w.heap.size, 1, none⟩) (Nat.le_refl _) _⟩
      | some t =>
        have hw := pairS_some (around := around) hop hsh
        have ht := shut_bd hsh
        rw [List.length_drop, HSL.out] at ht
        have HP := hide (fun W (hW : Runes W (some ⟨ab, ao, none⟩) k s) => partner_any (some ⟨ab, ao, none⟩) k d f o c t true s W hW (by omega) (by omega) HOC.out hf.2 (by rw [hsh]; rfl) (by rw [hsh]; rfl))
        rw [hw] at HF HT HO
        clear hop hsh hw hf
        by_cases hlt : t < at_
        · rw [if_pos hlt] at HF HT HO
          obtain rfl : F = 0 := HF.out
          obtain rfl : T = 0 := HT.out
          obtain rfl : ok = false := HO.out
          go_wp2_with fail
          refine (HP.out _ HSZ.out).mono ?_
          rintro e w' ⟨rfl, rfl⟩
          go_wp2_with fail
          obtain ⟨⟨r0, r1⟩, _⟩ := ((HX0.out.set 0 (.int .i64 0)).set 1 (.int .i64 0)).c2
          exact bodyPost_ret (v := .tuple #[.agg #[.int .i64 0, .int .i64 0], .bool false]) (by simp [results, Try.results61, go_sem, r0, r1]) rfl
            ⟨rfl, (HB0.out.setCell (p := ⟨w.heap.size, 0, none⟩) (Nat.le_refl _) _).setCell (p := ⟨w.heap.size, 1, none⟩) (Nat.le_refl _) _⟩
        · rw [if_neg hlt] at HF HT HO
          have hge : at_ ≤ t := by omega
          clear hlt
          cases around
          · obtain rfl : F = f + 1 := HF.out
            obtain rfl : T = t := HT.out
            obtain rfl : ok = true := HO.out
            go_wp2_with fail
            refine (HP.out _ HSZ.out).mono ?_
            rintro e w' ⟨rfl, rfl⟩
            go_wp2_with fail
            obtain ⟨⟨r0, r1⟩, _⟩ := ((HX0.out.set 0 (.int .i64 ((f : Int) + 1))).set 1 (.int .i64 T)).c2
            exact bodyPost_ret (v := .tuple #[.agg #[.int .i64 ((f : Int) + 1), .int .i64 T], .bool true]) (by simp [results, Try.results61, go_sem, r0, r1]) rfl
              ⟨rfl, (HB0.out.setCell (p := ⟨w.heap.size, 0, none⟩) (Nat.le_refl _) _).setCell (p := ⟨w.heap.size, 1, none⟩) (Nat.le_refl _) _⟩
          · obtain rfl : F = f := HF.out
            obtain rfl : T = t + 1 := HT.out
            obtain rfl : ok = true := HO.out
            go_wp2_with fail
            refine (HP.out _ HSZ.out).mono ?_
            rintro e w' ⟨rfl, rfl⟩
            go_wp2_with fail
            obtain ⟨⟨r0, r1⟩, _⟩ := ((HX0.out.set 0 (.int .i64 F)).set 1 (.int .i64 ((t : Int) + 1))).c2
            exact bodyPost_ret (v := .tuple #[.agg #[.int .i64 F, .int .i64 ((t : Int) + 1)], .bool true]) (by simp [results, Try.results61, go_sem, r0, r1]) rfl
              ⟨rfl, (HB0.out.setCell (p := ⟨w.heap.size, 0, none⟩) (Nat.le_refl _) _).setCell (p := ⟨w.heap.size, 1, none⟩) (Nat.le_refl _) _⟩
end Go.Proofs.Ytkfihnkghiajiaa
