/- The contract of standishref1.Case. -/
import Derived.Test.YtkfihnkghiajiaaSgnC
namespace Go.Proofs.Ytkfihnkghiajiaa
open Go.RowKit
set_option linter.unusedVariables false

/-- What becomes of the element at a place, in the cases that go element by element. -/
def eltS (how : Int) (j : Nat) (x : Int) : Int := if how = 1 ∨ (how = 3 ∧ j = 0) then upS x else if how = 2 then loS x else x
theorem eltS_all {l r : List Int} {how : Int} (h4 : how ≠ 4) (h5 : how ≠ 5) (hl : r.length = l.length) (h : ∀ j, j < l.length → nth r j = eltS how j (nth l j)) : r = caseS l how := by
  have hlen : (caseS l how).length = l.length := by
    unfold caseS
    repeat' split
    all_goals first | (simp; done) | exact capS_len l | rfl | omega
  refine ext_nth (by rw [hl, hlen]) fun j hj => ?_
  rw [h j (by omega)]
  rw [hl] at hj
  unfold eltS caseS
  rcases how_ways how with rfl | rfl | rfl | rfl | rfl | ⟨n1, n2, n3, n4, n5⟩
  · simp [nth_map hj]
  · simp [nth_map hj]
  · cases l with
    | nil => simp at hj
    | cons x l =>
      cases j with
      | zero => rfl
      | succ j => simp [capS, nth]
  · exact absurd rfl h4
  · exact absurd rfl h5
  · simp [n1, n2, n3, n4, n5]

set_option maxHeartbeats 4000000 in
theorem rcase_any (A : Option Addr) (n c : Nat) (how : Int) (l : List Int) (w : World) (h : Runes w A n l) (hn : n ≤ 35184372088832) :
    Calls Try.prog 26 #[.slice A n c, .int .i64 how] w (NewR w (caseS l how)) := by
  have HR := hide h
  have HL := hide h.len
  clear h
  by_cases h45 : how = 4 ∨ how = 5
  · rcases h45 with rfl | rfl
    · rw [show caseS l 4 = runS upS l from rfl]
      have HP := hide (fun W (hb : Below w.heap.size w W) => pascal_any A n c false l W (HR.out.below hb) hn)
      go_enter Try.func26, Try.ntmps26
      go_wp2_with (at_builtin
                   refine wpList_app0 rfl (.const (.slice none 0 0)) (.tmp 7) rfl w.heap.size rfl rfl HR.out hn (Nat.le_refl _) ?_
                   intro A1 c1 w1 hown1 hb1 _ _)
      have H1 := hide hb1
      clear hown1 hb1
      refine (HP.out _ H1.out).mono ?_
      rintro e w' ⟨A', n', c', rfl, ho, hb⟩
      have H2 := hide (ho.mono H1.out.size)
      have H3 := hide (H1.out.trans (hb.mono H1.out.size))
      clear ho hb
      go_wp2_with fail
      go_ret
      exact ⟨A', n', c', rfl, H2.out, H3.out⟩
    · rw [show caseS l 5 = runS loS l from rfl]
      have HP := hide (fun W (hb : Below w.heap.size w W) => pascal_any A n c true l W (HR.out.below hb) hn)
      go_enter Try.func26, Try.ntmps26
      go_wp2_with (at_builtin
                   refine wpList_app0 rfl (.const (.slice none 0 0)) (.tmp 7) rfl w.heap.size rfl rfl HR.out hn (Nat.le_refl _) ?_
                   intro A1 c1 w1 hown1 hb1 _ _)
      have H1 := hide hb1
      clear hown1 hb1
      refine (HP.out _ H1.out).mono ?_
      rintro e w' ⟨A', n', c', rfl, ho, hb⟩
      have H2 := hide (ho.mono H1.out.size)
      have H3 := hide (H1.out.trans (hb.mono H1.out.size))
      clear ho hb
      go_wp2_with fail
      go_ret
      exact ⟨A', n', c', rfl, H2.out, H3.out⟩
  · have n4 : how ≠ 4 := fun e => h45 (.inl e)
    have n5 : how ≠ 5 := fun e => h45 (.inr e)
    have HN4 := hide n4
    have HN5 := hide n5
    have e4 : (how == 4) = false := by simpa using n4
    have e5 : (how == 5) = false := by simpa using n5
    have HUP := hide rupper_any
    have HLO := hide rlower_any
    clear h45 n4 n5
    go_enter Try.func26, Try.ntmps26
    go_wp2_with (at_builtin
                 refine wpList_app0 rfl (.const (.slice none 0 0)) (.tmp 7) rfl w.heap.size rfl rfl HR.out hn (Nat.le_refl _) ?_
                 intro A1 c1 w1 hown1 hb1 _ hsome)
    have HO := hide hown1
    have HB := hide hb1
    clear hown1 hb1
    go_loopw [6] (fun i wr => ∃ (k : Nat) (r : List Int), k ≤ n ∧ i = .int .i64 k ∧ Own wr w.heap.size A1 n c1 r ∧ Below w.heap.size w wr ∧ Hid (∀ j, (j < k → nth r j = eltS how j (nth l j)) ∧ (k ≤ j → nth r j = nth l j))) (fun i _ => n - (intOf i).toNat)
    case atStart => exact ⟨0, l, Nat.zero_le _, rfl, HO.out, HB.out, fun j => ⟨fun h => absurd h (by omega), fun _ => rfl⟩⟩
    case round =>
      obtain ⟨k, r, hk, rfl, hown, hbel, hj⟩ := hrel
      have HOW := hide hown
      have HBE := hide hbel
      clear hown hbel
      by_cases hlt : k < n
      · obtain ⟨g, rfl⟩ := hsome (by omega)
        have hc := HOW.out.cell hlt
        have hf := HOW.out.frozen k
        have hg := (HOW.out.blk_ge g rfl).1
        have HBD := hide (HR.out.wf.bd k)
        have hsame : nth r k = nth l k := (hj.out k).2 (Nat.le_refl _)
        rw [hsame] at hc
        have HSM := hide hsame
        clear hsame
        have key : ∀ (y : Int), y = eltS how k (nth l k) → Hid (∀ j, (j < k + 1 → nth (r.set k y) j = eltS how j (nth l j)) ∧ (k + 1 ≤ j → nth (r.set k y) j = nth l j)) := fun y hy j => by
          have hll := HOW.out.len
          have := hj.out j
          by_cases hkj : k = j
          · subst hkj
            rw [nth_set_self (by omega)]
            exact ⟨fun _ => hy, fun h => absurd h (by omega)⟩
          · rw [nth_set_other hkj]
            exact ⟨fun h => this.1 (by omega), fun h => this.2 (by omega)⟩
        have key2 : nth l k = eltS how k (nth l k) → Hid (∀ j, (j < k + 1 → nth r j = eltS how j (nth l j)) ∧ (k + 1 ≤ j → nth r j = nth l j)) := fun hy j => by
          have := hj.out j
          by_cases hkj : k = j
          · subst hkj
            exact ⟨fun _ => HSM.out.trans hy, fun h => absurd h (by omega)⟩
          · exact ⟨fun h => this.1 (by omega), fun h => this.2 (by omega)⟩
        have KEY := hide key
        have KEY2 := hide key2
        clear key key2
        have hgo : how = 1 ∨ (how = 3 ∧ k = 0) ∨ how = 2 ∨ (how = 3 ∧ k ≠ 0) ∨ (how ≠ 1 ∧ how ≠ 2 ∧ how ≠ 3) := by omega
        rcases hgo with rfl | ⟨rfl, rfl⟩ | rfl | ⟨rfl, h0⟩ | ⟨m1, m2, m3⟩
        · have HE := hide (show upS (nth l k) = eltS 1 k (nth l k) by unfold eltS; simp)
          go_wp2_with fail
          refine (HUP.out _ _ HBD.out).mono ?_
          rintro e w' ⟨rfl, rfl⟩
          go_wp2_with fail
          go_roundw
          case rel => exact ⟨k + 1, r.set k (upS (nth l k)), by omega, by go_num, HOW.out.set hlt (up_bd HBD.out), HBE.out.setCell hg _, KEY.out _ HE.out⟩
          case measure => simp [intOf]; omega
        · have HE := hide (show upS (nth l 0) = eltS 3 0 (nth l 0) by unfold eltS; simp)
          go_wp2_with fail
          refine (HUP.out _ _ HBD.out).mono ?_
          rintro e w' ⟨rfl, rfl⟩
          go_wp2_with fail
          go_roundw
          case rel => exact ⟨1, r.set 0 (upS (nth l 0)), by omega, by go_num, HOW.out.set hlt (up_bd HBD.out), HBE.out.setCell hg _, KEY.out _ HE.out⟩
          case measure => simp [intOf]; omega
        · have HE := hide (show loS (nth l k) = eltS 2 k (nth l k) by unfold eltS; simp)
          go_wp2_with fail
          refine (HLO.out _ _ HBD.out).mono ?_
          rintro e w' ⟨rfl, rfl⟩
          go_wp2_with fail
          go_roundw
          case rel => exact ⟨k + 1, r.set k (loS (nth l k)), by omega, by go_num, HOW.out.set hlt (lo_bd HBD.out), HBE.out.setCell hg _, KEY.out _ HE.out⟩
          case measure => simp [intOf]; omega
        · have e0 : ((k : Int) == 0) = false := by simpa using h0
          have HE := hide (show nth l k = eltS 3 k (nth l k) by unfold eltS; simp [h0])
          clear h0
          go_wp2_with fail
          go_roundw
          case rel => exact ⟨k + 1, r, by omega, by go_num, HOW.out, HBE.out, KEY2.out HE.out⟩
          case measure => simp [intOf]; omega
        · have HE := hide (show nth l k = eltS how k (nth l k) by unfold eltS; simp [m1, m2, m3])
          have e1 : (how == 1) = false := by simpa using m1
          have e2 : (how == 2) = false := by simpa using m2
          have e3 : (how == 3) = false := by simpa using m3
          clear m1 m2 m3
          go_wp2_with fail
          go_roundw
          case rel => exact ⟨k + 1, r, by omega, by go_num, HOW.out, HBE.out, KEY2.out HE.out⟩
          case measure => simp [intOf]; omega
      · obtain rfl : k = n := by omega
        have HE := hide (eltS_all HN4.out HN5.out (by rw [HOW.out.len, HL.out]) (fun j h => (hj.out j).1 (by have := HL.out; omega)))
        go_wp2
        go_ret
        exact ⟨A1, k, c1, rfl, by rw [← HE.out]; exact HOW.out, HBE.out⟩
end Go.Proofs.Ytkfihnkghiajiaa
