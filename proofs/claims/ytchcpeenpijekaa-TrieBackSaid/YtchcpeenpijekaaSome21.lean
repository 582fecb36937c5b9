/- Law 21: the word that some makes. -/
import Derived.Test.YtchcpeenpijekaaKnown21
namespace Go.Proofs.Ytchcpeenpijekaa
open Go.RowKit
set_option linter.unusedVariables false

theorem and_ffff (x : Int) : 0 ≤ bits .and .i32 x 65535 ∧ bits .and .i32 x 65535 ≤ 65535 := by
  have h : bits .and .i32 x 65535 = IntKind.i32.wrap ((BitVec.ofInt 32 x &&& BitVec.ofInt 32 65535).toNat : Int) := rfl
  have hb : (BitVec.ofInt 32 x &&& BitVec.ofInt 32 65535).toNat ≤ 65535 := by
    rw [BitVec.toNat_and]
    refine Nat.le_trans Nat.and_le_right ?_
    decide
  rw [h, IntKind.wrap_i32]
  omega
def SomeQ (w : World) (few : Bool) (e : Ending) (w' : World) : Prop := ∃ A' n' c' l', e = .returned (.slice A' n' c') ∧ Runes w' A' n' l' ∧ n' ≤ 12 ∧ n' ≤ c' ∧ c' ≤ 9223372036854775807 ∧ Below w.heap.size w w' ∧ (few = true → ∀ x ∈ l', x = 97 ∨ x = 98)

set_option maxRecDepth 100000 in
set_option maxHeartbeats 1000000 in
theorem some_any (few : Bool) (A : Option Addr) (n c : Nat) (l : List Int) (w : World) (hA : Runes w A n l) (hc : n ≤ c) (hcm : c ≤ 9223372036854775807) :
    Calls Try.prog 12 #[.slice A n c, .bool few] w (SomeQ w few) := by
  have C1 := hide (cut_any A n c 12 w hc hcm (by omega))
  have hmn : min n 12 ≤ n := Nat.min_le_left _ _
  have hm12 : min n 12 ≤ 12 := Nat.min_le_right _ _
  have HA := hide (hA.take hmn)
  obtain ⟨m, hm⟩ : ∃ m, min n 12 = m := ⟨_, rfl⟩
  obtain ⟨a, ha⟩ : ∃ a, l.take m = a := ⟨_, rfl⟩
  rw [hm, ha] at HA
  rw [hm] at C1 hmn hm12
  clear hA hm ha
  cases few with
  | false =>
    go_enter Try.func12, Try.ntmps12
    go_wp2_with (go_at_call 32; refine C1.out.mono ?_; rintro e w1 ⟨rfl, rfl⟩)
    go_ret
    exact ⟨A, m, c, a, rfl, HA.out, hm12, by omega, hcm, Below.refl _ _, fun h => by cases h⟩
  | true =>
    go_enter Try.func12, Try.ntmps12
    go_wp2_with (go_at_call 32; refine C1.out.mono ?_; rintro e w1 ⟨rfl, rfl⟩)
    clear C1
    go_loopw [5, 6] (fun s5 s6 wr => ∃ (i : Nat) (O : Option Addr) (co : Nat) (o : List Int), i ≤ m ∧ i ≤ 4 ∧ s6 = .int .i64 i ∧ s5 = .slice O i co ∧ Hid (Own wr w.heap.size O i co o) ∧ (∀ x ∈ o, x = 97 ∨ x = 98) ∧ Hid (Below w.heap.size w wr)) (fun _ s6 _ => m - (intOf s6).toNat)
    case atStart => exact ⟨0, none, 0, [], Nat.zero_le _, Nat.zero_le _, rfl, rfl, Own.nil _ _, (fun x hx => by cases hx), Below.refl _ _⟩
    case round =>
      obtain ⟨i, O, co, o, hi, hi4, rfl, rfl, HO, ho, HB⟩ := hrel
      by_cases hlt : i < m ∧ i < 4
      · obtain ⟨hlt, hl4⟩ := hlt
        obtain ⟨b, oo, hAA, h1⟩ := (HA.out.below HB.out).at_ i hlt
        subst hAA
        have i0 : (0 : Int) ≤ (i : Int) := by omega
        have i1 : (i : Int) < (m : Int) := by omega
        have i4 : (i : Int) < 4 := by omega
        have hz := and_ffff (nth a i)
        generalize hzz : bits .and .i32 (nth a i) 65535 = z at hz
        go_wp2_with (at_builtin; refine wpList_app1 rfl (.tmp 22) (.tmp 30) rfl w.heap.size rfl (HO.out.alloc _) rfl (Runes.news wr #[.int .i32 (97 + z % 2)] 21 [97 + z % 2] rfl (W32.one (by omega))) (by omega) (by have := HB.out.size; simp; omega) ?_; intro A2 c2 w2 hown2 _ hor)
        have HO2 := hide hown2
        have HB2 := hide (show Below w.heap.size w w2 from by
          have h1 := HB.out.alloc HB.out.size (.cells #[.int .i32 (97 + z % 2)] 21)
          rcases hor with ⟨_, _, hg⟩ | ⟨_, hb⟩
          · exact h1.grown hg (by have := HB.out.size; simp; omega) fun g e => (HO.out.blk_ge g e).1
          · exact h1.trans (hb.mono (by have := HB.out.size; simp; omega)))
        clear hown2 hor
        go_roundw
        case rel => exact ⟨i + 1, A2, c2, _, by omega, by omega, by go_num, rfl, HO2.out, (fun x hx => by
          rcases List.mem_append.1 hx with hx | hx
          · exact ho x hx
          · rw [List.mem_singleton.1 hx]; omega), HB2.out⟩
        case measure => simp [intOf]; omega
      · have hd : (¬ i < m) ∨ ((i : Int) < (m : Int) ∧ decide ((i : Int) < 4) = false) := by
          by_cases h : i < m
          · exact .inr ⟨by omega, by simp; omega⟩
          · exact .inl h
        have hcap := HO.out.cap
        have HR := hide (show SomeQ w true (.returned (.slice O i co)) wr from ⟨O, i, co, o, rfl, HO.out.runes, by omega, hcap.1, hcap.2, HB.out, fun _ => ho⟩)
        clear hlt
        rcases hd with d1 | ⟨d1, d2⟩
        all_goals
          go_wp2_with fail
          go_ret
          exact HR.out
end Go.Proofs.Ytchcpeenpijekaa
