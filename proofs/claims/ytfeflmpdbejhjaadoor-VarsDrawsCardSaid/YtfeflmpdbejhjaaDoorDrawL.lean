/- Plain laws of VarsDraws: a variable takes no draw, one or five; earlier draws do not matter. -/
import Derived.Test.YtfeflmpdbejhjaaDoorNumb16
namespace Go.Proofs.YtfeflmpdbejhjaaDoor
open Go.RowKit
set_option linter.unusedVariables false

theorem drawS_drop (d : List Int) (u k : Nat) : drawS (d.drop u) k = drawS d (u + k) := by
  unfold drawS
  rw [List.length_drop, nth_drop]
  by_cases h : u + k < d.length
  · rw [if_pos (by omega), if_pos h]
  · rw [if_neg (by omega), if_neg h]
theorem dN_drop (d : List Int) (u k : Nat) : dN (d.drop u) k = dN d (u + k) := by
  unfold dN
  rw [drawS_drop]
theorem hexs_drop (d : List Int) (u : Nat) : ∀ k, hexs (d.drop u) 0 k = hexs d u k
  | 0 => rfl
  | k + 1 => by
    show hexs (d.drop u) 0 k ++ rowH (dN (d.drop u) (0 + k)) 6 = hexs d u k ++ rowH (dN d (u + k)) 6
    rw [hexs_drop d u k, dN_drop, Nat.zero_add]
theorem drawnB_drop (d : List Int) (u : Nat) (S : List UInt8) : drawnB (d.drop u) 0 S = drawnB d u S := by
  unfold drawnB
  rw [dN_drop, hexs_drop, Nat.add_zero]
theorem drawnB_by3 (d : List Int) (u : Nat) (S : List UInt8) : (drawnB d u S).2 = 0 ∨ (drawnB d u S).2 = 1 ∨ (drawnB d u S).2 = 5 := by
  unfold drawnB
  cases S == [82, 65, 78, 68, 79, 77]
  · cases S == [82, 65, 78, 68, 79, 77, 95, 72, 69, 88]
    · cases S == [85, 85, 73, 68] <;> simp
    · simp
  · simp
theorem padD_six {u : Nat} (h : u < 1000000) : (padD u 6).length = 6 := by
  unfold padD
  rw [rowD_len]
  have : Lib.nDigits u ≤ 6 := nD_le (by omega) ((Nat.div_eq_zero_iff_lt (by omega)).2 (by omega))
  omega
theorem drawnB_six {d : List Int} {u : Nat} {S : List UInt8} (h : 0 < (drawnB d u S).2) : (ru (drawnB d u S).1).length = 6 ∨ (ru (drawnB d u S).1).length = 36 := by
  rw [ru_len]
  unfold drawnB at h ⊢
  cases h0 : S == [82, 65, 78, 68, 79, 77]
  · rw [h0] at h
    cases h1 : S == [82, 65, 78, 68, 79, 77, 95, 72, 69, 88]
    · rw [h1] at h
      cases h2 : S == [85, 85, 73, 68]
      · rw [h2] at h
        exact absurd h (by simp)
      · exact .inr (uuidB_len (hexs_len d u 5))
    · exact .inl (rowH_len _ _)
  · exact .inl (padD_six (Nat.mod_lt _ (by omega)))
/-- What a name tells at an environment that may be, and at another that has the later draws alone. -/
structure DrawR (v : EnvV) (l : List Int) (u : Nat) (o : Option (List Int)) (n : Int) (by_ : Nat) : Prop where
  val : valE v l (u : Int) = (o, n)
  num : n = (u : Int) + (by_ : Int)
  three : by_ = 0 ∨ by_ = 1 ∨ by_ = 5
  none_ : o = none → by_ = 0
  six : 0 < by_ → ∀ x, o = some x → x.length = 6 ∨ x.length = 36
  later : ∀ (vf : EnvV) (x : List Int), o = some x → mayE vf = true → vf.d = v.d.drop u → (by_ = 0 → vf.t = v.t ∧ vf.ix = v.ix ∧ vf.ck = v.ck) → valE vf l 0 = (some x, (by_ : Int))
theorem drawR_of {v : EnvV} {u : Nat} (hm : mayE v = true) (hu : u ≤ 1000) (l : List Int) : ∃ o n by_, DrawR v l u o n by_ := by
  cases hs : mayS l
  · have h0 := valE_no (v := v) (l := l) (used := (u : Int)) (fun h => by rw [hs] at h; cases h.2.2.2)
    exact ⟨none, (u : Int), 0, h0, by omega, .inl rfl, fun _ => rfl, fun h => absurd h (by omega), fun vf x h => by cases h⟩
  · have h0 := valE_yes (v := v) (l := l) hm hu hs
    by_cases hk : 0 < (drawnB v.d u (runesBytes l).toList).2
    · have h1 : valS v (runesBytes l).toList u = (some (ru (drawnB v.d u (runesBytes l).toList).1), u + (drawnB v.d u (runesBytes l).toList).2) := by
        unfold valS
        rw [if_pos hk]
      rw [h1] at h0
      refine ⟨_, _, (drawnB v.d u (runesBytes l).toList).2, h0, by omega, drawnB_by3 _ _ _, (fun h => by cases h), fun _ x hx => ?_, fun vf x hx hf hd _ => ?_⟩
      · injection hx with hx
        rw [← hx]
        exact drawnB_six hk
      · injection hx with hx
        have h2 := valE_yes (v := vf) (l := l) (u := 0) hf (by omega) hs
        have h3 : valS vf (runesBytes l).toList 0 = (some (ru (drawnB v.d u (runesBytes l).toList).1), (drawnB v.d u (runesBytes l).toList).2) := by
          unfold valS
          rw [hd, drawnB_drop, if_pos hk, Nat.zero_add]
        rw [h3, hx] at h2
        exact h2
    · have h1 : valS v (runesBytes l).toList u = (sel (toldL v (uN v) (cN v)) (runesBytes l).toList, u) := by
        unfold valS
        rw [if_neg hk]
      rw [h1] at h0
      refine ⟨_, _, 0, h0, by omega, .inl rfl, fun _ => rfl, fun h => absurd h (by omega), fun vf x hx hf hd he => ?_⟩
      obtain ⟨e1, e2, e3⟩ := he rfl
      have h2 := valE_yes (v := vf) (l := l) (u := 0) hf (by omega) hs
      have h3 : valS vf (runesBytes l).toList 0 = (sel (toldL v (uN v) (cN v)) (runesBytes l).toList, 0) := by
        unfold valS
        rw [hd, drawnB_drop, if_neg hk]
        have e4 : uN vf = uN v := by unfold uN; rw [e2]
        have e5 : cN vf = cN v := by unfold cN; rw [e3]
        have e6 : toldL vf (uN v) (cN v) = toldL v (uN v) (cN v) := by unfold toldL; rw [e1]
        rw [e4, e5, e6]
      rw [h3] at h2
      rw [← hx]
      exact h2
theorem mayE_d {v : EnvV} (h : mayE v = true) {d : List Int} (hl : d.length ≤ 40) (hd : ∀ x ∈ d, 0 ≤ x ∧ x ≤ 16777215) : mayE (v.setD d) = true := by
  unfold mayE at h
  simp only [Bool.and_eq_true, decide_eq_true_eq] at h
  obtain ⟨⟨⟨⟨⟨⟨⟨⟨⟨s0, s1⟩, s2⟩, s3⟩, s4⟩, s5⟩, hix⟩, hdl⟩, hdd⟩, hck⟩ := h
  refine mayE_yes s0 s1 s2 s3 s4 s5 hix hl ?_ hck
  show (d.all fun x => inB x 0 16777215) = true
  rw [List.all_eq_true]
  exact fun x hx => inB_iff.2 (hd x hx)
end Go.Proofs.YtfeflmpdbejhjaaDoor
