/- Contracts of the small functions on texts: is an element a sign, may a text be, are texts the same; Go's slices.IndexFunc, ContainsFunc, Equal, at runes. -/
import Derived.Test.YtfeflmpdbejhjaaDoorMem
namespace Go.Proofs.YtfeflmpdbejhjaaDoor
open Go.RowKit
set_option linter.unusedVariables false

/-- Is a number a sign? -/
def isS (r : Int) : Bool := decide (0 ≤ r) && decide (r ≤ 1114111) && (decide (r < 55296) || decide (57343 < r))
def mayS (l : List Int) : Bool := l.all isS
def sameS (a b : List Int) : Bool := decide (a = b)

set_option maxHeartbeats 400000 in
theorem sign_any (r : Int) (w : World) :
    Calls Tryd.prog 60 #[.int .i32 r] w fun e w' => e = .returned (.bool (isS r)) ∧ w = w' := by
  go_enter Tryd.func60, Tryd.ntmps60
  go_wp2
  all_goals go_ret
  all_goals refine ⟨retB ?_, rfl⟩
  all_goals rw [Bool.eq_iff_iff]; simp [isS]; try omega

set_option maxHeartbeats 400000 in
theorem is_any (r : Int) (w : World) :
    Calls Tryd.prog 40 #[.int .i32 r] w fun e w' => e = .returned (.bool (isS r)) ∧ w = w' := by
  go_enter Tryd.func40, Tryd.ntmps40
  go_wp2
  all_goals go_ret
  all_goals refine ⟨retB ?_, rfl⟩
  all_goals rw [Bool.eq_iff_iff]; simp [isS]; try omega

theorem mayS_yes {l : List Int} (h : ∀ j, j < l.length → isS (nth l j) = true) : mayS l = true := by
  unfold mayS
  rw [List.all_eq_true]
  intro x hx
  obtain ⟨j, hj, rfl⟩ := mem_nth hx
  exact h j hj
theorem mayS_no {l : List Int} {j : Nat} (hj : j < l.length) (h : isS (nth l j) = false) : mayS l = false := by
  cases hm : mayS l
  · rfl
  · rw [mayS, List.all_eq_true] at hm
    rw [hm _ (nth_mem hj)] at h
    cases h

set_option maxHeartbeats 400000 in
theorem refMay_any (A : Option Addr) (n c : Nat) (l : List Int) (w : World) (h : Runes w A n l) (hn : n ≤ 9223372036854775807) :
    Calls Tryd.prog 49 #[.slice A n c] w fun e w' => e = .returned (.bool (mayS l)) ∧ w = w' := by
  have HL := hide h.len
  go_enter Tryd.func49, Tryd.ntmps49
  go_wp2_with fail
  go_loop [3] (fun i => ∃ k : Nat, k ≤ n ∧ i = .int .i64 k ∧ Hid (∀ j, j < k → isS (nth l j) = true)) (fun i => n - (intOf i).toNat)
  case atStart => exact ⟨0, Nat.zero_le _, rfl, fun j hj => absurd hj (by omega)⟩
  case round =>
    obtain ⟨k, hk, rfl, hj⟩ := hrel
    by_cases hlt : k < n
    · obtain ⟨ab, ao, rfl, hc⟩ := h.at_ k hlt
      cases hs : isS (nth l k)
      · go_wp2_with (go_at_call 60; refine (sign_any _ _).mono ?_; rintro e w' ⟨rfl, rfl⟩)
        go_ret
        exact ⟨retB (mayS_no (by rw [HL.out]; exact hlt) hs).symm, rfl⟩
      · have HS := hide hs
        go_wp2_with (go_at_call 60; refine (sign_any _ _).mono ?_; rintro e w' ⟨rfl, rfl⟩)
        go_round
        case rel => exact ⟨k + 1, by omega, by go_num, fun j h' => (by
          rcases Nat.lt_succ_iff_lt_or_eq.1 h' with h1 | h1
          · exact hj.out j h1
          · rw [h1]; exact HS.out)⟩
        case measure => simp [intOf]; omega
    · go_wp2
      go_ret
      exact ⟨retB (mayS_yes (fun j h' => hj.out j (by have := HL.out; omega))).symm, rfl⟩


theorem sameS_no {a b : List Int} {j : Nat} (h : nth a j ≠ nth b j) : sameS a b = false := by
  unfold sameS
  exact decide_eq_false (fun e => h (by rw [e]))
theorem sameS_len {a b : List Int} (h : a.length ≠ b.length) : sameS a b = false := by
  unfold sameS
  exact decide_eq_false (fun e => h (by rw [e]))
theorem sameS_yes {a b : List Int} (hl : a.length = b.length) (h : ∀ j, j < a.length → nth a j = nth b j) : sameS a b = true := by
  unfold sameS
  exact decide_eq_true (ext_nth hl h)

set_option maxHeartbeats 400000 in
theorem refSame_any (A B : Option Addr) (n c m d : Nat) (a b : List Int) (w : World) (ha : Runes w A n a) (hb : Runes w B m b) (hn : n ≤ 9223372036854775807) (hm : m ≤ 9223372036854775807) :
    Calls Tryd.prog 14 #[.slice A n c, .slice B m d] w fun e w' => e = .returned (.bool (sameS a b)) ∧ ∃ q, w' = w.drewN q := by
  have HA := hide ha.len
  have HB := hide hb.len
  by_cases hnm : n = m
  · subst hnm
    go_enter Tryd.func14, Tryd.ntmps14
    go_wp2_with fail
    go_loopw [5] (fun i wr => ∃ k q : Nat, k ≤ n ∧ i = .int .i64 k ∧ wr = w.drewN q ∧ Hid (∀ j, j < k → nth a j = nth b j)) (fun i _ => n - (intOf i).toNat)
    case atStart => exact ⟨0, 0, Nat.zero_le _, rfl, rfl, fun j hj => absurd hj (by omega)⟩
    case round =>
      obtain ⟨k, q, hk, rfl, rfl, hj⟩ := hrel
      by_cases hlt : k < n
      · obtain ⟨ab, ao, rfl, hc⟩ := ha.at_ k hlt
        obtain ⟨bb, bo, rfl, hd⟩ := hb.at_ k hlt
        have h1 : (k : Int) < (n : Int) := by omega
        have h0 : (0 : Int) ≤ (k : Int) := by omega
        by_cases hs : nth a k = nth b k
        · have HS := hide hs
          have hs' : (nth a k != nth b k) = false := by rw [hs]; simp
          clear hs
          go_wp2_with fail
          go_quiet (fail)
          go_wp2
          go_roundw
          case rel => exact ⟨k + 1, _, by omega, by go_num, rfl, fun j h' => (by
            rcases Nat.lt_succ_iff_lt_or_eq.1 h' with h1 | h1
            · exact hj.out j h1
            · rw [h1]; exact HS.out)⟩
          case measure => simp [intOf]; omega
        · have HS := hide hs
          have hs' : (nth a k != nth b k) = true := by simpa using hs
          clear hs
          go_wp2_with fail
          go_quiet (fail)
          go_wp2
          go_ret
          exact ⟨retB (sameS_no HS.out).symm, _, World.drewN_drewN _ _ _⟩
      · go_wp2
        go_ret
        exact ⟨retB (sameS_yes (by rw [HA.out, HB.out]) (fun j h' => hj.out j (by have := HA.out; omega))).symm, _, rfl⟩
  · have hs' : ((n : Int) != (m : Int)) = true := by simp; omega
    go_enter Tryd.func14, Tryd.ntmps14
    go_wp2
    go_ret
    exact ⟨retB (sameS_len (by rw [HA.out, HB.out]; exact hnm)).symm, 0, rfl⟩


/-- The first place at which p holds, from k on; -1: none. -/
def idxF (p : Int → Bool) (l : List Int) : Int := match l.findIdx? p with | some i => (i : Int) | none => -1

theorem idxF_at {p : Int → Bool} {l : List Int} {k : Nat} (hk : k < l.length) (h : p (nth l k) = true) (hj : ∀ j, j < k → p (nth l j) = false) : idxF p l = (k : Int) := by
  have : l.findIdx? p = some k := by
    rw [List.findIdx?_eq_some_iff_getElem]
    refine ⟨hk, by rw [← nth_eq hk]; exact h, fun j hlt => ?_⟩
    have := hj j hlt
    rw [nth_eq (by omega)] at this
    simp [this]
  simp [idxF, this]
theorem idxF_no {p : Int → Bool} {l : List Int} (hj : ∀ j, j < l.length → p (nth l j) = false) : idxF p l = -1 := by
  have : l.findIdx? p = none := by
    rw [List.findIdx?_eq_none_iff]
    intro x hx
    obtain ⟨j, hlt, rfl⟩ := mem_nth hx
    exact hj j hlt
  simp [idxF, this]

set_option maxHeartbeats 400000 in
theorem indexFunc_any (g : FuncId) (eg : ∀ args w, (callFunc g args).run Tryd.prog w = .ok (.enter g args) w) (p : Int → Bool) (hg : ∀ (r : Int) (w : World), Calls Tryd.prog g #[.int .i32 r] w fun e w' => e = .returned (.bool (p r)) ∧ w = w')
    (A : Option Addr) (n c : Nat) (l : List Int) (w : World) (h : Runes w A n l) (hn : n ≤ 9223372036854775807) :
    Calls Tryd.prog 50 #[.slice A n c, .func (.func g) #[] #[]] w fun e w' => e = .returned (.int .i64 (idxF p l)) ∧ w = w' := by
  have HL := hide h.len
  have HG := hide hg
  clear hg
  go_enter Tryd.func50, Tryd.ntmps50
  go_wp2_with fail
  go_loop [5, 8] (fun _ i => ∃ k : Nat, k ≤ n ∧ i = .int .i64 k ∧ Hid (∀ j, j < k → p (nth l j) = false)) (fun _ i => n - (intOf i).toNat)
  case atStart => exact ⟨0, Nat.zero_le _, rfl, fun j hj => absurd hj (by omega)⟩
  case round =>
    obtain ⟨k, hk, rfl, hj⟩ := hrel
    by_cases hlt : k < n
    · obtain ⟨ab, ao, rfl, hc⟩ := h.at_ k hlt
      cases hs : p (nth l k)
      · have HS := hide hs
        go_wp2_with fail
        refine (HG.out _ _).mono ?_
        rintro e w' ⟨rfl, rfl⟩
        go_wp2
        go_round
        case rel => exact ⟨k + 1, by omega, by go_num, fun j h' => (by
          rcases Nat.lt_succ_iff_lt_or_eq.1 h' with h1 | h1
          · exact hj.out j h1
          · rw [h1]; exact HS.out)⟩
        case measure => simp [intOf]; omega
      · have HS := hide hs
        go_wp2_with fail
        refine (HG.out _ _).mono ?_
        rintro e w' ⟨rfl, rfl⟩
        go_wp2
        go_ret
        exact ⟨retI (idxF_at (by rw [HL.out]; exact hlt) HS.out hj.out).symm, rfl⟩
    · go_wp2
      go_ret
      exact ⟨retI (idxF_no (fun j h' => hj.out j (by have := HL.out; omega))).symm, rfl⟩


set_option maxHeartbeats 400000 in
theorem containsFunc_any (g : FuncId) (eg : ∀ args w, (callFunc g args).run Tryd.prog w = .ok (.enter g args) w) (p : Int → Bool) (hg : ∀ (r : Int) (w : World), Calls Tryd.prog g #[.int .i32 r] w fun e w' => e = .returned (.bool (p r)) ∧ w = w')
    (A : Option Addr) (n c : Nat) (l : List Int) (w : World) (h : Runes w A n l) (hn : n ≤ 9223372036854775807) :
    Calls Tryd.prog 38 #[.slice A n c, .func (.func g) #[] #[]] w fun e w' => e = .returned (.bool (l.any p)) ∧ w = w' := by
  have HG := hide hg
  clear hg
  have hi : (decide (0 ≤ idxF p l)) = l.any p := by
    cases hf : l.findIdx? p with
    | none =>
      have : l.any p = false := by
        rw [List.findIdx?_eq_none_iff] at hf
        rw [List.any_eq_false]
        intro x hx
        simp [hf x hx]
      rw [this]; simp [idxF, hf]
    | some i =>
      have : l.any p = true := by
        rw [List.findIdx?_eq_some_iff_getElem] at hf
        obtain ⟨h1, h2, _⟩ := hf
        rw [List.any_eq_true]
        exact ⟨_, List.getElem_mem h1, h2⟩
      rw [this]; simp [idxF, hf]
  have HI := hide hi
  clear hi
  go_enter Tryd.func38, Tryd.ntmps38
  go_wp2_with fail
  refine (indexFunc_any g eg p HG.out A n c l w h hn).mono ?_
  rintro e w' ⟨rfl, rfl⟩
  go_wp2
  all_goals go_ret
  all_goals first | exact ⟨retB HI.out, rfl⟩ | exact ⟨retB (by rw [← HI.out]; simp; omega), rfl⟩

set_option maxHeartbeats 400000 in
theorem mayNot_any (r : Int) (w : World) :
    Calls Tryd.prog 39 #[.int .i32 r] w fun e w' => e = .returned (.bool (!isS r)) ∧ w = w' := by
  go_enter Tryd.func39, Tryd.ntmps39
  go_wp2_with fail
  refine (is_any _ _).mono ?_
  rintro e w' ⟨rfl, rfl⟩
  go_wp2
  go_ret
  exact ⟨rfl, rfl⟩

theorem not_any (l : List Int) : (!l.any fun r => !isS r) = mayS l := by
  unfold mayS
  induction l with
  | nil => rfl
  | cons x l ih => simp only [List.any_cons, List.all_cons, ← ih, Bool.not_or, Bool.not_not]

set_option maxHeartbeats 400000 in
theorem may_any (A : Option Addr) (n c : Nat) (l : List Int) (w : World) (h : Runes w A n l) (hn : n ≤ 9223372036854775807) :
    Calls Tryd.prog 22 #[.slice A n c] w fun e w' => e = .returned (.bool (mayS l)) ∧ w = w' := by
  go_enter Tryd.func22, Tryd.ntmps22
  go_wp2_with fail
  refine (containsFunc_any 39 Tryd.call39 (fun r => !isS r) mayNot_any A n c l w h hn).mono ?_
  rintro e w' ⟨rfl, rfl⟩
  go_wp2
  go_ret
  exact ⟨retB (not_any l), rfl⟩

end Go.Proofs.YtfeflmpdbejhjaaDoor
