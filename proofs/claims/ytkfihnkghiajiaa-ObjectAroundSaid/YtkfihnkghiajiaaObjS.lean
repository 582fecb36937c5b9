/- Contracts of layer 25's functions that answer spans: both. -/
import Derived.Test.YtkfihnkghiajiaaObjB
namespace Go.Proofs.Ytkfihnkghiajiaa
open Go.RowKit
set_option linter.unusedVariables false

theorem open_lt {s : List Int} {o c : Int} : ∀ {k n f : Nat}, openS s o c n k = some f → f < k ∧ nth s f = o
  | 0, n, f, h => by cases h
  | k + 1, n, f, h => by
    rw [openS] at h
    split at h
    · have := open_lt h; exact ⟨by omega, this.2⟩
    · split at h
      · rename_i ho
        split at h
        · injection h with h
          subst h
          exact ⟨by omega, ho⟩
        · have := open_lt h; exact ⟨by omega, this.2⟩
      · have := open_lt h; exact ⟨by omega, this.2⟩
theorem shut_bd {o c : Int} : ∀ {l : List Int} {dp : Int} {a t : Nat}, shutS o c dp a l = some t → a ≤ t ∧ t < a + l.length
  | [], dp, a, t, h => by cases h
  | x :: l, dp, a, t, h => by
    rw [shutS] at h
    generalize (if x = o then dp + 1 else if x = c then dp - 1 else dp) = e at h
    by_cases he : e = 0
    · have h1 : a = t := by simpa [he] using h
      subst h1
      simp
    · have h1 : shutS o c e (a + 1) l = some t := by simpa [he] using h
      have := shut_bd h1
      rw [List.length_cons]
      omega

set_option maxHeartbeats 1000000 in
theorem both_any (f t : Nat) (around : Bool) (w : World) (F T : Int) (hf : f ≤ 35184372088832) (ht : t ≤ 35184372088832) (hF : F = if around then (f : Int) else (f : Int) + 1) (hT : T = if around then (t : Int) + 1 else (t : Int)) :
    Calls Try.prog 67 #[.int .i64 f, .int .i64 t, .bool around] w fun e w' => e = .returned (.agg #[.int .i64 F, .int .i64 T]) ∧ Below w.heap.size w w' := by
  cases around
  · have hF' : F = (f : Int) + 1 := by simpa using hF
    have hT' : T = (t : Int) := by simpa using hT
    subst hF' hT'
    clear hF hT
    go_enter Try.func67, Try.ntmps67
    go_wp2_with fail
    obtain ⟨⟨r0, r1⟩, _⟩ := (Box.new w 47 #[.int .i64 ((f : Int) + 1), .int .i64 (t : Int)]).c2
    exact bodyPost_ret (v := .agg #[.int .i64 ((f : Int) + 1), .int .i64 (t : Int)]) (by simp [results, Try.results67, go_sem, r0, r1]) rfl ⟨rfl, (Below.refl _ _).alloc (Nat.le_refl _) _⟩
  · have hF' : F = (f : Int) := by simpa using hF
    have hT' : T = (t : Int) + 1 := by simpa using hT
    subst hF' hT'
    clear hF hT
    go_enter Try.func67, Try.ntmps67
    go_wp2_with fail
    obtain ⟨⟨r0, r1⟩, _⟩ := (Box.new w 47 #[.int .i64 (f : Int), .int .i64 ((t : Int) + 1)]).c2
    exact bodyPost_ret (v := .agg #[.int .i64 (f : Int), .int .i64 ((t : Int) + 1)]) (by simp [results, Try.results67, go_sem, r0, r1]) rfl ⟨rfl, (Below.refl _ _).alloc (Nat.le_refl _) _⟩
end Go.Proofs.Ytkfihnkghiajiaa
