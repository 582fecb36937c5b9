/- Contracts of layer 25's functions on brackets: pair. -/
import Derived.Test.YtkfihnkghiajiaaObjX
namespace Go.Proofs.Ytkfihnkghiajiaa
open Go.RowKit
set_option linter.unusedVariables false

theorem pairS_none1 {s : List Int} {at_ : Nat} {o c : Int} {around : Bool} (h : (if nth s at_ = o then some at_ else openS s o c 0 at_) = none) : pairS s at_ o c around = none := by
  unfold pairS
  rw [h]
theorem pairS_none2 {s : List Int} {at_ f : Nat} {o c : Int} {around : Bool} (h : (if nth s at_ = o then some at_ else openS s o c 0 at_) = some f) (h2 : shutS o c 0 f (s.drop f) = none) : pairS s at_ o c around = none := by
  unfold pairS
  rw [h]
  show (match shutS o c 0 f (s.drop f) with | none => none | some t => if t < at_ then none else if around then some (f, t + 1) else some (f + 1, t)) = none
  rw [h2]
theorem pairS_some {s : List Int} {at_ f t : Nat} {o c : Int} {around : Bool} (h : (if nth s at_ = o then some at_ else openS s o c 0 at_) = some f) (h2 : shutS o c 0 f (s.drop f) = some t) :
    pairS s at_ o c around = if t < at_ then none else if around then some (f, t + 1) else some (f + 1, t) := by
  unfold pairS
  rw [h]
  show (match shutS o c 0 f (s.drop f) with | none => none | some t => if t < at_ then none else if around then some (f, t + 1) else some (f + 1, t)) = _
  rw [h2]
theorem opened_lt {s : List Int} {at_ f : Nat} {o c : Int} (h : (if nth s at_ = o then some at_ else openS s o c 0 at_) = some f) : f ≤ at_ ∧ nth s f = o := by
  split at h
  · injection h with h
    subst h
    exact ⟨Nat.le_refl _, by assumption⟩
  · have := open_lt h
    exact ⟨by omega, this.2⟩

set_option maxRecDepth 100000 in
set_option maxHeartbeats 4000000 in
theorem pair_any (S : Option Addr) (k d at_ : Nat) (o c : Int) (around : Bool) (s : List Int) (w : World) (F T : Nat) (ok : Bool) (hS : Runes w S k s) (hk : k ≤ 35184372088000) (ha : at_ < k) (hoc : o ≠ c)
    (hF : F = spF (pairS s at_ o c around)) (hT : T = spT (pairS s at_ o c around)) (hok : ok = (pairS s at_ o c around).isSome) :
    Calls Try.prog 54 #[.slice S k d, .int .i64 at_, .int .i32 o, .int .i32 c, .bool around] w fun e w' =>
      e = .returned (.tuple #[.agg #[.int .i64 F, .int .i64 T], .bool ok]) ∧ Below w.heap.size w w' := by
  have HSL := hide hS.len
  have HF := hide hF
  have HT := hide hT
  have HO := hide hok
  have HX0 := hide (Box.new w 47 #[.int .i64 0, .int .i64 0])
  have HB0 := hide ((Below.refl _ w).alloc (Nat.le_refl _) (.cells #[.int .i64 0, .int .i64 0] 47))
  have HSZ := hide (hS.alloc (.cells #[.int .i64 0, .int .i64 0] 47))
  have HOC := hide hoc
  clear hF hT hok hS hoc
  cases hop : (if nth s at_ = o then some at_ else openS s o c 0 at_) with
  | none =>
    have hn := pairS_none1 (around := around) hop
    rw [hn] at HF HT HO
    obtain rfl : F = 0 := HF.out
    obtain rfl : T = 0 := HT.out
    obtain rfl : ok = false := HO.out
    have HOP := hide (fun W (hW : Runes W S k s) => opening_any S k d at_ o c (-1) s W hW (by omega) ha HOC.out (by rw [hop]; rfl))
    clear hn hop
    go_enter Try.func54, Try.ntmps54
    go_wp2_with fail
    refine (HOP.out _ HSZ.out).mono ?_
    rintro e w' ⟨rfl, rfl⟩
    go_wp2_with fail
    obtain ⟨⟨r0, r1⟩, _⟩ := HX0.out.c2
    exact bodyPost_ret (v := .tuple #[.agg #[.int .i64 0, .int .i64 0], .bool false]) (by simp [results, Try.results54, go_sem, r0, r1]) rfl ⟨rfl, HB0.out⟩
  | some f =>
    have hf := (opened_lt hop).1
    have HOP := hide (fun W (hW : Runes W S k s) => opening_any S k d at_ o c f s W hW (by omega) ha HOC.out (by rw [hop]; rfl))
    cases hsh : shutS o c 0 f (s.drop f) with
    | none =>
      have hn := pairS_none2 (around := around) hop hsh
      rw [hn] at HF HT HO
      obtain rfl : F = 0 := HF.out
      obtain rfl : T = 0 := HT.out
      obtain rfl : ok = false := HO.out
      have HSH := hide (fun W (hW : Runes W S k s) => closing_any S k d f o c (-1) s W hW (by omega) (by omega) HOC.out (by rw [hsh]; rfl))
      clear hn hop hsh
      go_enter Try.func54, Try.ntmps54
      go_wp2_with fail
      refine (HOP.out _ HSZ.out).mono ?_
      rintro e w' ⟨rfl, rfl⟩
      go_wp2_with fail
      refine (HSH.out _ HSZ.out).mono ?_
      rintro e w' ⟨rfl, rfl⟩
      go_wp2_with fail
      obtain ⟨⟨r0, r1⟩, _⟩ := HX0.out.c2
      exact bodyPost_ret (v := .tuple #[.agg #[.int .i64 0, .int .i64 0], .bool false]) (by simp [results, Try.results54, go_sem, r0, r1]) rfl ⟨rfl, HB0.out⟩
    | some t =>
      have hw := pairS_some (around := around) hop hsh
      have ht := shut_bd hsh
      rw [List.length_drop, HSL.out] at ht
      have HSH := hide (fun W (hW : Runes W S k s) => closing_any S k d f o c t s W hW (by omega) (by omega) HOC.out (by rw [hsh]; rfl))
      rw [hw] at HF HT HO
      clear hop hsh hw
      by_cases hlt : t < at_
      · rw [if_pos hlt] at HF HT HO
        obtain rfl : F = 0 := HF.out
        obtain rfl : T = 0 := HT.out
        obtain rfl : ok = false := HO.out
        go_enter Try.func54, Try.ntmps54
        go_wp2_with fail
        refine (HOP.out _ HSZ.out).mono ?_
        rintro e w' ⟨rfl, rfl⟩
        go_wp2_with fail
        refine (HSH.out _ HSZ.out).mono ?_
        rintro e w' ⟨rfl, rfl⟩
        go_wp2_with fail
        obtain ⟨⟨r0, r1⟩, _⟩ := HX0.out.c2
        exact bodyPost_ret (v := .tuple #[.agg #[.int .i64 0, .int .i64 0], .bool false]) (by simp [results, Try.results54, go_sem, r0, r1]) rfl ⟨rfl, HB0.out⟩
      · rw [if_neg hlt] at HF HT HO
        have hge : at_ ≤ t := by omega
        have hok : ok = true := by
          have := HO.out
          revert this
          split <;> exact id
        subst hok
        have hb := hide (fun W => both_any f t around W F T (by omega) (by omega) (by have := HF.out; cases around <;> (simp [spF] at this; subst this; simp)) (by have := HT.out; cases around <;> (simp [spT] at this; subst this; simp)))
        go_enter Try.func54, Try.ntmps54
        go_wp2_with fail
        refine (HOP.out _ HSZ.out).mono ?_
        rintro e w' ⟨rfl, rfl⟩
        go_wp2_with fail
        refine (HSH.out _ HSZ.out).mono ?_
        rintro e w' ⟨rfl, rfl⟩
        go_wp2_with fail
        refine (hb.out _).mono ?_
        rintro e w1 ⟨rfl, hb1⟩
        have HX1 := hide (HX0.out.below hb1)
        have HB1 := hide (HB0.out.trans (hb1.mono (by simp)))
        clear hb1
        obtain ⟨⟨x0, x1⟩, z0, z1⟩ := HX1.out.c2
        go_wp2_with fail
        obtain ⟨⟨r0, r1⟩, _⟩ := ((HX1.out.set 0 (.int .i64 F)).set 1 (.int .i64 T)).c2
        exact bodyPost_ret (v := .tuple #[.agg #[.int .i64 F, .int .i64 T], .bool true]) (by simp [results, Try.results54, go_sem, r0, r1]) rfl
          ⟨rfl, (HB1.out.setCell (p := ⟨w.heap.size, 0, none⟩) (Nat.le_refl _) _).setCell (p := ⟨w.heap.size, 1, none⟩) (Nat.le_refl _) _⟩
end Go.Proofs.Ytkfihnkghiajiaa
