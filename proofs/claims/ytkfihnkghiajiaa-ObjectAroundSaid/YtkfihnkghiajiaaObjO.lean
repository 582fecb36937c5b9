/- Contracts of layer 25's functions: object.Span, standishref21.Object: one plain answer. -/
import Derived.Test.YtkfihnkghiajiaaObjR
namespace Go.Proofs.Ytkfihnkghiajiaa
open Go.RowKit
set_option linter.unusedVariables false

/-- The span of an object around a place; none. -/
def objS (s : List Int) (at_ obj : Int) (around : Bool) : Option (Nat × Nat) :=
  if 0 ≤ at_ ∧ at_ < s.length then
    (if obj = 1 then wordS s at_.toNat around else if obj = 2 then pairS s at_.toNat 40 41 around else if obj = 3 then pairS s at_.toNat 91 93 around
     else if obj = 4 then pairS s at_.toNat 123 125 around else if obj = 5 then quoteS s at_.toNat 34 around else if obj = 6 then quoteS s at_.toNat 39 around else none)
  else none
theorem objS_out {s : List Int} {at_ obj : Int} {around : Bool} (h : ¬ (0 ≤ at_ ∧ at_ < s.length)) : objS s at_ obj around = none := by
  unfold objS
  rw [if_neg h]

set_option maxRecDepth 100000 in
set_option maxHeartbeats 4000000 in
theorem ospan_any (S : Option Addr) (k d : Nat) (at_ obj : Int) (around : Bool) (s : List Int) (w : World) (F T : Nat) (ok : Bool) (hS : Runes w S k s) (hk : k ≤ 35184372088000) (hd : k ≤ d) (hd2 : d ≤ 9223372036854775807)
    (hF : F = spF (objS s at_ obj around)) (hT : T = spT (objS s at_ obj around)) (hok : ok = (objS s at_ obj around).isSome) :
    Calls Try.prog 34 #[.slice S k d, .int .i64 at_, .int .i64 obj, .bool around] w fun e w' =>
      e = .returned (.tuple #[.agg #[.int .i64 F, .int .i64 T], .bool ok]) ∧ Below w.heap.size w w' := by
  have HX0 := hide (Box.new w 47 #[.int .i64 0, .int .i64 0])
  have HB0 := hide ((Below.refl _ w).alloc (Nat.le_refl _) (.cells #[.int .i64 0, .int .i64 0] 47))
  have HSZ := hide (hS.alloc (.cells #[.int .i64 0, .int .i64 0] 47))
  by_cases hin : 0 ≤ at_ ∧ at_ < k
  · obtain ⟨a, rfl⟩ := Int.eq_ofNat_of_zero_le hin.1
    have hak : a < k := by omega
    have hak' : (a : Int) < (k : Int) := by omega
    have hO : objS s a obj around = if obj = 1 then wordS s a around else if obj = 2 then pairS s a 40 41 around else if obj = 3 then pairS s a 91 93 around
        else if obj = 4 then pairS s a 123 125 around else if obj = 5 then quoteS s a 34 around else if obj = 6 then quoteS s a 39 around else none := by
      unfold objS
      rw [hS.len, if_pos ⟨by omega, by omega⟩, Int.toNat_natCast]
    rw [hO] at hF hT hok
    clear hO hin
    by_cases h1 : obj = 1
    · subst h1
      rw [if_pos rfl] at hF hT hok
      have HC := hide (fun W (hW : Runes W S k s) => run_any S k d a around s W F T ok hW (by omega) hak hF hT hok)
      clear hF hT hok hS 
      go_enter Try.func34, Try.ntmps34
      go_wp2_with fail
      refine (HC.out _ HSZ.out).mono ?_
      generalize hW0 : (w.alloc (.cells #[.int .i64 0, .int .i64 0] 47)) = W0 at HX0 HB0 HSZ ⊢
      clear hW0
      rintro e w1 ⟨rfl, hb1⟩
      have HX1 := hide (HX0.out.below hb1)
      have HB1 := hide (HB0.out.trans (hb1.mono HB0.out.size))
      clear hb1
      obtain ⟨⟨x0, x1⟩, z0, z1⟩ := HX1.out.c2
      go_wp2_with fail
      obtain ⟨⟨r0, r1⟩, _⟩ := ((HX1.out.set 0 (.int .i64 F)).set 1 (.int .i64 T)).c2
      exact bodyPost_ret (v := .tuple #[.agg #[.int .i64 F, .int .i64 T], .bool ok]) (by simp [results, Try.results34, go_sem, r0, r1]) rfl
        ⟨rfl, (HB1.out.setCell (p := ⟨w.heap.size, 0, none⟩) (Nat.le_refl _) _).setCell (p := ⟨w.heap.size, 1, none⟩) (Nat.le_refl _) _⟩
    by_cases h2 : obj = 2
    · subst h2
      rw [if_neg (by omega), if_pos rfl] at hF hT hok
      have HC := hide (fun W (hW : Runes W S k s) => pair_any S k d a 40 41 around s W F T ok hW hk hak (by omega) hF hT hok)
      clear hF hT hok hS h1
      go_enter Try.func34, Try.ntmps34
      go_wp2_with fail
      refine (HC.out _ HSZ.out).mono ?_
      generalize hW0 : (w.alloc (.cells #[.int .i64 0, .int .i64 0] 47)) = W0 at HX0 HB0 HSZ ⊢
      clear hW0
      rintro e w1 ⟨rfl, hb1⟩
      have HX1 := hide (HX0.out.below hb1)
      have HB1 := hide (HB0.out.trans (hb1.mono HB0.out.size))
      clear hb1
      obtain ⟨⟨x0, x1⟩, z0, z1⟩ := HX1.out.c2
      go_wp2_with fail
      obtain ⟨⟨r0, r1⟩, _⟩ := ((HX1.out.set 0 (.int .i64 F)).set 1 (.int .i64 T)).c2
      exact bodyPost_ret (v := .tuple #[.agg #[.int .i64 F, .int .i64 T], .bool ok]) (by simp [results, Try.results34, go_sem, r0, r1]) rfl
        ⟨rfl, (HB1.out.setCell (p := ⟨w.heap.size, 0, none⟩) (Nat.le_refl _) _).setCell (p := ⟨w.heap.size, 1, none⟩) (Nat.le_refl _) _⟩
    by_cases h3 : obj = 3
    · subst h3
      rw [if_neg (by omega), if_neg (by omega), if_pos rfl] at hF hT hok
      have HC := hide (fun W (hW : Runes W S k s) => pair_any S k d a 91 93 around s W F T ok hW hk hak (by omega) hF hT hok)
      clear hF hT hok hS h1 h2
      go_enter Try.func34, Try.ntmps34
      go_wp2_with fail
      refine (HC.out _ HSZ.out).mono ?_
      generalize hW0 : (w.alloc (.cells #[.int .i64 0, .int .i64 0] 47)) = W0 at HX0 HB0 HSZ ⊢
      clear hW0
      rintro e w1 ⟨rfl, hb1⟩
      have HX1 := hide (HX0.out.below hb1)
      have HB1 := hide (HB0.out.trans (hb1.mono HB0.out.size))
      clear hb1
      obtain ⟨⟨x0, x1⟩, z0, z1⟩ := HX1.out.c2
      go_wp2_with fail
      obtain ⟨⟨r0, r1⟩, _⟩ := ((HX1.out.set 0 (.int .i64 F)).set 1 (.int .i64 T)).c2
      exact bodyPost_ret (v := .tuple #[.agg #[.int .i64 F, .int .i64 T], .bool ok]) (by simp [results, Try.results34, go_sem, r0, r1]) rfl
        ⟨rfl, (HB1.out.setCell (p := ⟨w.heap.size, 0, none⟩) (Nat.le_refl _) _).setCell (p := ⟨w.heap.size, 1, none⟩) (Nat.le_refl _) _⟩
    by_cases h4 : obj = 4
    · subst h4
      rw [if_neg (by omega), if_neg (by omega), if_neg (by omega), if_pos rfl] at hF hT hok
      have HC := hide (fun W (hW : Runes W S k s) => pair_any S k d a 123 125 around s W F T ok hW hk hak (by omega) hF hT hok)
      clear hF hT hok hS h1 h2 h3
      go_enter Try.func34, Try.ntmps34
      go_wp2_with fail
      refine (HC.out _ HSZ.out).mono ?_
      generalize hW0 : (w.alloc (.cells #[.int .i64 0, .int .i64 0] 47)) = W0 at HX0 HB0 HSZ ⊢
      clear hW0
      rintro e w1 ⟨rfl, hb1⟩
      have HX1 := hide (HX0.out.below hb1)
      have HB1 := hide (HB0.out.trans (hb1.mono HB0.out.size))
      clear hb1
      obtain ⟨⟨x0, x1⟩, z0, z1⟩ := HX1.out.c2
      go_wp2_with fail
      obtain ⟨⟨r0, r1⟩, _⟩ := ((HX1.out.set 0 (.int .i64 F)).set 1 (.int .i64 T)).c2
      exact bodyPost_ret (v := .tuple #[.agg #[.int .i64 F, .int .i64 T], .bool ok]) (by simp [results, Try.results34, go_sem, r0, r1]) rfl
        ⟨rfl, (HB1.out.setCell (p := ⟨w.heap.size, 0, none⟩) (Nat.le_refl _) _).setCell (p := ⟨w.heap.size, 1, none⟩) (Nat.le_refl _) _⟩
    by_cases h5 : obj = 5
    · subst h5
      rw [if_neg (by omega), if_neg (by omega), if_neg (by omega), if_neg (by omega), if_pos rfl] at hF hT hok
      have HC := hide (fun W (hW : Runes W S k s) => quoted_any S k d a 34 around s W F T ok hW hk hak hd hd2 hF hT hok)
      clear hF hT hok hS h1 h2 h3 h4
      go_enter Try.func34, Try.ntmps34
      go_wp2_with fail
      refine (HC.out _ HSZ.out).mono ?_
      generalize hW0 : (w.alloc (.cells #[.int .i64 0, .int .i64 0] 47)) = W0 at HX0 HB0 HSZ ⊢
      clear hW0
      rintro e w1 ⟨rfl, hb1⟩
      have HX1 := hide (HX0.out.below hb1)
      have HB1 := hide (HB0.out.trans (hb1.mono HB0.out.size))
      clear hb1
      obtain ⟨⟨x0, x1⟩, z0, z1⟩ := HX1.out.c2
      go_wp2_with fail
      obtain ⟨⟨r0, r1⟩, _⟩ := ((HX1.out.set 0 (.int .i64 F)).set 1 (.int .i64 T)).c2
      exact bodyPost_ret (v := .tuple #[.agg #[.int .i64 F, .int .i64 T], .bool ok]) (by simp [results, Try.results34, go_sem, r0, r1]) rfl
        ⟨rfl, (HB1.out.setCell (p := ⟨w.heap.size, 0, none⟩) (Nat.le_refl _) _).setCell (p := ⟨w.heap.size, 1, none⟩) (Nat.le_refl _) _⟩
    by_cases h6 : obj = 6
    · subst h6
      rw [if_neg (by omega), if_neg (by omega), if_neg (by omega), if_neg (by omega), if_neg (by omega), if_pos rfl] at hF hT hok
      have HC := hide (fun W (hW : Runes W S k s) => quoted_any S k d a 39 around s W F T ok hW hk hak hd hd2 hF hT hok)
      clear hF hT hok hS h1 h2 h3 h4 h5
      go_enter Try.func34, Try.ntmps34
      go_wp2_with fail
      refine (HC.out _ HSZ.out).mono ?_
      generalize hW0 : (w.alloc (.cells #[.int .i64 0, .int .i64 0] 47)) = W0 at HX0 HB0 HSZ ⊢
      clear hW0
      rintro e w1 ⟨rfl, hb1⟩
      have HX1 := hide (HX0.out.below hb1)
      have HB1 := hide (HB0.out.trans (hb1.mono HB0.out.size))
      clear hb1
      obtain ⟨⟨x0, x1⟩, z0, z1⟩ := HX1.out.c2
      go_wp2_with fail
      obtain ⟨⟨r0, r1⟩, _⟩ := ((HX1.out.set 0 (.int .i64 F)).set 1 (.int .i64 T)).c2
      exact bodyPost_ret (v := .tuple #[.agg #[.int .i64 F, .int .i64 T], .bool ok]) (by simp [results, Try.results34, go_sem, r0, r1]) rfl
        ⟨rfl, (HB1.out.setCell (p := ⟨w.heap.size, 0, none⟩) (Nat.le_refl _) _).setCell (p := ⟨w.heap.size, 1, none⟩) (Nat.le_refl _) _⟩
    rw [if_neg h1, if_neg h2, if_neg h3, if_neg h4, if_neg h5, if_neg h6] at hF hT hok
    obtain rfl : F = 0 := hF
    obtain rfl : T = 0 := hT
    obtain rfl : ok = false := hok
    have e1 : (obj == 1) = false := by simpa using h1
    have e2 : (obj == 2) = false := by simpa using h2
    have e3 : (obj == 3) = false := by simpa using h3
    have e4 : (obj == 4) = false := by simpa using h4
    have e5 : (obj == 5) = false := by simpa using h5
    have e6 : (obj == 6) = false := by simpa using h6
    clear h1 h2 h3 h4 h5 h6 hS
    go_enter Try.func34, Try.ntmps34
    go_wp2_with fail
    obtain ⟨⟨r0, r1⟩, _⟩ := HX0.out.c2
    exact bodyPost_ret (v := .tuple #[.agg #[.int .i64 0, .int .i64 0], .bool false]) (by simp [results, Try.results34, go_sem, r0, r1]) rfl ⟨rfl, HB0.out⟩
  · rw [objS_out (by rw [hS.len]; exact hin)] at hF hT hok
    obtain rfl : F = 0 := hF
    obtain rfl : T = 0 := hT
    obtain rfl : ok = false := hok
    have hgo : at_ < 0 ∨ (0 ≤ at_ ∧ (k : Int) ≤ at_) := by omega
    clear hin hS
    rcases hgo with hgo | ⟨hgo, hgo2⟩
    all_goals go_enter Try.func34, Try.ntmps34
    all_goals go_wp2_with fail
    all_goals obtain ⟨⟨r0, r1⟩, _⟩ := HX0.out.c2
    all_goals exact bodyPost_ret (v := .tuple #[.agg #[.int .i64 0, .int .i64 0], .bool false]) (by simp [results, Try.results34, go_sem, r0, r1]) rfl ⟨rfl, HB0.out⟩

set_option maxRecDepth 100000 in
set_option maxHeartbeats 4000000 in
theorem robject_any (S : Option Addr) (k d : Nat) (at_ obj : Int) (around : Bool) (s : List Int) (w : World) (F T : Nat) (ok : Bool) (hS : Runes w S k s) (hk : k ≤ 35184372088000) (hd : k ≤ d) (hd2 : d ≤ 9223372036854775807)
    (hF : F = spF (objS s at_ obj around)) (hT : T = spT (objS s at_ obj around)) (hok : ok = (objS s at_ obj around).isSome) :
    Calls Try.prog 51 #[.slice S k d, .int .i64 at_, .int .i64 obj, .bool around] w fun e w' =>
      e = .returned (.tuple #[.agg #[.int .i64 F, .int .i64 T], .bool ok]) ∧ Below w.heap.size w w' := by
  have HX0 := hide (Box.new w 47 #[.int .i64 0, .int .i64 0])
  have HB0 := hide ((Below.refl _ w).alloc (Nat.le_refl _) (.cells #[.int .i64 0, .int .i64 0] 47))
  have HSZ := hide (hS.alloc (.cells #[.int .i64 0, .int .i64 0] 47))
  by_cases hin : 0 ≤ at_ ∧ at_ < k
  · obtain ⟨a, rfl⟩ := Int.eq_ofNat_of_zero_le hin.1
    have hak : a < k := by omega
    have hak' : (a : Int) < (k : Int) := by omega
    have hO : objS s a obj around = if obj = 1 then wordS s a around else if obj = 2 then pairS s a 40 41 around else if obj = 3 then pairS s a 91 93 around
        else if obj = 4 then pairS s a 123 125 around else if obj = 5 then quoteS s a 34 around else if obj = 6 then quoteS s a 39 around else none := by
      unfold objS
      rw [hS.len, if_pos ⟨by omega, by omega⟩, Int.toNat_natCast]
    rw [hO] at hF hT hok
    clear hO hin
    by_cases h1 : obj = 1
    · subst h1
      rw [if_pos rfl] at hF hT hok
      have HC := hide (fun W (hW : Runes W S k s) => wordly_any S k d a around s W F T ok hW (by omega) hak hF hT hok)
      clear hF hT hok hS 
      go_enter Try.func51, Try.ntmps51
      go_wp2_with fail
      refine (HC.out _ HSZ.out).mono ?_
      generalize hW0 : (w.alloc (.cells #[.int .i64 0, .int .i64 0] 47)) = W0 at HX0 HB0 HSZ ⊢
      clear hW0
      rintro e w1 ⟨rfl, hb1⟩
      have HX1 := hide (HX0.out.below hb1)
      have HB1 := hide (HB0.out.trans (hb1.mono HB0.out.size))
      clear hb1
      obtain ⟨⟨x0, x1⟩, z0, z1⟩ := HX1.out.c2
      go_wp2_with fail
      obtain ⟨⟨r0, r1⟩, _⟩ := ((HX1.out.set 0 (.int .i64 F)).set 1 (.int .i64 T)).c2
      exact bodyPost_ret (v := .tuple #[.agg #[.int .i64 F, .int .i64 T], .bool ok]) (by simp [results, Try.results51, go_sem, r0, r1]) rfl
        ⟨rfl, (HB1.out.setCell (p := ⟨w.heap.size, 0, none⟩) (Nat.le_refl _) _).setCell (p := ⟨w.heap.size, 1, none⟩) (Nat.le_refl _) _⟩
    by_cases h2 : obj = 2
    · subst h2
      rw [if_neg (by omega), if_pos rfl] at hF hT hok
      have HC := hide (fun W (hW : Runes W S k s) => bracketed_any S k d a 40 41 around s W F T ok hW hk hak (by unfold Brk; omega) hF hT hok)
      clear hF hT hok hS h1
      go_enter Try.func51, Try.ntmps51
      go_wp2_with fail
      refine (HC.out _ HSZ.out).mono ?_
      generalize hW0 : (w.alloc (.cells #[.int .i64 0, .int .i64 0] 47)) = W0 at HX0 HB0 HSZ ⊢
      clear hW0
      rintro e w1 ⟨rfl, hb1⟩
      have HX1 := hide (HX0.out.below hb1)
      have HB1 := hide (HB0.out.trans (hb1.mono HB0.out.size))
      clear hb1
      obtain ⟨⟨x0, x1⟩, z0, z1⟩ := HX1.out.c2
      go_wp2_with fail
      obtain ⟨⟨r0, r1⟩, _⟩ := ((HX1.out.set 0 (.int .i64 F)).set 1 (.int .i64 T)).c2
      exact bodyPost_ret (v := .tuple #[.agg #[.int .i64 F, .int .i64 T], .bool ok]) (by simp [results, Try.results51, go_sem, r0, r1]) rfl
        ⟨rfl, (HB1.out.setCell (p := ⟨w.heap.size, 0, none⟩) (Nat.le_refl _) _).setCell (p := ⟨w.heap.size, 1, none⟩) (Nat.le_refl _) _⟩
    by_cases h3 : obj = 3
    · subst h3
      rw [if_neg (by omega), if_neg (by omega), if_pos rfl] at hF hT hok
      have HC := hide (fun W (hW : Runes W S k s) => bracketed_any S k d a 91 93 around s W F T ok hW hk hak (by unfold Brk; omega) hF hT hok)
      clear hF hT hok hS h1 h2
      go_enter Try.func51, Try.ntmps51
      go_wp2_with fail
      refine (HC.out _ HSZ.out).mono ?_
      generalize hW0 : (w.alloc (.cells #[.int .i64 0, .int .i64 0] 47)) = W0 at HX0 HB0 HSZ ⊢
      clear hW0
      rintro e w1 ⟨rfl, hb1⟩
      have HX1 := hide (HX0.out.below hb1)
      have HB1 := hide (HB0.out.trans (hb1.mono HB0.out.size))
      clear hb1
      obtain ⟨⟨x0, x1⟩, z0, z1⟩ := HX1.out.c2
      go_wp2_with fail
      obtain ⟨⟨r0, r1⟩, _⟩ := ((HX1.out.set 0 (.int .i64 F)).set 1 (.int .i64 T)).c2
      exact bodyPost_ret (v := .tuple #[.agg #[.int .i64 F, .int .i64 T], .bool ok]) (by simp [results, Try.results51, go_sem, r0, r1]) rfl
        ⟨rfl, (HB1.out.setCell (p := ⟨w.heap.size, 0, none⟩) (Nat.le_refl _) _).setCell (p := ⟨w.heap.size, 1, none⟩) (Nat.le_refl _) _⟩
    by_cases h4 : obj = 4
    · subst h4
      rw [if_neg (by omega), if_neg (by omega), if_neg (by omega), if_pos rfl] at hF hT hok
      have HC := hide (fun W (hW : Runes W S k s) => bracketed_any S k d a 123 125 around s W F T ok hW hk hak (by unfold Brk; omega) hF hT hok)
      clear hF hT hok hS h1 h2 h3
      go_enter Try.func51, Try.ntmps51
      go_wp2_with fail
      refine (HC.out _ HSZ.out).mono ?_
      generalize hW0 : (w.alloc (.cells #[.int .i64 0, .int .i64 0] 47)) = W0 at HX0 HB0 HSZ ⊢
      clear hW0
      rintro e w1 ⟨rfl, hb1⟩
      have HX1 := hide (HX0.out.below hb1)
      have HB1 := hide (HB0.out.trans (hb1.mono HB0.out.size))
      clear hb1
      obtain ⟨⟨x0, x1⟩, z0, z1⟩ := HX1.out.c2
      go_wp2_with fail
      obtain ⟨⟨r0, r1⟩, _⟩ := ((HX1.out.set 0 (.int .i64 F)).set 1 (.int .i64 T)).c2
      exact bodyPost_ret (v := .tuple #[.agg #[.int .i64 F, .int .i64 T], .bool ok]) (by simp [results, Try.results51, go_sem, r0, r1]) rfl
        ⟨rfl, (HB1.out.setCell (p := ⟨w.heap.size, 0, none⟩) (Nat.le_refl _) _).setCell (p := ⟨w.heap.size, 1, none⟩) (Nat.le_refl _) _⟩
    by_cases h5 : obj = 5
    · subst h5
      rw [if_neg (by omega), if_neg (by omega), if_neg (by omega), if_neg (by omega), if_pos rfl] at hF hT hok
      have HC := hide (fun W (hW : Runes W S k s) => rquoted_any S k d a 34 around s W F T ok hW hk hak hd hd2 hF hT hok)
      clear hF hT hok hS h1 h2 h3 h4
      go_enter Try.func51, Try.ntmps51
      go_wp2_with fail
      refine (HC.out _ HSZ.out).mono ?_
      generalize hW0 : (w.alloc (.cells #[.int .i64 0, .int .i64 0] 47)) = W0 at HX0 HB0 HSZ ⊢
      clear hW0
      rintro e w1 ⟨rfl, hb1⟩
      have HX1 := hide (HX0.out.below hb1)
      have HB1 := hide (HB0.out.trans (hb1.mono HB0.out.size))
      clear hb1
      obtain ⟨⟨x0, x1⟩, z0, z1⟩ := HX1.out.c2
      go_wp2_with fail
      obtain ⟨⟨r0, r1⟩, _⟩ := ((HX1.out.set 0 (.int .i64 F)).set 1 (.int .i64 T)).c2
      exact bodyPost_ret (v := .tuple #[.agg #[.int .i64 F, .int .i64 T], .bool ok]) (by simp [results, Try.results51, go_sem, r0, r1]) rfl
        ⟨rfl, (HB1.out.setCell (p := ⟨w.heap.size, 0, none⟩) (Nat.le_refl _) _).setCell (p := ⟨w.heap.size, 1, none⟩) (Nat.le_refl _) _⟩
    by_cases h6 : obj = 6
    · subst h6
      rw [if_neg (by omega), if_neg (by omega), if_neg (by omega), if_neg (by omega), if_neg (by omega), if_pos rfl] at hF hT hok
      have HC := hide (fun W (hW : Runes W S k s) => rquoted_any S k d a 39 around s W F T ok hW hk hak hd hd2 hF hT hok)
      clear hF hT hok hS h1 h2 h3 h4 h5
      go_enter Try.func51, Try.ntmps51
      go_wp2_with fail
      refine (HC.out _ HSZ.out).mono ?_
      generalize hW0 : (w.alloc (.cells #[.int .i64 0, .int .i64 0] 47)) = W0 at HX0 HB0 HSZ ⊢
      clear hW0
      rintro e w1 ⟨rfl, hb1⟩
      have HX1 := hide (HX0.out.below hb1)
      have HB1 := hide (HB0.out.trans (hb1.mono HB0.out.size))
      clear hb1
      obtain ⟨⟨x0, x1⟩, z0, z1⟩ := HX1.out.c2
      go_wp2_with fail
      obtain ⟨⟨r0, r1⟩, _⟩ := ((HX1.out.set 0 (.int .i64 F)).set 1 (.int .i64 T)).c2
      exact bodyPost_ret (v := .tuple #[.agg #[.int .i64 F, .int .i64 T], .bool ok]) (by simp [results, Try.results51, go_sem, r0, r1]) rfl
        ⟨rfl, (HB1.out.setCell (p := ⟨w.heap.size, 0, none⟩) (Nat.le_refl _) _).setCell (p := ⟨w.heap.size, 1, none⟩) (Nat.le_refl _) _⟩
    rw [if_neg h1, if_neg h2, if_neg h3, if_neg h4, if_neg h5, if_neg h6] at hF hT hok
    obtain rfl : F = 0 := hF
    obtain rfl : T = 0 := hT
    obtain rfl : ok = false := hok
    have e1 : (obj == 1) = false := by simpa using h1
    have e2 : (obj == 2) = false := by simpa using h2
    have e3 : (obj == 3) = false := by simpa using h3
    have e4 : (obj == 4) = false := by simpa using h4
    have e5 : (obj == 5) = false := by simpa using h5
    have e6 : (obj == 6) = false := by simpa using h6
    clear h1 h2 h3 h4 h5 h6 hS
    go_enter Try.func51, Try.ntmps51
    go_wp2_with fail
    obtain ⟨⟨r0, r1⟩, _⟩ := HX0.out.c2
    exact bodyPost_ret (v := .tuple #[.agg #[.int .i64 0, .int .i64 0], .bool false]) (by simp [results, Try.results51, go_sem, r0, r1]) rfl ⟨rfl, HB0.out⟩
  · rw [objS_out (by rw [hS.len]; exact hin)] at hF hT hok
    obtain rfl : F = 0 := hF
    obtain rfl : T = 0 := hT
    obtain rfl : ok = false := hok
    have hgo : at_ < 0 ∨ (0 ≤ at_ ∧ (k : Int) ≤ at_) := by omega
    clear hin hS
    rcases hgo with hgo | ⟨hgo, hgo2⟩
    all_goals go_enter Try.func51, Try.ntmps51
    all_goals go_wp2_with fail
    all_goals obtain ⟨⟨r0, r1⟩, _⟩ := HX0.out.c2
    all_goals exact bodyPost_ret (v := .tuple #[.agg #[.int .i64 0, .int .i64 0], .bool false]) (by simp [results, Try.results51, go_sem, r0, r1]) rfl ⟨rfl, HB0.out⟩

end Go.Proofs.Ytkfihnkghiajiaa
