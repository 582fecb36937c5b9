/- The contract of standishlaw5.known: it answers true. -/
import Derived.Test.YtjhnenljmmeflaaLeast
import Derived.Test.YtjhnenljmmeflaaCBack
import Derived.Test.YtjhnenljmmeflaaApply
namespace Go.Proofs.Ytjhnenljmmeflaa
open Go.RowKit
set_option linter.unusedVariables false

/-- Two changes that are one, in a literal's row. -/
theorem Chgs.twice {w : World} {t : TypeId} {v : CV} {x : Chg} (h : CRd w v x) :
    Chgs (w.alloc (.cells #[.int .i64 v.at_, .slice v.C v.n v.c, .slice v.P v.m v.d, .int .i64 v.at_, .slice v.C v.n v.c, .slice v.P v.m v.d] t)) (some ⟨w.heap.size, 0, none⟩) 2 (fun _ => v) [x, x] := by
  have hX := Box.new w t #[.int .i64 v.at_, .slice v.C v.n v.c, .slice v.P v.m v.d, .int .i64 v.at_, .slice v.C v.n v.c, .slice v.P v.m v.d]
  have hb : Below w.heap.size w (w.alloc (.cells #[.int .i64 v.at_, .slice v.C v.n v.c, .slice v.P v.m v.d, .int .i64 v.at_, .slice v.C v.n v.c, .slice v.P v.m v.d] t)) := (Below.refl _ _).alloc (Nat.le_refl _) _
  refine ⟨rfl, fun j hj => ⟨_, _, rfl, ?_⟩, fun j hj => ⟨x, ?_, h.below hb⟩⟩
  · match j, hj with
    | 0, _ => exact ⟨hX.cell 0, hX.cell 1, hX.cell 2⟩
    | 1, _ => exact ⟨hX.cell 3, hX.cell 4, hX.cell 5⟩
  · match j, hj with
    | 0, _ => rfl
    | 1, _ => rfl

theorem wfLit {a b c : Int} (h1 : 0 ≤ a ∧ a ≤ 1000) (h2 : 0 ≤ b ∧ b ≤ 1000) (h3 : 0 ≤ c ∧ c ≤ 1000) : W32 [a, b, c] := fun x hx => by
  simp at hx
  rcases hx with rfl | rfl | rfl <;> omega
theorem wfLit1 {a : Int} (h1 : 0 ≤ a ∧ a ≤ 1000) : W32 [a] := fun x hx => by
  simp at hx
  subst hx
  omega

set_option maxHeartbeats 4000000 in
theorem known5_any (w : World) :
    Calls Try.prog 34 #[] w fun e w' => e = .returned (.bool true) ∧ Below w.heap.size w w' := by
  have hA : ∀ W : World, Runes (W.alloc (.cells #[.int .i32 97, .int .i32 98, .int .i32 99] 21)) (some ⟨W.heap.size, 0, none⟩) 3 [97, 98, 99] := fun W => Runes.news W _ _ [97, 98, 99] rfl (wfLit (by omega) (by omega) (by omega))
  have hT : ∀ W : World, Runes (W.alloc (.cells #[.int .i32 97, .int .i32 120, .int .i32 99] 21)) (some ⟨W.heap.size, 0, none⟩) 3 [97, 120, 99] := fun W => Runes.news W _ _ [97, 120, 99] rfl (wfLit (by omega) (by omega) (by omega))
  have hX : ∀ W : World, Runes (W.alloc (.cells #[.int .i32 120] 21)) (some ⟨W.heap.size, 0, none⟩) 1 [120] := fun W => Runes.news W _ _ [120] rfl (wfLit1 (by omega))
  have hAl : ∀ (W : World) (o : Obj), Below W.heap.size W (W.alloc o) := fun W o => (Below.refl _ _).alloc (Nat.le_refl _) o
  have HA := hide hA
  have HT := hide hT
  have HX := hide hX
  have HAl := hide hAl
  clear hA hT hX hAl
  go_enter Try.func34, Try.ntmps34
  go_wp2_with fail
  have hR := (HA.out w).alloc (.cells #[.int .i32 97, .int .i32 120, .int .i32 99] 21)
  have hS := HT.out (w.alloc (.cells #[.int .i32 97, .int .i32 98, .int .i32 99] 21))
  rw [World.size_alloc] at hS
  have hB := (HAl.out w (.cells #[.int .i32 97, .int .i32 98, .int .i32 99] 21)).alloc (by simp) (.cells #[.int .i32 97, .int .i32 120, .int .i32 99] 21)
  refine (cleast_any _ _ 3 3 3 3 _ _ _ hR hS (by omega) (by omega) (by omega) (by omega) (by omega) (by omega)).mono ?_
  rw [show leastA [97, 98, 99] [97, 120, 99] = 1 by decide, show leastCut [97, 98, 99] [97, 120, 99] = [98] by decide, show leastPut [97, 98, 99] [97, 120, 99] = [120] by decide]
  rintro e w3 ⟨C, n, c, P, m, d, rfl, hC, hP, hap, hb3⟩
  obtain rfl : n = 1 := hC.len.symm
  obtain rfl : m = 1 := hP.len.symm
  have hR3 := hR.below hb3
  have hB3 := hB.trans (hb3.mono (by simp; omega))
  have hsz := hb3.size
  simp only [World.size_alloc] at hsz
  have hgC := hC.blk_ge
  have hgP := hP.blk_ge
  have HC := hide hC.runes
  have HP := hide hP.runes
  have HR := hide hR3
  have HB := hide hB3
  have HBX := hide (Box.new w3 31 #[.int .i64 1, .slice C 1 c, .slice P 1 d])
  have HBS := hide (HAl.out w3 (.cells #[.int .i64 1, .slice C 1 c, .slice P 1 d] 31))
  clear hR hS hB hC hP hap hb3 hR3 hB3 hgC hgP
  obtain ⟨⟨l0, l1, l2⟩, _⟩ := HBX.out.c3
  go_wp2_with fail
  -- the first Apply
  have hW4 := HB.out.trans (HBS.out.mono HB.out.size)
  refine (capply_any _ 3 3 1 C P 1 c 1 d [97, 98, 99] [98] [120] _ (HR.out.below HBS.out) (HC.out.below HBS.out) (HP.out.below HBS.out) (by omega) (by omega) (by omega) (by omega) (by omega) (by omega)).mono ?_
  rw [show appS [97, 98, 99] 1 [98] [120] = [97, 120, 99] by decide, show appE [97, 98, 99] 1 [98] [120] = 0 by decide]
  rintro e w5 ⟨T, n, cT, rfl, hT, hb5⟩
  obtain rfl : n = 3 := hT.len.symm
  have HT5 := hide hT.runes
  have HB5 := hide (HBS.out.trans (hb5.mono HBS.out.size))
  have HBX5 := hide (HBX.out.below hb5)
  have hcT := hT.cap
  clear hT hb5 hW4 HBS HBX
  obtain ⟨⟨l0, l1, l2⟩, _⟩ := HBX5.out.c3
  go_wp2_with fail
  -- the second Apply
  refine (capply_any _ 3 3 1 _ none 1 1 0 0 [97, 98, 99] [120] [] _ ((HR.out.below HB5.out).below (HAl.out _ _)) (HX.out w5) (Runes.nil _ _) (by omega) (by omega) (by omega) (by omega) (by omega) (by omega)).mono ?_
  rw [show appS [97, 98, 99] 1 [120] [] = [] by decide, show appE [97, 98, 99] 1 [120] [] = 1 by decide]
  rintro e w6 ⟨U, n, cU, rfl, hU, hb6⟩
  have hs6 := hb6.size
  simp only [World.size_alloc] at hs6
  have hb6' : Below w5.heap.size w5 w6 := (HAl.out w5 _).trans (hb6.mono (by simp))
  have HB6 := hide (HB5.out.trans (hb6'.mono HB5.out.size))
  have HBX6 := hide (HBX5.out.below hb6')
  have HT6 := hide (HT5.out.below hb6')
  clear hU hb6 hb6' HBX5
  obtain ⟨⟨l0, l1, l2⟩, _⟩ := HBX6.out.c3
  go_wp2_with fail
  -- Same
  refine (refSame_any T _ 3 cT 3 3 [97, 120, 99] [97, 120, 99] _ (HT6.out.alloc _) (HT.out w6) (by omega) (by omega)).mono ?_
  rw [show sameS [97, 120, 99] [97, 120, 99] = true by decide]
  rintro e w7 ⟨rfl, q, rfl⟩
  have HB7 := hide (below_drewN ((HB6.out.alloc (by have := HB6.out.size; omega) (.cells #[.int .i32 97, .int .i32 120, .int .i32 99] 21))) q)
  have HBX7 := hide ((HBX6.out.alloc (.cells #[.int .i32 97, .int .i32 120, .int .i32 99] 21)).drewN q)
  have HT7 := hide ((HT6.out.alloc (.cells #[.int .i32 97, .int .i32 120, .int .i32 99] 21)).drewN q)
  clear HBX6
  obtain ⟨⟨l0, l1, l2⟩, _⟩ := HBX7.out.c3
  go_wp2_with fail
  -- May, twice
  have HW7 := hide (HB7.out)
  refine (cmay_any _ 3 3 1 C P 1 c 1 d [97, 98, 99] [98] [120] _ (HR.out.below HB7.out) (HC.out.below HB7.out) (HP.out.below HB7.out) (by omega) (by omega) (by omega) (by omega) (by omega) (by omega)).mono ?_
  rw [show mayC [97, 98, 99] 1 [98] [120] = true by decide]
  rintro e w8 ⟨rfl, hb8⟩
  have HB8 := hide (HB7.out.trans (hb8.mono HB7.out.size))
  have HBX8 := hide (HBX7.out.below hb8)
  have HT8 := hide (HT7.out.below hb8)
  clear hb8 HBX7
  obtain ⟨⟨l0, l1, l2⟩, _⟩ := HBX8.out.c3
  go_wp2_with fail
  refine (cmay_any T 3 cT 1 C P 1 c 1 d [97, 120, 99] [98] [120] _ HT8.out (HC.out.below HB8.out) (HP.out.below HB8.out) (by omega) (by omega) (by omega) (by omega) (by omega) (by omega)).mono ?_
  rw [show mayC [97, 120, 99] 1 [98] [120] = false by decide]
  rintro e w9 ⟨rfl, hb9⟩
  have HB9 := hide (HB8.out.trans (hb9.mono HB8.out.size))
  have HBX9 := hide (HBX8.out.below hb9)
  clear hb9 HBX8
  obtain ⟨⟨l0, l1, l2⟩, _⟩ := HBX9.out.c3
  go_wp2_with fail
  -- Back
  have hcr : CRd w9 ⟨1, C, 1, c, P, 1, d⟩ ⟨1, [98], [120]⟩ := ⟨rfl, HC.out.below HB9.out, HP.out.below HB9.out, ⟨by decide, by decide⟩, by decide, by decide⟩
  refine (cback_any (some ⟨w9.heap.size, 0, none⟩) 2 2 _ _ _ (Chgs.twice hcr) (by omega)).mono ?_
  rintro e w10 ⟨L, n, cL, vs, rfl, hrow, helts, hb10⟩
  obtain rfl : n = 2 := by
    have h1 := hrow.len
    have h2 := helts.len
    simp [backC] at h2
    omega
  have HF := hide (HB.out.trans ((HB9.out.alloc HB9.out.size _).trans (hb10.mono (by have := HB9.out.size; simp; omega)) |>.mono HB.out.size))
  clear hcr hrow helts hb10
  go_wp2_with fail
  go_ret
  exact ⟨rfl, HF.out⟩
end Go.Proofs.Ytjhnenljmmeflaa
