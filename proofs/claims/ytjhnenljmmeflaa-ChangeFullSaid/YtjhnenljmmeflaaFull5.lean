/- The walk of standishlaw5.ChangeFull: it answers true. -/
import Derived.Test.YtjhnenljmmeflaaSame5
import Derived.Test.YtjhnenljmmeflaaKnown5
import Derived.Test.YtjhnenljmmeflaaMake
namespace Go.Proofs.Ytjhnenljmmeflaa
open Go.RowKit
set_option linter.unusedVariables false

set_option maxHeartbeats 4000000 in
theorem full5_any (k at2 cut2 put2 : Int) (w : World) :
    Calls Try.prog 8 #[.int .i64 k, .int .i64 at2, .int .i64 cut2, .int .i64 put2] w fun e w' => e = .returned (.bool true) ∧ Below w.heap.size w w' := by
  have hi := fun (k : Int) (W : World) => index_any k 5 W (by omega) (by omega)
  have hlt := fun (k : Int) => idxN_lt (k := k) (n := 5) (by omega)
  have HI := hide hi
  have HL := hide hlt
  clear hi hlt
  go_enter Try.func8, Try.ntmps8
  go_wp2_with fail
  refine (HI.out k _).mono ?_
  rintro e w1 ⟨rfl, rfl⟩
  have h1 := HL.out k
  simp only [show (5 : Int).toNat = 5 from rfl]
  generalize idxN k 5 = a at h1 ⊢
  obtain ⟨z, hz⟩ : ∃ z : Nat, z = 998 + a := ⟨_, rfl⟩
  have hmk := run_make32 z (by omega)
  rw [show (z : Int) = 998 + (a : Int) by omega] at hmk
  have hz2 : z ≤ 1002 := by omega
  clear hz
  have HR := hide (made_runes z w)
  have HB := hide ((Below.refl w.heap.size w).alloc (Nat.le_refl _) (.cells (cells32 (List.replicate z 0)).toArray 21))
  generalize (cells32 (List.replicate z 0)).toArray = cs at hmk HR HB
  generalize List.replicate z (0 : Int) = s at HR
  go_wp2_with fail
  clear hmk
  refine (HI.out cut2 _).mono ?_
  rintro e w1 ⟨rfl, rfl⟩
  simp only [show (5 : Int).toNat = 5 from rfl]
  go_wp2_with fail
  refine (HI.out put2 _).mono ?_
  rintro e w1 ⟨rfl, rfl⟩
  have h2 := HL.out put2
  simp only [show (5 : Int).toNat = 5 from rfl]
  generalize idxN put2 5 = b at h2 ⊢
  have hmk := run_make32 b (by omega)
  have hp := made_runes b (w.alloc (.cells cs 21))
  rw [World.size_alloc] at hp
  have HP := hide hp
  clear hp
  have HB2 := hide (HB.out.alloc HB.out.size (.cells (cells32 (List.replicate b 0)).toArray 21))
  have HR2 := hide (HR.out.alloc (.cells (cells32 (List.replicate b 0)).toArray 21))
  generalize (cells32 (List.replicate b 0)).toArray = ds at hmk HP HB2 HR2
  generalize List.replicate b (0 : Int) = put at HP
  go_wp2_with fail
  clear hmk
  refine (fit_any _ _ z z b b at2 _ s put _ HR2.out HP.out (by omega) (by omega) (by omega) (by omega)).mono ?_
  have hfa := fitA_le z at2
  have hfn := fitN_le z at2 (idxN cut2 5)
  generalize fitA z at2 = x at hfa hfn ⊢
  generalize fitN z at2 (idxN cut2 5) = q at hfn ⊢
  have hlc : ((s.drop x).take q).length ≤ 2000 := by rw [List.length_take, List.length_drop, HR.out.len]; omega
  have hlp : (put.take (fitR z q)).length ≤ 2000 := by rw [List.length_take, HP.out.len]; omega
  generalize (s.drop x).take q = dc at hlc ⊢
  generalize put.take (fitR z q) = dp at hlp ⊢
  rintro e w4 ⟨C1, n1, c1, P1, m1, p1, rfl, hC1, hP1, _, hb4⟩
  have hn1 : n1 ≤ 2000 := by rw [← hC1.len]; exact hlc
  have hm1 : m1 ≤ 2000 := by rw [← hP1.len]; exact hlp
  have HC1 := hide hC1.runes
  have HP1 := hide hP1.runes
  have HB4 := hide (HB2.out.trans (hb4.mono HB2.out.size))
  have HR4 := hide (HR2.out.below hb4)
  clear hC1 hP1 hb4 hlc hlp
  go_wp2_with fail
  refine (same5_any _ z z x C1 P1 n1 c1 m1 p1 s dc dp _ HR4.out HC1.out HP1.out (by omega) (by omega) (by omega) (by omega) (by omega) (by omega)).mono ?_
  rintro e w8 ⟨rfl, hb8⟩
  have HW8 := hide (HB4.out.trans (hb8.mono HB4.out.size))
  clear hb8
  go_wp2_with fail
  refine (known5_any _).mono ?_
  rintro e w11 ⟨rfl, hb11⟩
  have HW11 := hide (HW8.out.trans (hb11.mono HW8.out.size))
  clear hb11
  go_wp2_with fail
  go_ret
  exact ⟨rfl, HW11.out⟩
end Go.Proofs.Ytjhnenljmmeflaa
