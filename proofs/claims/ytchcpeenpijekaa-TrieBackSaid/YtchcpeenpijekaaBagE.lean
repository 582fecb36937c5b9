/- Items one by one: alike. -/
import Derived.Test.YtchcpeenpijekaaBagD
namespace Go.Proofs.Ytchcpeenpijekaa
open Go.RowKit Go.Maps Go.MapKept Go.ChangeMaps Go.Shelf
set_option linter.unusedVariables false

set_option maxRecDepth 100000 in
set_option maxHeartbeats 2000000 in
theorem sameItems_yes (A C : Option Addr) (n c m d : Nat) (us vs : List IV) (w : World) (hA : ItemsM w A n us) (hC : ItemsM w C m vs) (hu : Rd w us) (hv : Rd w vs) (he : us.map IV.itm = vs.map IV.itm) (hn : n ≤ 1000000) (hb : ∀ u ∈ us, u.n ≤ 1000000) (hb2 : ∀ u ∈ vs, u.n ≤ 1000000) :
    Calls Try.prog 28 #[.slice A n c, .slice C m d] w fun e w' => e = .returned (.bool true) ∧ ∃ q, w' = w.drewN q := by
  have hnm : n = m := by
    have h1 := congrArg List.length he
    rw [List.length_map, List.length_map, hA.len, hC.len] at h1
    exact h1
  subst hnm
  have HA := hide hA
  have HC := hide hC
  have HU := hide hu
  have HV := hide hv
  have HE := hide he
  have HB := hide (And.intro hb hb2)
  clear hA hC hu hv he hb hb2
  go_enter Try.func28, Try.ntmps28
  go_wp2_with fail
  go_loopw [5] (fun s5 wr => ∃ i : Nat, i ≤ n ∧ s5 = .int .i64 i ∧ Hid (∃ q, wr = w.drewN q)) (fun s5 _ => n - (intOf s5).toNat)
  case atStart => exact ⟨0, Nat.zero_le _, rfl, 0, rfl⟩
  case round =>
    obtain ⟨i, hi, rfl, HQ⟩ := hrel
    have HW := hide (show Below w.heap.size w wr from by obtain ⟨q, rfl⟩ := HQ.out; exact lt_drewN w q)
    by_cases hlt : i < n
    · obtain ⟨u, hu⟩ : ∃ u, us[i]? = some u := ⟨_, List.getElem?_eq_getElem (by rw [HA.out.len]; exact hlt)⟩
      obtain ⟨v, hv⟩ : ∃ v, vs[i]? = some v := ⟨_, List.getElem?_eq_getElem (by rw [HC.out.len]; exact hlt)⟩
      have huv : u.itm = v.itm := by
        have h1 := congrArg (fun l => l[i]?) HE.out
        simp only [List.getElem?_map, hu, hv, Option.map_some] at h1
        injection h1
      obtain ⟨a, ao, rfl, ha1, ha2⟩ := (HA.out.below HW.out).at_ i u hu
      obtain ⟨b, bo, rfl, hb1, hb2⟩ := (HC.out.below HW.out).at_ i v hv
      have hk : u.k = v.k := congrArg Prod.snd huv
      have ht : u.t = v.t := congrArg Prod.fst huv
      have hS := fun q => refSame_any u.A v.A u.n u.c v.n v.c u.t v.t (wr.drewN q) (((HU.out u (List.mem_of_getElem? hu)).below HW.out).drewN q) (((HV.out v (List.mem_of_getElem? hv)).below HW.out).drewN q) (by have := HB.out.1 u (List.mem_of_getElem? hu); omega) (by have := HB.out.2 v (List.mem_of_getElem? hv); omega)
      have hss : sameS u.t v.t = true := by rw [ht]; simp [sameS]
      rw [hss] at hS
      rw [hk] at ha2
      have HS := hide hS
      have i0 : (0 : Int) ≤ (i : Int) := by omega
      have i1 : (i : Int) < (n : Int) := by omega
      have hkk : (((v.k : Nat) : Int) != (v.k : Int)) = false := by simp
      clear hu hv huv hk ht hS
      go_wp2_with fail
      go_quiet ((go_at_call 31; exact Calls.quiet_of (HS.out _)))
      go_wp2_with fail
      go_roundw
      case rel => exact ⟨i + 1, by omega, by go_num, by obtain ⟨q, rfl⟩ := HQ.out; exact ⟨_, World.drewN_drewN _ _ _⟩⟩
      case measure => simp [intOf]; omega
    · go_wp2_with fail
      go_ret
      exact ⟨rfl, HQ.out⟩
end Go.Proofs.Ytchcpeenpijekaa
