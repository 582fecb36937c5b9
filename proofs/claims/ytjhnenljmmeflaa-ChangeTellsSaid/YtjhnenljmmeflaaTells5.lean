/- The walk of standishlaw5.ChangeTells: it answers true. -/
import Derived.Test.YtjhnenljmmeflaaSame5
import Derived.Test.YtjhnenljmmeflaaKnown5
namespace Go.Proofs.Ytjhnenljmmeflaa
open Go.RowKit
set_option linter.unusedVariables false

set_option maxHeartbeats 4000000 in
theorem tells5_any (S : Option Addr) (k d : Nat) (at_ : Int) (C P : Option Addr) (n c m e' : Nat) (at2 cut2 : Int) (s cut put : List Int) (w : World) (hS : Runes w S k s) (hC : Runes w C n cut) (hP : Runes w P m put)
    (hk : k + 2 ≤ 35184372088832) (hn : n + 2 ≤ 35184372088832) (hm : m + 2 ≤ 35184372088832) (hd : k ≤ d) (hd2 : d ≤ 9223372036854775807) (hd3 : m ≤ e') (hd4 : e' ≤ 9223372036854775807) (hat : -9223372036854775808 ≤ at_ ∧ at_ ≤ 9223372036854775807) :
    Calls Try.prog 7 #[.slice S k d, .agg #[.int .i64 at_, .slice C n c, .slice P m e'], .int .i64 at2, .int .i64 cut2] w fun e w' => e = .returned (.bool true) ∧ Below w.heap.size w w' := by
  have hAl : ∀ (W : World) (o : Obj), Below W.heap.size W (W.alloc o) := fun W o => (Below.refl _ _).alloc (Nat.le_refl _) o
  have HAl := hide hAl
  have HB0 := hide (hAl w (.cells #[.int .i64 at_, .slice C n c, .slice P m e'] 31))
  have HX0 := hide (Box.new w 31 #[.int .i64 at_, .slice C n c, .slice P m e'])
  have HS := hide hS
  have HC := hide hC
  have HP := hide hP
  clear hS hC hP hAl
  go_enter Try.func7, Try.ntmps7
  go_wp2_with fail
  refine (cut_any S k d 200 _ hd hd2 (by omega)).mono ?_
  rintro e w1 ⟨rfl, rfl⟩
  go_wp2_with fail
  refine (clean_any S (min k 200) d _ _ ((HS.out.below HB0.out).take (m := min k 200) (by omega)) (by omega)).mono ?_
  rintro e w2 ⟨T, kt, dt, rfl, hT, hb2⟩
  have hlt := hT.len
  have hcapT := hT.cap
  generalize ht : cleanS (s.take (min k 200)) = t at hT hlt
  have hkt : kt ≤ 200 := by rw [← hlt, ← ht, cleanS_len, List.length_take]; omega
  clear ht hlt
  have HT := hide hT.runes
  have HB2 := hide (HB0.out.trans (hb2.mono (by simp)))
  have HX2 := hide (HX0.out.below hb2)
  clear hT hb2 HX0
  obtain ⟨⟨l0, l1, l2⟩, _⟩ := HX2.out.c3
  go_wp2_with fail
  refine (cut_any P m e' 100 _ hd3 hd4 (by omega)).mono ?_
  rintro e w1 ⟨rfl, rfl⟩
  go_wp2_with fail
  refine (clean_any P (min m 100) e' _ _ ((HP.out.below HB2.out).take (m := min m 100) (by omega)) (by omega)).mono ?_
  rintro e w3 ⟨U, ku, du, rfl, hU, hb3⟩
  have hlu := hU.len
  generalize hu : cleanS (put.take (min m 100)) = u at hU hlu
  have hku : ku ≤ 100 := by rw [← hlu, ← hu, cleanS_len, List.length_take]; omega
  clear hu hlu
  have HU := hide hU.runes
  have HT3 := hide (HT.out.below hb3)
  have HB3 := hide (HB2.out.trans (hb3.mono HB2.out.size))
  have HX3 := hide (HX2.out.below hb3)
  clear hU hb3 HX2
  obtain ⟨⟨l0, l1, l2⟩, _⟩ := HX3.out.c3
  go_wp2_with fail
  refine (fit_any T U kt dt ku du at2 cut2 t u _ HT3.out HU.out (by omega) (by omega) (by omega) (by omega)).mono ?_
  have hfa := fitA_le kt at2
  have hfn := fitN_le kt at2 cut2
  generalize fitA kt at2 = a at hfa hfn ⊢
  generalize fitN kt at2 cut2 = q at hfn ⊢
  have hlc : ((t.drop a).take q).length ≤ 200 := by rw [List.length_take, List.length_drop, HT.out.len]; omega
  have hlp : (u.take (fitR kt q)).length ≤ 100 := by rw [List.length_take, HU.out.len]; omega
  generalize (t.drop a).take q = dc at hlc ⊢
  generalize u.take (fitR kt q) = dp at hlp ⊢
  rintro e w4 ⟨C1, n1, c1, P1, m1, p1, rfl, hC1, hP1, _, hb4⟩
  have hn1 : n1 ≤ 200 := by rw [← hC1.len]; exact hlc
  have hm1 : m1 ≤ 100 := by rw [← hP1.len]; exact hlp
  have HC1 := hide hC1.runes
  have HP1 := hide hP1.runes
  have HB4 := hide (HB3.out.trans (hb4.mono HB3.out.size))
  have HT4 := hide (HT3.out.below hb4)
  have HX4 := hide (HX3.out.below hb4)
  clear hC1 hP1 hb4 HX3 hlc hlp
  obtain ⟨⟨l0, l1, l2⟩, _⟩ := HX4.out.c3
  go_wp2_with fail
  have hQ : ∀ W : World, Runes (W.alloc (.cells #[.int .i32 113] 21)) (some ⟨W.heap.size, 0, none⟩) 1 [113] := fun W => Runes.news W _ _ [113] rfl (wfLit1 (by omega))
  have HQ := hide hQ
  clear hQ
  have HBD := hide (HAl.out w4 (.cells #[.int .i64 a, .slice C1 n1 c1, .slice P1 m1 p1] 31))
  refine (copied_any a C1 P1 n1 c1 m1 p1 dc dp _ (HC1.out.below HBD.out) (HP1.out.below HBD.out) (by omega) (by omega)).mono ?_
  rintro e w5 ⟨C2, n2, c2, P2, m2, p2, rfl, hC2, hP2, hap, hb5⟩
  have hn2 : n2 ≤ 200 := by rw [← hC2.len, HC1.out.len]; exact hn1
  have hm2 : m2 ≤ 100 := by rw [← hP2.len, HP1.out.len]; exact hm1
  have HC2 := hide hC2
  have HP2 := hide hP2
  have HAP := hide hap
  have HB5 := hide hb5
  have HXD5 := hide ((Box.new w4 31 #[.int .i64 a, .slice C1 n1 c1, .slice P1 m1 p1]).below hb5)
  have HX5 := hide (HX4.out.below (HBD.out.trans (hb5.mono (by simp))))
  clear hC2 hP2 hap hb5 HX4
  have hq5 := HQ.out (w5.alloc (.cells #[.int .i64 a, .slice C2 n2 c2, .slice P2 m2 p2] 31))
  rw [World.size_alloc] at hq5
  have HQ5 := hide hq5
  have hsz5 : w4.heap.size + 1 ≤ w5.heap.size := by have := HB5.out.size; simpa using this
  have hsz4 := HB4.out.size
  have HOC := hide ((HC2.out.alloc (.cells #[.int .i64 a, .slice C2 n2 c2, .slice P2 m2 p2] 31)).alloc (.cells #[.int .i32 113] 21))
  clear hq5
  obtain ⟨⟨l0, l1, l2⟩, _⟩ := HX5.out.c3
  obtain ⟨⟨k0, k1, k2⟩, _⟩ := HXD5.out.c3
  obtain ⟨⟨j0, j1, j2⟩, j3, j4, j5⟩ := (Box.new w5 31 #[.int .i64 a, .slice C2 n2 c2, .slice P2 m2 p2]).c3
  go_wp2_with (at_builtin; refine wpList_app rfl (.tmp 26) (.tmp 27) rfl (w4.heap.size + 1) rfl (by simpa using HOC.out) rfl HQ5.out (by omega) (by simp; omega) ?_)
  intro A3 c3 w6 hown6 hg6 hb6 hat6 g3 hA3
  clear hA3
  have hgC := HC2.out.blk_ge
  have hgP := HP2.out.blk_ge
  simp only [World.size_alloc] at hgC hgP
  have hbx6 : Box w6 w5.heap.size 31 #[.int .i64 a, .slice C2 n2 c2, .slice P2 m2 p2] := ((Box.new w5 _ _).alloc _).grown hg6 (fun e => by have := (hgC _ e.symm).2; omega)
  have hP6 : Own w6 (w4.heap.size + 1) P2 m2 p2 dp := by
    have h := ((HP2.out.alloc (.cells #[.int .i64 a, .slice C2 n2 c2, .slice P2 m2 p2] 31)).alloc (.cells #[.int .i32 113] 21)).kept hg6 (by
      rcases hp : blk P2 with _ | g
      · exact .inl rfl
      · exact .inr fun e => HAP.out g e.symm hp)
    simpa using h
  have hne3 : blk A3 ≠ some w5.heap.size := fun e => by
    rcases hat6 with h | h
    · have := (hgC _ (h.symm.trans e)).2; omega
    · have e2 := h.symm.trans e
      injection e2 with e2
      omega
  have HB46 := hide ((HBD.out.trans (HB5.out.mono (by simp))).trans (((Below.refl w5.heap.size w5).alloc (Nat.le_refl _) _ |>.alloc (by simp) _).mono (by omega) |>.trans (hb6.mono (by omega))))
  have HX6 := hide (((HX5.out.alloc _).alloc _).low hb6 (by omega))
  have HXD6 := hide (((HXD5.out.alloc _).alloc _).low hb6 (by omega))
  have HB7 := hide (HB46.out.setCell (p := ⟨w5.heap.size, 1, none⟩) (by simp; omega) (.slice A3 (n2 + 1) c3))
  have HX7 := hide (HX6.out.far (p := ⟨w5.heap.size, 1, none⟩) (by simp; omega) (.slice A3 (n2 + 1) c3))
  have HXD7 := hide (HXD6.out.far (p := ⟨w5.heap.size, 1, none⟩) (by simp; omega) (.slice A3 (n2 + 1) c3))
  have HBX7 := hide (hbx6.set 1 (.slice A3 (n2 + 1) c3))
  have HA7 := hide (hown6.far (p := ⟨w5.heap.size, 1, none⟩) hne3 (.slice A3 (n2 + 1) c3)).runes
  have HP7 := hide (hP6.far (p := ⟨w5.heap.size, 1, none⟩) (fun e => by have := (hgP _ e).2; simp at this) (.slice A3 (n2 + 1) c3)).runes
  have hlen6 := hown6.len
  have HBW := hide (HB4.out.trans (HB7.out.mono hsz4))
  obtain ⟨⟨l0, l1, l2⟩, l3, l4, l5⟩ := hbx6.c3
  clear hown6 hg6 hb6 hat6 hgC hgP hbx6 hP6 hne3 HOC HQ5 HX6 HXD6 HC2 HP2 HAP HB46
  obtain ⟨⟨k0, k1, k2⟩, _⟩ := HXD7.out.c3
  obtain ⟨⟨j0, j1, j2⟩, _⟩ := HX7.out.c3
  go_wp2_with fail
  -- the three calls of same
  refine (same5_any S k d at_ C P n c m e' s cut put _ (HS.out.below HBW.out) (HC.out.below HBW.out) (HP.out.below HBW.out) hk hn hm hd hd2 hat).mono ?_
  rintro e w8 ⟨rfl, hb8⟩
  have HW8 := hide (HBW.out.trans (hb8.mono HBW.out.size))
  have HV8 := hide (HB7.out.trans (hb8.mono HB7.out.size))
  have HX8 := hide (HBX7.out.below hb8)
  have HD8 := hide (HXD7.out.below hb8)
  have HA8 := hide (HA7.out.below hb8)
  have HP8 := hide (HP7.out.below hb8)
  clear hb8
  obtain ⟨⟨k0, k1, k2⟩, _⟩ := HD8.out.c3
  obtain ⟨⟨j0, j1, j2⟩, _⟩ := HX8.out.c3
  go_wp2_with fail
  refine (same5_any T kt dt a C1 P1 n1 c1 m1 p1 t dc dp _ (HT4.out.below HV8.out) (HC1.out.below HV8.out) (HP1.out.below HV8.out) (by omega) (by omega) (by omega) (by omega) (by omega) (by omega)).mono ?_
  rintro e w9 ⟨rfl, hb9⟩
  have HW9 := hide (HW8.out.trans (hb9.mono HW8.out.size))
  have HV9 := hide (HV8.out.trans (hb9.mono HV8.out.size))
  have HX9 := hide (HX8.out.below hb9)
  have HA9 := hide (HA8.out.below hb9)
  have HP9 := hide (HP8.out.below hb9)
  clear hb9
  obtain ⟨⟨j0, j1, j2⟩, _⟩ := HX9.out.c3
  go_wp2_with fail
  refine (same5_any T kt dt a A3 P2 (n2 + 1) c3 m2 p2 t (dc ++ [113]) dp _ (HT4.out.below HV9.out) HA9.out HP9.out (by omega) (by omega) (by omega) (by omega) (by omega) (by omega)).mono ?_
  rintro e w10 ⟨rfl, hb10⟩
  have HW10 := hide (HW9.out.trans (hb10.mono HW9.out.size))
  clear hb10
  go_wp2_with fail
  refine (known5_any _).mono ?_
  rintro e w11 ⟨rfl, hb11⟩
  have HW11 := hide (HW10.out.trans (hb11.mono HW10.out.size))
  clear hb11
  go_wp2_with fail
  go_ret
  exact ⟨rfl, HW11.out⟩
end Go.Proofs.Ytjhnenljmmeflaa
