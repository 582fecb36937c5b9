/- Law 21: same answers true. -/
import Derived.Test.YtchcpeenpijekaaSome21
namespace Go.Proofs.Ytchcpeenpijekaa
open Go.RowKit Go.Maps Go.MapKept Go.ChangeMaps Go.Shelf
set_option linter.unusedVariables false

/-- The words of the items us, from item i on, may be spoiled. -/
structure SpoW (w0 wr : World) (A : Option Addr) (n c i : Nat) (us : List IV) : Prop where
  row : RowG wr 49 2 w0.heap.size A n c (us.map IV.cells)
  own : ∀ (j : Nat) u, i ≤ j → us[j]? = some u → ∃ l, Own wr w0.heap.size u.A u.n u.c l
  below : Below w0.heap.size w0 wr
theorem SpoW.next {w0 wr w2 : World} {A : Option Addr} {n c i : Nat} {us : List IV} (h : SpoW w0 wr A n c i us) (hap : us.Pairwise fun u v => Apart u.A v.A) {u : IV} (hu : us[i]? = some u) (hg : wr.grownBy w2 (blk u.A)) : SpoW w0 w2 A n c (i + 1) us := by
  obtain ⟨l, hl⟩ := h.own i u (Nat.le_refl _) hu
  refine ⟨h.row.kept hg ?_, fun j v hj hv => ?_, h.below.grown hg h.below.size fun g e => (hl.blk_ge g e).1⟩
  · cases hA : blk A with
    | none => exact .inl rfl
    | some g =>
      refine .inr fun e => ?_
      rcases own_ne_row hl h.row (by decide) with h1 | h1
      · rw [h1] at e; cases e
      · exact h1 (by rw [← e, hA])
  · obtain ⟨m, hm⟩ := h.own j v (by omega) hv
    refine ⟨m, hm.kept hg ?_⟩
    obtain ⟨hi1, hi2⟩ := List.getElem?_eq_some_iff.1 hu
    obtain ⟨hj1, hj2⟩ := List.getElem?_eq_some_iff.1 hv
    have h2 := List.pairwise_iff_getElem.1 hap i j hi1 hj1 (by omega)
    rw [hi2, hj2] at h2
    cases hA : blk v.A with
    | none => exact .inl rfl
    | some g => exact .inr fun e => h2 g e.symm hA
theorem tlen_n {w : World} {B t K n : Nat} {L : List Itm} (h : TrieB w B t K L) (hn : L.length = n) : Calls Try.prog 25 #[.pointer (some ⟨t, 0, none⟩)] w fun e w' => e = .returned (.int .i64 (n : Nat)) ∧ w = w' := by
  subst hn
  exact tlen_any h

set_option maxRecDepth 100000 in
set_option maxHeartbeats 4000000 in
theorem same21_any (P : Nat → Prop) (B B' t K g : Nat) (L : List Itm) (S : Option Addr) (m d : Nat) (p : List Int) (w : World) (hT : TrieB w B t K L) (hG : BagM P w B' g L) (hS : Runes w S m p) (hm : m ≤ 1000000) (hK : K ≤ 1000000) :
    Calls Try.prog 22 #[.pointer (some ⟨t, 0, none⟩), .pointer (some ⟨g, 0, none⟩), .slice S m d] w fun e w' => e = .returned (.bool true) ∧ Below w.heap.size w w' := by
  obtain ⟨A, n, c, us, hV⟩ := hG
  have hs := hT.1
  have hsz := hV.sizes hs
  have hln := hV.len.2
  have W1 := hide (twith_any (c := d) hT hS hm hK)
  have HT := hide hT
  have HV := hide hV
  have HS := hide hS
  have HSM := hide hs
  have HSZ := hide (show ∀ u ∈ us, u.n ≤ 1000000 ∧ u.n ≤ u.c ∧ u.c ≤ 9223372036854775807 from fun u hu => ⟨by have := hsz.2 u hu; omega, hV.cap u hu⟩)
  have hn := hsz.1
  clear hT hV hS hs hsz
  go_enter Try.func22, Try.ntmps22
  go_upto_region 2 with (go_at_call 24; refine W1.out.mono ?_; rintro e w1 ⟨Ao, no, co, vs, rfl, hO, hvs, hb1⟩)
  have HO := hide hO
  have HVS := hide hvs
  have HB1 := hide hb1
  have HV1 := hide (HV.out.below hb1)
  have c0 : w1.cell? ⟨g, 0, none⟩ = some (.slice A n c) := HV1.out.box.cell 0
  have hno : no ≤ 1000 := by
    have h1 := congrArg List.length hvs
    rw [List.length_map, hO.len] at h1
    have h2 : (withB L p).length ≤ L.length := List.length_filter_le _ _
    omega
  have HUB := hide (show ∀ u ∈ vs, u.n ≤ 1000000 from fun u hu => by
    have h1 := HSM.out.len u.itm
    have h2 : u.itm ∈ withB L p := by rw [← hvs]; exact List.mem_map_of_mem hu
    have h3 := h1 (List.mem_filter.1 h2).1
    have h4 := (hO.own u hu).len
    have h5 : u.itm.1 = u.t := rfl
    rw [h5] at h3
    omega)
  clear hO hvs hb1 W1
  go_region_held3 (fun w' => w'.cell? ⟨g, 0, none⟩ = some (.slice A n c))
    (first | go_keep)
    (first
     | (go_at_call 47; (with_reducible refine (bwith_any S m d p (HV1.out.below (Below.refl _ _).drew) (by omega) ((HS.out.below HB1.out).below (Below.refl _ _).drew) (by omega) HSZ.out).mono ?_); rintro e w2 ⟨A2, n2, c2, us2, rfl, hr2, he2, hrd2, hn2, hb2⟩
        have HR2 := hide hr2
        have HE2 := hide he2
        have HD2 := hide hrd2
        have HN2 := hide hn2
        have HB2 := hide ((Below.refl w1.heap.size w1).drew.trans hb2)
        have HV2 := hide (HV1.out.below HB2.out)
        have HQ2 := hide (sameItems_yes Ao A2 no co n2 c2 vs us2 w2 (HO.out.below HB2.out).row.items HR2.out.items (fun u hu => ((HO.out.below HB2.out).own u hu).runes) HD2.out (HVS.out.trans HE2.out.symm) (by omega) HUB.out HN2.out)
        clear hr2 he2 hrd2 hn2 hb2 c0
        have c1 : w2.cell? ⟨g, 0, none⟩ = some (.slice A n c) := HV2.out.box.cell 0)
     | (go_at_call 28; (with_reducible refine HQ2.out.mono ?_); rintro e w3 ⟨rfl, q3, h3⟩
        have hb3 : Below w2.heap.size w2 w3 := by rw [h3]; exact lt_drewN w2 q3
        have HB3 := hide (HB2.out.trans (hb3.mono HB2.out.size))
        have HV3 := hide (HV2.out.below hb3)
        clear h3 hb3 c1
        have c2 : w3.cell? ⟨g, 0, none⟩ = some (.slice A n c) := HV3.out.box.cell 0)
     | (go_at_call 25; (with_reducible refine (tlen_n ((HT.out.below HB1.out).below HB3.out) hln).mono ?_); rintro e w4 ⟨rfl, rfl⟩)
     | (go_at_call 26; (with_reducible refine (tnodes_any ((HT.out.below HB1.out).below HB3.out)).mono ?_); rintro e w4 ⟨rfl, rfl⟩)
     | (go_at_call 48; (with_reducible refine (bnodes_any HV3.out HSM.out).mono ?_); rintro e w5 ⟨rfl, q5, h5⟩
        have hb5 : Below w3.heap.size w3 w5 := by rw [h5]; exact lt_drewN w3 q5
        have HB5 := hide (HB3.out.trans (hb5.mono HB3.out.size))
        have HV5 := hide (HV3.out.below hb5)
        clear h5 hb5 c2
        have c3 : w5.cell? ⟨g, 0, none⟩ = some (.slice A n c) := HV5.out.box.cell 0))
  have HSP := hide (show SpoW w w5 Ao no co 0 vs from ⟨(HO.out.below HB5.out).row, fun j u _ hu => ⟨u.t, (HO.out.below HB5.out).own u (List.mem_of_getElem? hu)⟩, HB1.out.trans (HB5.out.mono HB1.out.size)⟩)
  have HAP := hide HO.out.ap
  have HLE := hide HO.out.len
  clear HO HV HV1 HV2 HV3 HV5 HB1 HB2 HB3 HB5 HQ2 HR2 HE2 HD2 HN2 HUB HVS HSM HSZ HS HT c3
  go_wp2_with fail
  go_loopw [9, 37] (fun _ s37 wr => ∃ i : Nat, i ≤ no ∧ s37 = .int .i64 i ∧ Hid (SpoW w wr Ao no co i vs)) (fun _ s37 _ => no - (intOf s37).toNat)
  case atStart => exact ⟨0, Nat.zero_le _, rfl, HSP.out⟩
  case round =>
    obtain ⟨i, hi, rfl, HSP⟩ := hrel
    by_cases hlt : i < no
    · obtain ⟨u, hu⟩ : ∃ u, vs[i]? = some u := ⟨_, List.getElem?_eq_getElem (by rw [HLE.out]; exact hlt)⟩
      have hv : (vs.map IV.cells)[i]? = some u.cells := by rw [List.getElem?_map, hu]; rfl
      obtain ⟨b, rfl, h1, _⟩ := HSP.out.row.cell (i := 0) hv (by omega) rfl
      obtain ⟨l, hl⟩ := HSP.out.own i u (Nat.le_refl _) hu
      have HL := hide hl
      have HU := hide hu
      have i0 : (0 : Int) ≤ (i : Int) := by omega
      have i1 : (i : Int) < (no : Int) := by omega
      rw [Nat.add_zero] at h1
      clear hl hu hv
      go_wp2_with (go_at_call 21; refine (spoil_any _ u.A u.n u.c l _ HL.out).mono ?_; rintro e w6 ⟨rfl, -, hg6⟩)
      have HSP2 := hide (HSP.out.next HAP.out HU.out hg6)
      clear hg6 HL HU h1 HSP
      go_roundw
      case rel => exact ⟨i + 1, by omega, by go_num, HSP2.out⟩
      case measure => simp [intOf]; omega
    · have HB := hide HSP.out.below
      go_wp2_with fail
      go_ret
      exact ⟨rfl, HB.out⟩
end Go.Proofs.Ytchcpeenpijekaa
