/- The walk of standishlaw21.TrieWith: it answers true. -/
import Derived.Test.YtchcpeenpijekaaTwo21
import Derived.Test.YtchcpeenpijekaaOpenT
import Derived.Test.YtchcpeenpijekaaWithP
namespace Go.Proofs.Ytchcpeenpijekaa
open Go.RowKit Go.Maps Go.MapKept Go.ChangeMaps Go.Shelf
set_option linter.unusedVariables false

theorem may_few {q : List Int} (h : ∀ x ∈ q, x = 97 ∨ x = 98) : mayS q = true := by
  unfold mayS
  rw [List.all_eq_true]
  intro x hx
  rcases h x hx with rfl | rfl <;> decide
theorem few_taken {L : List Itm} {q : List Int} {m i : Nat} (h : ∀ x ∈ q, x = 97 ∨ x = 98) (hl : q.length = m) (hm : 0 < m) (hm2 : m ≤ 12) (hL : allB L ≤ i) (hi : i < 1000) : addE L q = 0 := by
  unfold addE
  rw [if_neg, if_neg]
  · omega
  · rw [may_few h]
    simp
    intro e
    rw [e] at hl
    simp at hl
    omega

/-- What With handed back is there. -/
structure Its (w : World) (b n : Nat) (us : List IV) : Prop where
  at_ : ∀ j u, us[j]? = some u → w.cell? ⟨b, j * 2, none⟩ = some (.slice u.A u.n u.c) ∧ w.cell? ⟨b, j * 2 + 1, none⟩ = some (.int .i64 (u.k : Nat)) ∧ Runes w u.A u.n u.t
  len : us.length = n
  cap : ∀ u ∈ us, u.n ≤ u.c ∧ u.c ≤ 9223372036854775807
theorem Its.below {w w' : World} {b n : Nat} {us : List IV} (h : Its w b n us) (hb : Below w.heap.size w w') : Its w' b n us :=
  ⟨fun j u hu => by
    obtain ⟨h1, h2, h3⟩ := h.at_ j u hu
    have hl : b < w.heap.size := World.block_lt_of_cell? w _ h1
    exact ⟨(hb.cell (p := ⟨b, j * 2, none⟩) hl).trans h1, (hb.cell (p := ⟨b, j * 2 + 1, none⟩) hl).trans h2, h3.below hb⟩, h.len, h.cap⟩
theorem ItemsO.its {w : World} {B n c : Nat} {A : Option Addr} {us : List IV} (h : ItemsO w B A n c us) (hn : 0 < n) : ∃ b, A = some ⟨b, 0, none⟩ ∧ Its w b n us := by
  rcases h.row.form with ⟨_, h0, _⟩ | ⟨b, e, _, _⟩
  · omega
  · refine ⟨b, e, fun j u hu => ?_, h.len, fun u hu => (h.own u hu).cap⟩
    have hv : (us.map IV.cells)[j]? = some u.cells := by rw [List.getElem?_map, hu]; rfl
    obtain ⟨b1, e1, h1, _⟩ := h.row.cell (i := 0) hv (by omega) rfl
    obtain ⟨b2, e2, h2, _⟩ := h.row.cell (i := 1) hv (by omega) rfl
    rw [e] at e1 e2
    injection e1 with e1
    injection e1 with e1
    injection e2 with e2
    injection e2 with e2
    subst e1
    subst e2
    exact ⟨h1, h2, (h.own u (List.mem_of_getElem? hu)).runes⟩
theorem TrieB.upK {w : World} {B t K K' : Nat} {L : List Itm} (h : TrieB w B t K L) (hK : K ≤ K') : TrieB w B t K' L := by
  obtain ⟨h1, N, Q, h2⟩ := h
  have hT := h2.trie
  exact ⟨h1, N, Q, ⟨⟨hT.tree.node, fun p x hx => by
    obtain ⟨n, hn, hm⟩ := hT.tree.kids p x hx
    exact ⟨n, Nat.le_trans hn hK, hm⟩, hT.tree.one, hT.tree.up, hT.tree.base⟩, hT.box, hT.one, hT.mem, hT.live, hT.base⟩, h2.bag, h2.mem⟩
theorem tcount_n {w : World} {B t K n c k : Nat} {A : Option Addr} {L : List Itm} {l : List Int} (h : TrieB w B t K L) (hA : Runes w A n l) (hn : n ≤ 35184372088832) (hk : cntB L l = k) :
    Calls Try.prog 16 #[.pointer (some ⟨t, 0, none⟩), .slice A n c] w fun e w' => e = .returned (.int .i64 (k : Nat)) ∧ w = w' := by
  subst hk
  exact tcount_all h hA hn
theorem lessR_yes (A C : Option Addr) (n c m d : Nat) (a b : List Int) (w : World) (ha : Runes w A n a) (hb : Runes w C m b) (hn : n ≤ 9223372036854775807) (hm : m ≤ 9223372036854775807) (h : lessS a b = true) :
    Calls Try.prog 29 #[.slice A n c, .slice C m d] w fun e w' => e = .returned (.bool true) ∧ Below w.heap.size w w' := by
  refine (rless_any A C n c m d a b w ha hb hn hm).mono ?_
  rintro e w' ⟨rfl, q, rfl⟩
  rw [h]
  exact ⟨rfl, lt_drewN w q⟩
theorem same_yes (A C : Option Addr) (n c m d : Nat) (a b : List Int) (w : World) (ha : Runes w A n a) (hb : Runes w C m b) (hn : n ≤ 9223372036854775807) (hm : m ≤ 9223372036854775807) (h : a = b) :
    Calls Try.prog 31 #[.slice A n c, .slice C m d] w fun e w' => e = .returned (.bool true) ∧ Below w.heap.size w w' := by
  refine (refSame_any A C n c m d a b w ha hb hn hm).mono ?_
  rintro e w' ⟨rfl, q, rfl⟩
  subst h
  exact ⟨by simp [sameS], lt_drewN w q⟩
theorem begins_is (A C : Option Addr) (n c m d : Nat) (a b : List Int) (w : World) (z : Bool) (ha : Runes w A n a) (hb : Runes w C m b) (hn : n ≤ c) (hc : c ≤ 9223372036854775807) (hm : m ≤ 9223372036854775807) (h : begS a b = z) :
    Calls Try.prog 30 #[.slice A n c, .slice C m d] w fun e w' => e = .returned (.bool z) ∧ Below w.heap.size w w' := by
  refine (begins_any A C n c m d a b w ha hb hn hc hm).mono ?_
  rintro e w' ⟨rfl, q, rfl⟩
  subst h
  exact ⟨rfl, lt_drewN w q⟩

set_option maxRecDepth 100000 in
set_option maxHeartbeats 1000000 in
theorem with21_any (A : Option Addr) (n c : Nat) (us : Nat → TV) (S : Option Addr) (ns cs : Nat) (ls : List Int) (w : World) (hD : Txts w A n us) (hn : n ≤ c) (hc : c ≤ 9223372036854775807) (hS : Runes w S ns ls) (hns : ns ≤ cs) (hcs : cs ≤ 9223372036854775807) :
    Calls Try.prog 5 #[.slice A n c, .slice S ns cs] w fun e w' => e = .returned (.bool true) ∧ Below w.heap.size w w' := by
  have HD := hide hD
  have HS := hide hS
  clear hD hS
  go_enter Try.func5, Try.ntmps5
  go_wp2_with fail
  refine (tnew_all _).mono ?_
  rintro e w1 ⟨t, rfl, h1, hb1⟩
  have HT := hide h1
  have HB := hide hb1
  clear h1 hb1
  go_wp2_with fail
  go_loopw [6] (fun s6 wx => ∃ (i : Nat) (L : List Itm), i ≤ n ∧ i ≤ 25 ∧ s6 = .int .i64 i ∧ Hid (TrieB wx w.heap.size t (1000 * i) L) ∧ Hid (allB L ≤ i) ∧ Hid (Below w.heap.size w wx)) (fun s6 _ => n - (intOf s6).toNat)
  case atStart => exact ⟨0, [], Nat.zero_le _, Nat.zero_le _, rfl, HT.out, Nat.le_refl _, HB.out⟩
  case round =>
    obtain ⟨i, L, hi, hi6, rfl, HT, HL, HB⟩ := hrel
    by_cases hlt : i < n ∧ i < 25
    · obtain ⟨hlt, hlt6⟩ := hlt
      obtain ⟨bb, o, hA, h1⟩ := (HD.out.below HB.out).at_ i hlt
      have HOK := hide ((HD.out.below HB.out).ok i hlt)
      generalize us i = u at h1 HOK
      have i0 : (0 : Int) ≤ (i : Int) := by omega
      have i1 : (i : Int) < (n : Int) := by omega
      have i6 : (i : Int) < 25 := by omega
      have HSO := hide (some_any true u.T u.n u.c u.t wr HOK.out.rd HOK.out.le HOK.out.cap)
      subst hA
      go_upto_region 8 with (go_at_call 12; refine HSO.out.mono ?_; rintro e w1 ⟨T, m, d, q, rfl, hR1, hm12, hmd, hdm, hb1, hfew⟩)
      have HT1 := hide (HT.out.below hb1)
      have HB1 := hide (HB.out.trans (hb1.mono HB.out.size))
      have HR1 := hide hR1
      have HF := hide (hfew (by trivial))
      clear hfew hR1 hb1 h1 HSO HOK HT HB
      by_cases hm0 : 0 < m
      · go_wp2_with (go_at_call 18; refine (tadd_yes HT1.out HR1.out HB1.out.size (by omega) (by omega) (few_taken HF.out HR1.out.len hm0 hm12 HL.out (by omega)) rfl).mono ?_; rintro e w3 ⟨rfl, hc3, h3⟩)
        have HT3 := hide h3
        have HB3 := hide (HB1.out.trans hc3.low)
        have HL3 := hide (show allB (addB L q) ≤ i + 1 from by rw [all_addB]; have := HL.out; omega)
        clear hc3 h3 HT1 HB1 HR1 HF HL
        go_roundw
        case rel => exact ⟨i + 1, addB L q, by omega, by omega, by go_num, by rw [Nat.mul_add]; exact HT3.out, HL3.out, HB3.out⟩
        case measure => simp [intOf]; omega
      · have HT3 := hide (TrieB.upK HT1.out (K' := 1000 * (i + 1)) (by omega))
        have HL3 := hide (show allB L ≤ i + 1 from Nat.le_succ_of_le HL.out)
        clear HT1 HR1 HF HL
        go_wp2_with fail
        go_roundw
        case rel => exact ⟨i + 1, L, by omega, by omega, by go_num, HT3.out, HL3.out, HB1.out⟩
        case measure => simp [intOf]; omega
    · have hd : (¬ i < n) ∨ ((i : Int) < (n : Int) ∧ decide ((i : Int) < 25) = false) := by
        by_cases h : i < n
        · exact .inr ⟨by omega, by simp; omega⟩
        · exact .inl h
      clear hlt
      have HSO := hide (some_any true S ns cs ls wr (HS.out.below HB.out) hns hcs)
      rcases hd with d1 | ⟨d1, d2⟩
      all_goals
        go_upto_region 12 with (first
          | (go_at_call 12; refine HSO.out.mono ?_; rintro e w1 ⟨S1, m1, d1, p, rfl, hR1, hm12, hmd, hdm, hb1, -⟩
             have HT1 := hide (HT.out.below hb1)
             have HB1 := hide (HB.out.trans (hb1.mono HB.out.size))
             have HR1 := hide hR1
             clear hR1 hb1)
          | (go_at_call 24; (with_reducible refine (twith_any (c := 0) HT1.out (Runes.nil _ none) (by omega) (by omega)).mono ?_); rintro e w2 ⟨A2, n2, c2, us2, rfl, hO2, hu2, hb2⟩
             have HT2 := hide (HT1.out.below hb2)
             have HB2 := hide (HB1.out.trans (hb2.mono HB1.out.size))
             have HR2 := hide (HR1.out.below hb2)
             have HO2 := hide hO2
             have HU2 := hide hu2
             clear hO2 hu2 hb2)
          | (go_at_call 24; (with_reducible refine (twith_any (c := d1) HT2.out HR2.out (by omega) (by omega)).mono ?_); rintro e w3 ⟨A3, n3, c3, us3, rfl, hO3, hu3, hb3⟩))
        have HT3 := hide (HT2.out.below hb3)
        have HB3 := hide (HB2.out.trans (hb3.mono HB2.out.size))
        have HR3 := hide (HR2.out.below hb3)
        have HI2 := hide (HO2.out.below hb3)
        have HI3 := hide hO3
        have HU3 := hide hu3
        rw [withB_nil] at HU2
        have HN2 := hide (show L.length = n2 from by rw [← HU2.out, List.length_map, HO2.out.len])
        clear hO3 hu3 hb3 HT1 HB1 HR1 HT2 HB2 HR2 HO2 HSO HT HB
        have HSM := hide HT3.out.1
        have hn2 : n2 ≤ 1000 := by have h1 := len_le_all HSM.out.bag; have h2 := HSM.out.all; have h3 := HN2.out; omega
        have hl3 : us3.length = n3 := HI3.out.len
        have HL3 := hide hl3
        have hn3 : n3 ≤ 1000 := by
          have h1 := congrArg List.length HU3.out
          rw [List.length_map, hl3] at h1
          have h2 : (withB L p).length ≤ L.length := List.length_filter_le _ _
          have h3 := HN2.out
          omega
        clear hl3
        have HP := hide HR3.out.len
        go_wp2_with fail
        go_loopw [10, 11, 51] (fun s10 s11 s51 wx => ∃ (i k N : Nat), i ≤ n2 ∧ s10 = .int .i64 k ∧ s11 = .int .i64 N ∧ s51 = .int .i64 i ∧ Hid ((withB (L.take i) p).length = k) ∧ Hid (1 + nodesGo [] (L.take i) = N) ∧ k ≤ 1000 ∧ N ≤ 1 + 1000 * i ∧ Hid (Below w3.heap.size w3 wx)) (fun _ _ s51 _ => n2 - (intOf s51).toNat)
        case atStart => exact ⟨0, 0, 1, Nat.zero_le _, rfl, rfl, rfl, rfl, rfl, by omega, by omega, Below.refl _ _⟩
        case round =>
          obtain ⟨i, k, N, hi, rfl, rfl, rfl, HK, HN, hk, hN, HB⟩ := hrel
          by_cases hlt : i < n2
          · obtain ⟨u, hu⟩ : ∃ u, us2[i]? = some u := ⟨_, List.getElem?_eq_getElem (by rw [HI2.out.len]; exact hlt)⟩
            obtain ⟨b, rfl, hits⟩ := HI2.out.its (by omega)
            have HX := hide (hits.below HB.out)
            obtain ⟨h1, h2, h3⟩ := HX.out.at_ i u hu
            have hx : L[i]? = some (u.t, u.k) := by rw [← HU2.out, List.getElem?_map, hu]; rfl
            have hic := item_cnt HSM.out.bag hx
            have hul : u.n ≤ 1000 := by
              have g1 := HSM.out.len _ (List.mem_of_getElem? hx)
              have g2 := h3.len
              dsimp only at g1
              omega
            have hku : u.k ≤ 1000 := by have g1 := cnt_le_all L u.t; have g2 := HSM.out.all; have g3 := hic.2; dsimp only at g3; omega
            have HUC := hide (HX.out.cap u (List.mem_of_getElem? hu))
            have HIC := hide hic
            have HXX := hide hx
            have HR := hide h3
            have i0 : (0 : Int) ≤ (i : Int) := by omega
            have i1 : (i : Int) < (n2 : Int) := by omega
            obtain ⟨xb, hxb⟩ : ∃ xb, wr.heap.size = xb := ⟨_, rfl⟩
            have hbx := (Below.refl wr.heap.size wr).alloc (Nat.le_refl _) (.cells #[.slice u.A u.n u.c, .int .i64 (u.k : Nat)] 49)
            have HBX := hide (HB.out.trans (hbx.mono HB.out.size))
            have HXB := hide (Box.newAt hxb 49 #[.slice u.A u.n u.c, .int .i64 (u.k : Nat)])
            have HX1 := hide (HX.out.below hbx)
            have HR1 := hide (h3.below hbx)
            clear hits hu hx hic h3 hbx HB HX HR
            go_upto_region 16 with fail
            generalize wr.alloc (.cells #[.slice u.A u.n u.c, .int .i64 (u.k : Nat)] 49) = W1 at HBX HXB HX1 HR1 ⊢
            clear h1 h2 hxb
            obtain ⟨⟨e0, e1⟩, -⟩ := HXB.out.c2
            have HT16 := hide (HT3.out.below HBX.out)
            have hk1 : 0 < u.k := HIC.out.1
            have hk2 : ¬ u.k < 1 := by omega
            have hk4 : ¬ u.k = 0 := by omega
            have hk5 : decide ((u.k : Int) < 1) = false := by simp; omega
            have k3 : (((u.k : Nat) : Int) != (u.k : Int)) = false := by simp
            have HCN := hide (show ∀ q, Calls Try.prog 16 #[.pointer (some ⟨t, 0, none⟩), .slice u.A u.n u.c] (W1.drewN q) fun e w' => e = .returned (.int .i64 (u.k : Nat)) ∧ w' = W1.drewN q from fun q => (tcount_n (c := u.c) (HT16.out.below (lt_drewN W1 q)) (HR1.out.drewN q) (by omega) HIC.out.2).mono fun _ _ h => ⟨h.1, h.2.symm⟩)
            have HBG := hide (show ∀ q, Calls Try.prog 30 #[.slice u.A u.n u.c, .slice S1 m1 d1] (W1.drewN q) fun e w' => e = .returned (.bool (begS u.t p)) ∧ ∃ m, w' = (W1.drewN q).drewN m from fun q => begins_any u.A S1 u.n u.c m1 d1 u.t p _ (HR1.out.drewN q) ((HR3.out.below HBX.out).drewN q) HUC.out.1 HUC.out.2 (by omega))
            go_cut [83] (fun s83 wx => s83 = .bool false ∧ ∃ q, wx = W1.drewN q)
            case first =>
              by_cases hi0 : 0 < i
              · obtain ⟨j, rfl⟩ : ∃ j, i = j + 1 := ⟨i - 1, by omega⟩
                obtain ⟨v, hv⟩ : ∃ v, us2[j]? = some v := ⟨_, List.getElem?_eq_getElem (by rw [HI2.out.len]; omega)⟩
                obtain ⟨g1, g2, g3⟩ := HX1.out.at_ j v hv
                have hxv : L[j]? = some (v.t, v.k) := by rw [← HU2.out, List.getElem?_map, hv]; rfl
                have hvl : v.n ≤ 1000 := by
                  have g4 := HSM.out.len _ (List.mem_of_getElem? hxv)
                  have g5 := g3.len
                  dsimp only at g4
                  omega
                have HLS := hide (show ∀ q, Calls Try.prog 29 #[.slice v.A v.n v.c, .slice u.A u.n u.c] (W1.drewN q) fun e w' => e = .returned (.bool true) ∧ ∃ m, w' = (W1.drewN q).drewN m from fun q => by
                  have h := rless_any v.A u.A v.n v.c u.n u.c v.t u.t _ (g3.drewN q) (HR1.out.drewN q) (by omega) (by omega)
                  rw [show lessS v.t u.t = true from asc_prev HSM.out.bag hxv HXX.out] at h
                  exact h)
                have y0 : (0 : Int) ≤ (j : Int) := by omega
                have y1 : (j : Int) < (n2 : Int) := by omega
                have hv3 : IntKind.i64.wrap (((j + 1 : Nat) : Int) - 1) = (j : Int) := by rw [IntWalk.i64_in _ (by omega)]; omega
                clear hv g2 g3 hxv hvl
                go_big_quiet ((first
                  | (go_at_call 16; exact Calls.quiet_of_same (HCN.out _))
                  | (go_at_call 29; exact Calls.quiet_of (HLS.out _))))
                clear hv3
                go_wp2_with fail
                go_meet
                exact ⟨rfl, _, rfl⟩
              · go_big_quiet ((first
                  | (go_at_call 16; exact Calls.quiet_of_same (HCN.out _))))
                go_wp2_with fail
                go_meet
                exact ⟨rfl, _, rfl⟩
            case rest =>
            obtain ⟨rfl, q1, rfl⟩ := hcut
            clear hk1 hk2 hk4 hk5 HCN
            have hut : u.t.length = u.n := HR1.out.len
            have HNX := hide (nodes_next HXX.out)
            obtain ⟨K, hK⟩ : ∃ K, (withB (L.take (i + 1)) p).length = K := ⟨_, rfl⟩
            have hKn : K ≤ 1000 := by
              have g1 : (withB (L.take (i + 1)) p).length ≤ (L.take (i + 1)).length := List.length_filter_le _ _
              rw [List.length_take] at g1
              have := HN2.out
              omega
            have HKK := hide hK
            clear hK
            have HUT := hide hut
            clear hut
            go_upto_if 87 with (go_at_call 30; refine (HBG.out q1).mono ?_; rintro e wb ⟨rfl, q2, rfl⟩)
            go_cut [10] (fun s10 wx => s10 = .int .i64 K ∧ ∃ q, wx = W1.drewN q)
            case first =>
              cases hz : begS u.t p
              · have hKk : K = k := by have g1 := HKK.out; rw [withB_not HXX.out hz] at g1; have := HK.out; omega
                subst hKk
                clear hz
                go_wp2_with fail
                go_meet
                exact ⟨rfl, _, rfl⟩
              · have hKk : K = k + 1 := by have g1 := HKK.out; rw [withB_yes HXX.out hz, List.length_append] at g1; have := HK.out; simp at g1; omega
                have hat := withB_at HXX.out hz
                rw [HK.out, ← HU3.out, List.getElem?_map] at hat
                obtain ⟨v, hv, hvu⟩ : ∃ v, us3[k]? = some v ∧ v.itm = (u.t, u.k) := by
                  cases hv : us3[k]? with
                  | none => rw [hv] at hat; cases hat
                  | some v => rw [hv] at hat; exact ⟨v, rfl, Option.some.inj hat⟩
                have hk3 : k < n3 := by rw [← HL3.out]; exact (List.getElem?_eq_some_iff.1 hv).1
                obtain ⟨b3, rfl, hits3⟩ := HI3.out.its (by omega)
                obtain ⟨g1, g2, g3⟩ := (hits3.below HBX.out).at_ k v hv
                have hvk : v.k = u.k := congrArg Prod.snd hvu
                have hvt : v.t = u.t := congrArg Prod.fst hvu
                rw [hvk] at g2
                have hvn : v.n = u.n := by have h1 := g3.len; rw [hvt, HUT.out] at h1; exact h1.symm
                have HSA := hide (show ∀ r q, Calls Try.prog 31 #[.slice v.A v.n v.c, .slice u.A u.n u.c] ((W1.drewN r).drewN q) fun e w' => e = .returned (.bool true) ∧ ∃ m, w' = ((W1.drewN r).drewN q).drewN m from fun r q => by
                  have h := refSame_any v.A u.A v.n v.c u.n u.c v.t u.t _ ((g3.drewN r).drewN q) ((HR1.out.drewN r).drewN q) (by omega) (by omega)
                  rw [show sameS v.t u.t = true from by rw [hvt]; simp [sameS]] at h
                  exact h)
                have y0 : (0 : Int) ≤ (k : Int) := by omega
                have y1 : (k : Int) < (n3 : Int) := by omega
                have y2 : ¬ n3 ≤ k := by omega
                subst hKk
                clear hz hat hv hvu hk3 hits3 g3 hvk hvt hvn
                go_upto_region 19 with fail
                go_cut [112] (fun s112 wx => s112 = .bool false ∧ ∃ q, wx = W1.drewN q)
                case first =>
                  have HSB := hide (HSA.out (q1 + q2))
                  have f0 : (W1.drewN (q1 + q2)).cell? ⟨xb, 0, none⟩ = some (.slice u.A u.n u.c) := e0
                  have f1 : (W1.drewN (q1 + q2)).cell? ⟨xb, 1, none⟩ = some (.int .i64 (u.k : Nat)) := e1
                  have f2 : (W1.drewN (q1 + q2)).cell? ⟨b3, k * 2, none⟩ = some (.slice v.A v.n v.c) := g1
                  have f3 : (W1.drewN (q1 + q2)).cell? ⟨b3, k * 2 + 1, none⟩ = some (.int .i64 (u.k : Nat)) := g2
                  have hW2 := hide (show ∀ r, ∃ q, (W1.drewN (q1 + q2)).drewN r = W1.drewN q from fun r => ⟨_, World.drewN_drewN _ _ _⟩)
                  clear e0 e1 g1 g2 HSA
                  generalize W1.drewN (q1 + q2) = W2 at HSB f0 f1 f2 f3 hW2 ⊢
                  go_big_quiet ((go_at_call 31; exact Calls.quiet_of (HSB.out _)))
                  go_wp2_with fail
                  go_meet
                  exact ⟨rfl, hW2.out _⟩
                case rest =>
                obtain ⟨rfl, q4, rfl⟩ := hcut
                go_wp2_with fail
                go_meet
                exact ⟨by go_num, _, rfl⟩
            case rest =>
            obtain ⟨rfl, q3, rfl⟩ := hcut
            clear HBG
            obtain ⟨l, hl⟩ : ∃ l, lcp (prevW L i) u.t = l := ⟨_, rfl⟩
            have HLC := hide hl
            clear hl
            go_wp2_with fail
            go_loopw [11, 14] (fun s11 s14 wx => ∃ m, 1 ≤ m ∧ m ≤ u.n + 1 ∧ s14 = .int .i64 (m : Nat) ∧ s11 = .int .i64 (N + (m - 1 - l) : Nat) ∧ ∃ q, wx = W1.drewN q) (fun _ s14 _ => u.n + 1 - (intOf s14).toNat)
            case atStart => exact ⟨1, by omega, by omega, rfl, by rw [show 1 - 1 - l = 0 by omega]; rfl, _, rfl⟩
            case round =>
              obtain ⟨m, hm1, hm2, rfl, rfl, q5, rfl⟩ := hrel
              by_cases hmu : m ≤ u.n
              · have m0 : (0 : Int) ≤ (m : Int) := by omega
                have m1 : (m : Int) ≤ (u.c : Int) := by have := HUC.out.1; omega
                have HRM := hide (HR1.out.take hmu)
                go_upto_region 25 with fail
                go_cut [137] (fun s137 wx => s137 = .bool (decide (l < m)) ∧ ∃ q, wx = W1.drewN q)
                case first =>
                  have hW2 := hide (show ∀ r, ∃ q, (W1.drewN q5).drewN r = W1.drewN q from fun r => ⟨_, World.drewN_drewN _ _ _⟩)
                  have f0 : (W1.drewN q5).cell? ⟨xb, 0, none⟩ = some (.slice u.A u.n u.c) := e0
                  by_cases hi0 : 0 < i
                  · obtain ⟨j, hj⟩ : ∃ j, i = j + 1 := ⟨i - 1, by omega⟩
                    obtain ⟨v, hv⟩ : ∃ v, us2[j]? = some v := ⟨_, List.getElem?_eq_getElem (by rw [HI2.out.len]; omega)⟩
                    obtain ⟨g1, g2, g3⟩ := HX1.out.at_ j v hv
                    obtain ⟨g4, g5⟩ := HX1.out.cap v (List.mem_of_getElem? hv)
                    have hxv : L[j]? = some (v.t, v.k) := by rw [← HU2.out, List.getElem?_map, hv]; rfl
                    have HBN := hide (show ∀ q, Calls Try.prog 30 #[.slice v.A v.n v.c, .slice u.A m u.c] ((W1.drewN q5).drewN q) fun e w' => e = .returned (.bool (decide (m ≤ l))) ∧ ∃ m, w' = ((W1.drewN q5).drewN q).drewN m from fun q => by
                      have h := begins_any v.A u.A v.n v.c m u.c v.t (u.t.take m) _ ((g3.drewN q5).drewN q) ((HRM.out.drewN q5).drewN q) g4 g5 (by omega)
                      rw [begin_new (x := (u.t, u.k)) (v := v.t) (n := m) (by show m ≤ u.t.length; rw [HUT.out]; exact hmu)] at h
                      rw [show lcp v.t u.t = l from by rw [← HLC.out, hj, prevW_succ hxv]] at h
                      exact h)
                    have y0 : (0 : Int) ≤ (j : Int) := by omega
                    have y1 : (j : Int) < (n2 : Int) := by omega
                    have f1 : (W1.drewN q5).cell? ⟨b, j * 2, none⟩ = some (.slice v.A v.n v.c) := g1
                    have hv3 : IntKind.i64.wrap ((i : Int) - 1) = (j : Int) := by rw [IntWalk.i64_in _ (by omega)]; omega
                    have hi1 : ((i : Int) == 0) = false := by simp; omega
                    have hi2 : ¬ i = 0 := by omega
                    have hml : (!decide (m ≤ l)) = decide (l < m) := by rw [← decide_not]; congr 1; exact propext Nat.not_le
                    have HML := hide hml
                    clear hv g1 g2 g3 hxv g4 g5 hml hj e0 e1
                    generalize W1.drewN q5 = W2 at HBN f0 f1 hW2 ⊢
                    go_big_quiet ((go_at_call 30; exact Calls.quiet_of (HBN.out _)))
                    clear hv3
                    go_wp2_with fail
                    go_meet
                    exact ⟨by rw [← HML.out], hW2.out _⟩
                  · have hl0 : l = 0 := by rw [← HLC.out, show i = 0 by omega]; rfl
                    have hlm : decide (l < m) = true := by simp; omega
                    have HLM := hide hlm
                    have hi1 : ((i : Int) == 0) = true := by simp; omega
                    have hi2 : i = 0 := by omega
                    clear hl0 hlm e0 e1
                    generalize W1.drewN q5 = W2 at f0 hW2 ⊢
                    go_big_quiet (fail)
                    go_wp2_with fail
                    go_meet
                    exact ⟨by rw [HLM.out], hW2.out _⟩
                case rest =>
                obtain ⟨rfl, q6, rfl⟩ := hcut
                by_cases hlm : l < m
                · have e1 : decide (l < m) = true := by simpa using hlm
                  rw [e1]
                  go_wp2_with fail
                  go_roundw
                  case rel => exact ⟨m + 1, by omega, by omega, by go_num, by rw [show N + (m + 1 - 1 - l) = N + (m - 1 - l) + 1 by omega]; go_num, _, rfl⟩
                  case measure => simp [intOf]; omega
                · have e1 : decide (l < m) = false := by simpa using hlm
                  rw [e1]
                  go_wp2_with fail
                  go_roundw
                  case rel => exact ⟨m + 1, by omega, by omega, by go_num, by rw [show N + (m + 1 - 1 - l) = N + (m - 1 - l) by omega], _, rfl⟩
                  case measure => simp [intOf]; omega
              · obtain rfl : m = u.n + 1 := by omega
                have HNN := hide (show 1 + nodesGo [] (L.take (i + 1)) = N + (u.n + 1 - 1 - l) from by
                  rw [HNX.out]
                  rw [HLC.out, HUT.out]
                  have := HN.out
                  omega)
                go_wp2_with fail
                go_roundw
                case rel => exact ⟨i + 1, K, _, by omega, rfl, rfl, by go_num, HKK.out, HNN.out, hKn, by omega, HBX.out.trans ((lt_drewN W1 _).mono HBX.out.size)⟩
                case measure => simp [intOf]; omega
          · obtain rfl : i = n2 := by omega
            have hLt : L.take i = L := List.take_of_length_le (by rw [HN2.out]; exact Nat.le_refl _)
            have hk3 : k = n3 := by
              have h1 := HK.out
              rw [hLt] at h1
              have h2 := congrArg List.length HU3.out
              rw [List.length_map, HL3.out] at h2
              omega
            have hNB : N = nodesB L := by
              have h1 := HN.out
              rw [hLt] at h1
              exact h1.symm
            subst hk3
            subst hNB
            have HT4 := hide (HT3.out.below HB.out)
            have HB4 := hide (HB3.out.trans (HB.out.mono HB3.out.size))
            clear HK HN HB hLt
            go_wp2_with (first
              | (go_at_call 25; refine (tlen_n HT4.out HN2.out).mono ?_; rintro e w5 ⟨rfl, rfl⟩)
              | (go_at_call 26; refine (tnodes_any HT4.out).mono ?_; rintro e w5 ⟨rfl, rfl⟩)
              | (go_at_call 23; refine (known21_any _).mono ?_; rintro e w6 ⟨rfl, hb6⟩))
            have HB6 := hide (HB4.out.trans (hb6.mono HB4.out.size))
            clear hb6
            go_ret
            exact ⟨rfl, HB6.out⟩
end Go.Proofs.Ytchcpeenpijekaa
