/- The walk of standishlaw21.TrieBack: it answers true. -/
import Derived.Test.YtchcpeenpijekaaWith21
import Derived.Test.YtchcpeenpijekaaBackP
namespace Go.Proofs.Ytchcpeenpijekaa
open Go.RowKit Go.Maps Go.MapKept Go.ChangeMaps Go.Shelf
set_option linter.unusedVariables false

def SomeO (w : World) (e : Ending) (w' : World) : Prop := ∃ A' n' c' l', e = .returned (.slice A' n' c') ∧ Own w' w.heap.size A' n' c' l' ∧ n' ≤ 12 ∧ Below w.heap.size w w' ∧ (∀ x ∈ l', x = 97 ∨ x = 98)
set_option maxRecDepth 100000 in
set_option maxHeartbeats 1000000 in
/-- A word of few letters is the call's own. -/
theorem some_own (A : Option Addr) (n c : Nat) (l : List Int) (w : World) (hA : Runes w A n l) (hc : n ≤ c) (hcm : c ≤ 9223372036854775807) :
    Calls Try.prog 12 #[.slice A n c, .bool true] w (SomeO w) := by
  have C1 := hide (cut_any A n c 12 w hc hcm (by omega))
  have hmn : min n 12 ≤ n := Nat.min_le_left _ _
  have hm12 : min n 12 ≤ 12 := Nat.min_le_right _ _
  have HA := hide (hA.take hmn)
  obtain ⟨m, hm⟩ : ∃ m, min n 12 = m := ⟨_, rfl⟩
  obtain ⟨a, ha⟩ : ∃ a, l.take m = a := ⟨_, rfl⟩
  rw [hm, ha] at HA
  rw [hm] at C1 hmn hm12
  clear hA hm ha
  go_enter Try.func12, Try.ntmps12
  go_wp2_with (go_at_call 32; refine C1.out.mono ?_; rintro e w1 ⟨rfl, rfl⟩)
  clear C1
  go_loopw [5, 6] (fun s5 s6 wr => ∃ (i : Nat) (O : Option Addr) (co : Nat) (o : List Int), i ≤ m ∧ i ≤ 4 ∧ s6 = .int .i64 i ∧ s5 = .slice O i co ∧ Hid (Own wr w.heap.size O i co o) ∧ (∀ x ∈ o, x = 97 ∨ x = 98) ∧ Hid (Below w.heap.size w wr)) (fun _ s6 _ => m - (intOf s6).toNat)
  case atStart => exact ⟨0, none, 0, [], Nat.zero_le _, Nat.zero_le _, rfl, rfl, Own.nil _ _, (fun x hx => by cases hx), Below.refl _ _⟩
  case round =>
    obtain ⟨i, O, co, o, hi, hi4, rfl, rfl, HO, ho, HB⟩ := hrel
    by_cases hlt : i < m ∧ i < 4
    · obtain ⟨hlt, hl4⟩ := hlt
      obtain ⟨b, oo, hAA, h1⟩ := (HA.out.below HB.out).at_ i hlt
      subst hAA
      have i0 : (0 : Int) ≤ (i : Int) := by omega
      have i1 : (i : Int) < (m : Int) := by omega
      have i4 : (i : Int) < 4 := by omega
      have hz := and_ffff (nth a i)
      generalize hzz : bits .and .i32 (nth a i) 65535 = z at hz
      go_wp2_with (at_builtin; refine wpList_app1 rfl (.tmp 22) (.tmp 30) rfl w.heap.size rfl (HO.out.alloc _) rfl (Runes.news wr #[.int .i32 (97 + z % 2)] 21 [97 + z % 2] rfl (W32.one (by omega))) (by omega) (by have := HB.out.size; simp; omega) ?_; intro A2 c2 w2 hown2 _ hor)
      have HO2 := hide hown2
      have HB2 := hide (show Below w.heap.size w w2 from by
        have h1 := HB.out.alloc HB.out.size (.cells #[.int .i32 (97 + z % 2)] 21)
        rcases hor with ⟨_, _, hg⟩ | ⟨_, hb⟩
        · exact h1.grown hg (by have := HB.out.size; simp; omega) fun g e => (HO.out.blk_ge g e).1
        · exact h1.trans (hb.mono (by have := HB.out.size; simp; omega)))
      clear hown2 hor
      go_roundw
      case rel => exact ⟨i + 1, A2, c2, _, by omega, by omega, by go_num, rfl, HO2.out, (fun x hx => by
        rcases List.mem_append.1 hx with hx | hx
        · exact ho x hx
        · rw [List.mem_singleton.1 hx]; omega), HB2.out⟩
      case measure => simp [intOf]; omega
    · have hd : (¬ i < m) ∨ ((i : Int) < (m : Int) ∧ decide ((i : Int) < 4) = false) := by
        by_cases h : i < m
        · exact .inr ⟨by omega, by simp; omega⟩
        · exact .inl h
      have HR := hide (show SomeO w (.returned (.slice O i co)) wr from ⟨O, i, co, o, rfl, HO.out, by omega, HB.out, ho⟩)
      clear hlt
      rcases hd with d1 | ⟨d1, d2⟩
      all_goals
        go_wp2_with fail
        go_ret
        exact HR.out

theorem txtT : RowT 42 29 1 24 := ⟨Try.underlying42, ⟨.slice none 0 0, by kernel_rfl, by kernel_rfl⟩, by omega⟩
def TV.cell (u : TV) : List Value := [.slice u.T u.n u.c]
/-- A row of texts of the call's own. -/
structure TxtO (w : World) (B : Nat) (A : Option Addr) (n c : Nat) (us : List TV) : Prop where
  row : RowG w 29 1 B A n c (us.map TV.cell)
  own : ∀ u ∈ us, Own w B u.T u.n u.c u.t
section
variable {w w' : World} {B B2 n c : Nat} {A : Option Addr} {us : List TV}
theorem TxtO.nil (w : World) (B : Nat) : TxtO w B none 0 0 [] := ⟨RowG.nil _ _ _ _, fun u hu => by cases hu⟩
theorem TxtO.below (h : TxtO w B A n c us) (hb : Below w.heap.size w w') : TxtO w' B A n c us := ⟨h.row.below hb, fun u hu => (h.own u hu).below hb⟩
theorem TxtO.calm (h : TxtO w B A n c us) (k : Calm B2 w w') : TxtO w' B A n c us := ⟨k.rowG h.row (by decide) (by decide), fun u hu => k.own (h.own u hu)⟩
theorem TxtO.len (h : TxtO w B A n c us) : us.length = n := by have := h.row.cnt; simpa using this
theorem TxtO.at_ (h : TxtO w B A n c us) {j : Nat} {u : TV} (hu : us[j]? = some u) : ∃ g, A = some ⟨g, 0, none⟩ ∧ w.cell? ⟨g, j, none⟩ = some (.slice u.T u.n u.c) := by
  have hv : (us.map TV.cell)[j]? = some u.cell := by rw [List.getElem?_map, hu]; rfl
  obtain ⟨g, e, h1, _⟩ := h.row.cell (i := 0) hv (by omega) rfl
  rw [Nat.mul_one, Nat.add_zero] at h1
  exact ⟨g, e, h1⟩
theorem ItemsO.calm {vs : List IV} (h : ItemsO w B A n c vs) (k : Calm B2 w w') : ItemsO w' B A n c vs := ⟨k.rowG h.row (by decide) (by decide), fun u hu => k.own (h.own u hu), h.ap⟩
/-- A row of texts has grown: what else there is stays. -/
theorem own_grown {vs : List (List Value)} (hr : RowG w 29 1 B A n c vs) (hg : w.grownBy w' (blk A)) {T : Option Addr} {m d : Nat} {l : List Int} (ho : Own w B2 T m d l) : Own w' B2 T m d l := by
  refine ho.kept hg ?_
  cases hT : blk T with
  | none => exact .inl rfl
  | some g =>
    refine .inr fun e => ?_
    obtain ⟨x, hx⟩ := ho.obj hT
    obtain ⟨y, hy⟩ := hr.obj e.symm
    rw [hx] at hy
    injection hy with hy
    injection hy with _ hy
    exact absurd hy (by decide)
theorem items_grown {vs : List (List Value)} (hr : RowG w 29 1 B A n c vs) (hg : w.grownBy w' (blk A)) {T : Option Addr} {m d : Nat} {ks : List IV} (ho : ItemsO w B2 T m d ks) : ItemsO w' B2 T m d ks := by
  refine ⟨ho.row.kept hg ?_, fun u hu => own_grown hr hg (ho.own u hu), ho.ap⟩
  cases hT : blk T with
  | none => exact .inl rfl
  | some g =>
    refine .inr fun e => ?_
    obtain ⟨x, hx⟩ := ho.row.obj hT
    obtain ⟨y, hy⟩ := hr.obj e.symm
    rw [hx] at hy
    injection hy with hy
    injection hy with _ hy
    exact absurd hy (by decide)
theorem trie_grown {vs : List (List Value)} (hr : RowG w 29 1 B A n c vs) (hg : w.grownBy w' (blk A)) {t K : Nat} {L : List Itm} (ht : TrieB w B2 t K L) : TrieB w' B2 t K L := by
  cases hA : blk A with
  | none =>
    rw [hA] at hg
    exact ht.below ((Below.refl _ _).grown hg (Nat.le_refl _) fun k e => by cases e)
  | some g =>
    rw [hA] at hg
    obtain ⟨y, hy⟩ := hr.obj hA
    exact ht.other hy (by decide) (by decide) hg
theorem TxtO.snoc {g' c' : Nat} (h : TxtO w B A n c us) {u : TV} (hu : Own w B u.T u.n u.c u.t) (hr : RowG w' 29 1 B (some ⟨g', 0, none⟩) (n + 1) c' (us.map TV.cell ++ [u.cell])) (hg : w.grownBy w' (blk A)) : TxtO w' B (some ⟨g', 0, none⟩) (n + 1) c' (us ++ [u]) :=
  ⟨by rw [List.map_append]; exact hr, fun v hv => by
    rcases List.mem_append.1 hv with hv | hv
    · exact own_grown h.row hg (h.own v hv)
    · rw [List.mem_singleton.1 hv]; exact own_grown h.row hg hu⟩
end
/-- The words. -/
def tsOf (us : List TV) : List (List Int) := us.map TV.t
theorem idxK_any (k : Int) (K : Nat) (hK : 0 < K) (h2 : K ≤ 1000) : ∃ r, r < K ∧ ∀ w, Calls Try.prog 27 #[.int .i64 k, .int .i64 (K : Nat)] w fun e w' => e = .returned (.int .i64 (r : Nat)) ∧ w = w' :=
  ⟨idxN k K, idxN_lt hK, fun w => index_any k K w (by omega) (by omega)⟩

set_option maxRecDepth 100000 in
set_option maxHeartbeats 1000000 in
theorem back21_any (A : Option Addr) (n c : Nat) (us : Nat → TV) (S : Option Addr) (ns cs : Nat) (vs : Nat → TV) (k : Int) (w : World) (hD : Txts w A n us) (hn : n ≤ c) (hc : c ≤ 9223372036854775807) (hS : Txts w S ns vs) (hns : ns ≤ cs) (hcs : cs ≤ 9223372036854775807) :
    Calls Try.prog 4 #[.slice A n c, .slice S ns cs, .int .i64 k] w fun e w' => e = .returned (.bool true) ∧ Below w.heap.size w w' := by
  have HD := hide hD
  have HS := hide hS
  clear hD hS
  go_enter Try.func4, Try.ntmps4
  go_wp2_with fail
  refine (tnew_all _).mono ?_
  rintro e w1 ⟨t, rfl, h1, hb1⟩
  have HT := hide h1
  have HB := hide hb1
  clear h1 hb1
  go_wp2_with fail
  go_loopw [9] (fun s9 wx => ∃ (i : Nat) (L : List Itm), i ≤ ns ∧ i ≤ 10 ∧ s9 = .int .i64 i ∧ Hid (TrieB wx w.heap.size t (1000 * i) L) ∧ Hid (allB L ≤ i) ∧ Hid (Below w.heap.size w wx)) (fun s9 _ => ns - (intOf s9).toNat)
  case atStart => exact ⟨0, [], Nat.zero_le _, Nat.zero_le _, rfl, HT.out, Nat.le_refl _, HB.out⟩
  case round =>
    obtain ⟨i, L, hi, hi6, rfl, HT, HL, HB⟩ := hrel
    by_cases hlt : i < ns ∧ i < 10
    · obtain ⟨hlt, hlt6⟩ := hlt
      obtain ⟨bb, o, hA, h1⟩ := (HS.out.below HB.out).at_ i hlt
      have HOK := hide ((HS.out.below HB.out).ok i hlt)
      generalize vs i = u at h1 HOK
      have i0 : (0 : Int) ≤ (i : Int) := by omega
      have i1 : (i : Int) < (ns : Int) := by omega
      have i6 : (i : Int) < 10 := by omega
      have HSO := hide (some_own u.T u.n u.c u.t wr HOK.out.rd HOK.out.le HOK.out.cap)
      subst hA
      go_upto_region 9 with (go_at_call 12; refine HSO.out.mono ?_; rintro e w1 ⟨T, m, d, q, rfl, hR1, hm12, hb1, hfew⟩)
      have HT1 := hide (HT.out.below hb1)
      have HB1 := hide (HB.out.trans (hb1.mono HB.out.size))
      have HR1 := hide hR1.runes
      have HF := hide hfew
      clear hfew hR1 hb1 h1 HSO HOK HT HB
      by_cases hm0 : 0 < m
      · go_wp2_with (go_at_call 18; refine (tadd_yes HT1.out HR1.out HB1.out.size (by omega) (by omega) (few_taken HF.out HR1.out.len hm0 hm12 HL.out (by omega)) rfl).mono ?_; rintro e w3 ⟨rfl, hc3, h3⟩)
        have HT3 := hide h3
        have HB3 := hide (HB1.out.trans hc3.low)
        have HL3 := hide (show allB (addB L q) ≤ i + 1 from by rw [all_addB]; have := HL.out; omega)
        clear hc3 h3 HT1 HB1 HR1 HF HL
        go_roundw
        case rel => exact ⟨i + 1, addB L q, by omega, by omega, by go_num, by rw [Nat.mul_add]; exact HT3.out, HL3.out, HB3.out⟩
        case measure => simp [intOf]; omega
      · have HT3 := hide (TrieB.upK HT1.out (K' := 1000 * (i + 1)) (by omega))
        have HL3 := hide (show allB L ≤ i + 1 from Nat.le_succ_of_le HL.out)
        clear HT1 HR1 HF HL
        go_wp2_with fail
        go_roundw
        case rel => exact ⟨i + 1, L, by omega, by omega, by go_num, HT3.out, HL3.out, HB1.out⟩
        case measure => simp [intOf]; omega
    · have hd : (¬ i < ns) ∨ ((i : Int) < (ns : Int) ∧ decide ((i : Int) < 10) = false) := by
        by_cases h : i < ns
        · exact .inr ⟨by omega, by simp; omega⟩
        · exact .inl h
      clear hlt
      obtain ⟨mb, hmb⟩ : ∃ mb, nodesB L = mb := ⟨_, rfl⟩
      obtain ⟨lb, hlb⟩ : ∃ lb, L.length = lb := ⟨_, rfl⟩
      have HMB := hide hmb
      have HLB := hide hlb
      clear hmb hlb
      rcases hd with d1 | ⟨d1, d2⟩
      all_goals
        go_upto_region 13 with (first
          | (go_at_call 24; (with_reducible refine (twith_any (c := 0) HT.out (Runes.nil _ none) (by omega) (by omega)).mono ?_); rintro e w2 ⟨A2, n2, c2, us2, rfl, hO2, hu2, hb2⟩
             have HT2 := hide (HT.out.below hb2)
             have HB2 := hide (HB.out.trans (hb2.mono HB.out.size))
             have HO2 := hide (hO2.mono HB.out.size)
             have HU2 := hide hu2
             clear hO2 hu2 hb2)
          | (go_at_call 25; (with_reducible refine (tlen_n HT2.out HLB.out).mono ?_); rintro e w5 ⟨rfl, rfl⟩)
          | (go_at_call 26; (with_reducible refine (tnodes_any HT2.out).mono ?_); rintro e w5 ⟨rfl, rfl⟩))
        have HI2 := hide (show ∀ u ∈ us2, u.n ≤ 1000000 from fun u hu => by
          have h1 := List.mem_map_of_mem (f := IV.itm) hu
          rw [HU2.out, withB_nil] at h1
          have h2 := HT2.out.1.len _ h1
          have h3 := (HO2.out.own u hu).len
          dsimp only [IV.itm] at h2
          omega)
        have hn2 : n2 ≤ 1000 := by
          have h1 := congrArg List.length HU2.out
          rw [withB_nil, List.length_map, HO2.out.len] at h1
          have h2 := len_le_all HT2.out.1.bag
          have h3 := HT2.out.1.all
          omega
        have HS0 := hide HT2.out.1.bag
        have HTT := hide (TrieB.upK HT2.out (K' := 10000) (by omega))
        have HL10 := hide (show allB L ≤ 10 from Nat.le_trans HL.out hi6)
        clear HT HB HT2 HL
        go_wp2_with fail
        go_loopw [8, 14] (fun s8 s14 wx => ∃ (i K : Nat) (L1 : List Itm) (W : Option Addr) (cw : Nat) (ts : List TV), i ≤ n ∧ i ≤ 20 ∧ K ≤ i ∧ s14 = .int .i64 i ∧ s8 = .slice W K cw ∧ Hid (TxtO wx w.heap.size W K cw ts) ∧ Hid (TrieB wx w.heap.size t (10000 + 1000 * i) L1) ∧ Hid (ItemsO wx w.heap.size A2 n2 c2 us2) ∧ Hid (allB L1 ≤ 10 + i) ∧ Hid (∀ v, cntB L1 v = cntB L v + (tsOf ts).count v) ∧ Hid (∀ u ∈ ts, u.n ≤ 12) ∧ Hid (Below w.heap.size w wx)) (fun _ s14 _ => n - (intOf s14).toNat)
        case atStart => exact ⟨0, 0, L, none, 0, [], Nat.zero_le _, Nat.zero_le _, Nat.le_refl _, rfl, rfl, TxtO.nil _ _, HTT.out, HO2.out, HL10.out, (fun v => by simp [tsOf]), (fun u hu => by cases hu), HB2.out⟩
        case round =>
          obtain ⟨i, K, L1, W, cw, ts, hi, hi20, hKi, rfl, rfl, HTS, HT, HIT, HL, HCN, HSZ, HB⟩ := hrel
          by_cases hlt : i < n ∧ i < 20
          · obtain ⟨hlt, hlt6⟩ := hlt
            obtain ⟨bb, o, hA, h1⟩ := (HD.out.below HB.out).at_ i hlt
            have HOK := hide ((HD.out.below HB.out).ok i hlt)
            generalize us i = u at h1 HOK
            have i0 : (0 : Int) ≤ (i : Int) := by omega
            have i1 : (i : Int) < (n : Int) := by omega
            have i6 : (i : Int) < 20 := by omega
            have HSO := hide (some_own u.T u.n u.c u.t wr HOK.out.rd HOK.out.le HOK.out.cap)
            subst hA
            go_upto_region 17 with (go_at_call 12; refine HSO.out.mono ?_; rintro e w1 ⟨T, m, d, q, rfl, hR1, hm12, hb1, hfew⟩)
            have HT1 := hide (HT.out.below hb1)
            have HB1 := hide (HB.out.trans (hb1.mono HB.out.size))
            have HR1 := hide (hR1.mono HB.out.size)
            have HF := hide hfew
            have HTS1 := hide (HTS.out.below hb1)
            have HIT1 := hide (HIT.out.below hb1)
            clear hfew hR1 hb1 h1 HSO HOK HT HB HTS HIT
            by_cases hm0 : 0 < m
            · obtain ⟨xb, hxb⟩ : ∃ xb, w1.heap.size = xb := ⟨_, rfl⟩
              have HXB := hide (Box.newAt hxb 29 #[.slice T m d])
              have hbx := (Below.refl w1.heap.size w1).alloc (Nat.le_refl _) (.cells #[.slice T m d] 29)
              have HBX := hide hbx
              clear hbx
              go_upto_region 18 with fail
              go_wp2_with (at_builtin; refine wpList_appG txtT rfl (.tmp 66) (.tmp 68) rfl w.heap.size rfl (HTS1.out.below HBX.out).row (m := 1) (d := 1) rfl (us := [[.slice T m d]]) (news_box (cs := #[.slice T m d]) HXB.out) (Each.one rfl (fun u hu => by rw [List.mem_singleton.1 hu]; rfl)) rfl (by omega) (by omega) (by omega) (HB1.out.trans (HBX.out.mono HB1.out.size)).size ?_; intro g' c' w2 hr2 hg2 hb2 hor2)
              have hrow := (HTS1.out.below HBX.out).row
              have HT2 := hide (trie_grown hrow hg2 (HT1.out.below HBX.out))
              have HIT2 := hide (items_grown hrow hg2 (HIT1.out.below HBX.out))
              have HTS2 := hide (TxtO.snoc (HTS1.out.below HBX.out) (u := ⟨T, m, d, q⟩) (HR1.out.below HBX.out) hr2 hg2)
              have HR2 := hide (own_grown hrow hg2 (HR1.out.below HBX.out)).runes
              have HB2 := hide ((HB1.out.trans (HBX.out.mono HB1.out.size)).trans hb2)
              clear hrow hr2 hg2 hb2 hor2 HBX HXB hxb HT1 HIT1 HTS1 HR1 HB1
              have hq : q.length = m := HR2.out.len
              go_wp2_with (go_at_call 18; refine (tadd_yes HT2.out HR2.out HB2.out.size (by omega) (by omega) (few_taken HF.out hq hm0 hm12 (Nat.le_trans HL.out (by omega : 10 + i ≤ 30)) (by omega)) rfl).mono ?_; rintro e w3 ⟨rfl, hc3, h3⟩)
              have HT3 := hide (show TrieB w3 w.heap.size t (10000 + 1000 * (i + 1)) (addB L1 q) from by rw [Nat.mul_add]; exact h3)
              have HB3 := hide (HB2.out.trans hc3.low)
              have HL3 := hide (show allB (addB L1 q) ≤ 10 + (i + 1) from by rw [all_addB]; have := HL.out; omega)
              have HTS3 := hide (HTS2.out.calm hc3)
              have HIT3 := hide (HIT2.out.calm hc3)
              have HCN3 := hide (show ∀ v, cntB (addB L1 q) v = cntB L v + (tsOf (ts ++ [⟨T, m, d, q⟩])).count v from by
                have h := adds_next HCN.out HT2.out.1.bag q
                rw [show tsOf (ts ++ [⟨T, m, d, q⟩]) = tsOf ts ++ [q] from by simp [tsOf]]
                exact h)
              have HSZ3 := hide (show ∀ u ∈ ts ++ [(⟨T, m, d, q⟩ : TV)], u.n ≤ 12 from fun u hu => by
                rcases List.mem_append.1 hu with hu | hu
                · exact HSZ.out u hu
                · rw [List.mem_singleton.1 hu]; exact hm12)
              clear hc3 h3 hq HT2 HB2 HTS2 HIT2 HCN HSZ HL HR2 HF
              go_roundw
              case rel => exact ⟨i + 1, K + 1, addB L1 q, some ⟨g', 0, none⟩, c', ts ++ [(⟨T, m, d, q⟩ : TV)], by omega, by omega, by omega, by go_num, rfl, HTS3.out, HT3.out, HIT3.out, HL3.out, HCN3.out, HSZ3.out, HB3.out⟩
              case measure => simp [intOf]; omega
            · have HT3 := hide (TrieB.upK HT1.out (K' := 10000 + 1000 * (i + 1)) (by omega))
              have HL3 := hide (show allB L1 ≤ 10 + (i + 1) from by have := HL.out; omega)
              clear HT1 HR1 HF HL
              go_wp2_with fail
              go_roundw
              case rel => exact ⟨i + 1, K, L1, W, cw, ts, by omega, by omega, by omega, by go_num, rfl, HTS1.out, HT3.out, HIT1.out, HL3.out, HCN.out, HSZ.out, HB1.out⟩
              case measure => simp [intOf]; omega
          · have hd2 : (¬ i < n) ∨ ((i : Int) < (n : Int) ∧ decide ((i : Int) < 20) = false) := by
              by_cases h : i < n
              · exact .inr ⟨by omega, by simp; omega⟩
              · exact .inl h
            clear hlt
            have hK20 : K ≤ 20 := by omega
            have HKL := hide (show (tsOf ts).length = K from by rw [tsOf, List.length_map, HTS.out.len])
            have HTK := hide (TrieB.upK HT.out (K' := 40000) (by omega))
            obtain ⟨r, hrK, hidx⟩ : ∃ r, (0 < K → r < K) ∧ (0 < K → ∀ w, Calls Try.prog 27 #[.int .i64 k, .int .i64 (K : Nat)] w fun e w' => e = .returned (.int .i64 (r : Nat)) ∧ w = w') := by
              by_cases h0 : 0 < K
              · obtain ⟨r, h1, h2⟩ := idxK_any k K h0 (by omega)
                exact ⟨r, fun _ => h1, fun _ => h2⟩
              · exact ⟨0, fun h => absurd h h0, fun h => absurd h h0⟩
            have HIX := hide hidx
            have HRK := hide hrK
            have HLW := hide (LeftW.start HCN.out r)
            clear hidx hrK HT HL HCN
            rcases hd2 with d3 | ⟨d3, d4⟩
            all_goals
              go_wp2_with fail
              go_loopw [16, 76] (fun s16 s76 wx => ∃ (j : Nat) (L2 : List Itm), j ≤ K ∧ s76 = .int .i64 j ∧ Hid (TxtO wx w.heap.size W K cw ts) ∧ Hid (TrieB wx w.heap.size t 40000 L2) ∧ Hid (ItemsO wx w.heap.size A2 n2 c2 us2) ∧ Hid (LeftW L L2 (tsOf ts) r j) ∧ Hid (Below w.heap.size w wx)) (fun _ s76 _ => K - (intOf s76).toNat)
              case atStart => exact ⟨0, L1, Nat.zero_le _, rfl, HTS.out, HTK.out, HIT.out, HLW.out, HB.out⟩
              case round =>
                obtain ⟨j, L2, hj, rfl, HTS, HT, HIT, HLW, HB⟩ := hrel
                by_cases hlt : j < K
                · have hrK := HRK.out (by omega)
                  obtain ⟨x, hx⟩ : ∃ x, (j + r) % K = x := ⟨_, rfl⟩
                  have hxK : x < K := by rw [← hx]; exact Nat.mod_lt _ (by omega)
                  obtain ⟨u, hu⟩ : ∃ u, ts[x]? = some u := ⟨_, List.getElem?_eq_getElem (by rw [HTS.out.len]; exact hxK)⟩
                  obtain ⟨g, rfl, hc0⟩ := HTS.out.at_ hu
                  have huo := HTS.out.own u (List.mem_of_getElem? hu)
                  have hxt : (tsOf ts)[(j + r) % K]? = some u.t := by rw [hx, tsOf, List.getElem?_map, hu]; rfl
                  have HTH := hide (HLW.out.there HKL.out hrK hlt hxt)
                  have HNX := hide (HLW.out.next HT.out.1.bag HKL.out hrK hlt hxt)
                  have HUR := hide huo.runes
                  have hun : u.n ≤ 12 := HSZ.out u (List.mem_of_getElem? hu)
                  have HI := hide (HIX.out (by omega))
                  have j0 : (0 : Int) ≤ (j : Int) := by omega
                  have x0 : (0 : Int) ≤ (x : Int) := by omega
                  have x1 : (x : Int) < (K : Int) := by omega
                  have x2 : ((j : Int) + (r : Int)) % (K : Int) = (x : Int) := by rw [← hx]; norm_cast
                  have kne : ¬ (K : Int) = 0 := by omega
                  clear hx hu huo hxt HLW
                  go_wp2_with (first
                    | (go_at_call 27; refine (HI.out _).mono ?_; rintro e w5 ⟨rfl, rfl⟩)
                    | (go_at_call 14; refine (tdrop_any HT.out HUR.out (by omega) HB.out.size (by omega)).mono ?_; rintro e w6 ⟨he, hc6, h6⟩; rw [dropE, if_neg (by have := HTH.out; omega)] at he; subst he))
                  have HTS6 := hide (HTS.out.calm hc6)
                  have HT6 := hide h6
                  have HIT6 := hide (HIT.out.calm hc6)
                  have HB6 := hide (HB.out.trans hc6.low)
                  clear hc6 h6 HT HTS HIT HB
                  go_roundw
                  case rel => exact ⟨j + 1, _, by omega, by go_num, HTS6.out, HT6.out, HIT6.out, HNX.out, HB6.out⟩
                  case measure => simp [intOf]; omega
                · obtain rfl : j = K := by omega
                  have hLL : L2 = L := by
                    by_cases h0 : 0 < j
                    · exact HLW.out.all HT.out.1.bag HS0.out (by rw [HKL.out]; exact Nat.le_of_lt (HRK.out h0)) (by rw [HKL.out]; exact Nat.le_refl _)
                    · have h1 : tsOf ts = [] := List.eq_nil_of_length_eq_zero (by rw [HKL.out]; omega)
                      refine bag_ext HT.out.1.bag HS0.out fun v => ?_
                      have h2 := HLW.out.cnt v
                      rw [h1] at h2
                      simpa [rotW] using h2
                  subst hLL
                  clear HLW
                  go_wp2_with (first
                    | (go_at_call 24; (with_reducible refine (twith_any (c := 0) HT.out (Runes.nil _ none) (by omega) (by omega)).mono ?_); rintro e w7 ⟨A7, n7, c7, us7, rfl, hO7, hu7, hb7⟩
                       have HT7 := hide (HT.out.below hb7)
                       have HB7 := hide (HB.out.trans (hb7.mono HB.out.size))
                       have HIT7 := hide (HIT.out.below hb7)
                       have HO7 := hide hO7
                       have HU7 := hide hu7
                       have HI7 := hide (show ∀ u ∈ us7, u.n ≤ 1000000 from fun u hu => by
                         have h1 := List.mem_map_of_mem (f := IV.itm) hu
                         rw [hu7, withB_nil] at h1
                         have h2 := HT7.out.1.len _ h1
                         have h3 := (hO7.own u hu).len
                         dsimp only [IV.itm] at h2
                         omega)
                       have hn7 : n7 ≤ 1000000 := by
                         have h1 := congrArg List.length hu7
                         rw [withB_nil, List.length_map, hO7.len] at h1
                         have h2 := len_le_all HT7.out.1.bag
                         have h3 := HT7.out.1.all
                         omega
                       have HSI := hide (sameItems_yes A7 A2 n7 c7 n2 c2 us7 us2 w7 (RowG.items hO7.row) (RowG.items HIT7.out.row) (fun u hu => (hO7.own u hu).runes) (fun u hu => (HIT7.out.own u hu).runes) (by rw [hu7, HU2.out]) hn7 HI7.out HI2.out)
                       clear hO7 hu7 hb7)
                    | (go_at_call 28; (with_reducible refine HSI.out.mono ?_); rintro e w8 ⟨rfl, q8, rfl⟩)
                    | (go_at_call 25; (with_reducible refine (tlen_n (HT7.out.below (lt_drewN _ _)) HLB.out).mono ?_); rintro e w5 ⟨rfl, rfl⟩)
                    | (go_at_call 26; (with_reducible refine (tnodes_any (HT7.out.below (lt_drewN _ _))).mono ?_); rintro e w5 ⟨rfl, rfl⟩)
                    | (go_at_call 23; (with_reducible refine (known21_any _).mono ?_); rintro e w9 ⟨rfl, hb9⟩))
                  have HB9 := hide (HB7.out.trans (((lt_drewN w7 q8).trans (hb9.mono (Nat.le_refl _))).mono HB7.out.size))
                  clear hb9
                  go_ret
                  exact ⟨rfl, HB9.out⟩
end Go.Proofs.Ytchcpeenpijekaa
