/- Pieces, joined: Known21, Some21, Same21, OpenA, OpenE21. -/
import Derived.Test.YtchcpeenpijekaaQ29
import Derived.Test.YtchcpeenpijekaaRows
import Derived.Test.YtchcpeenpijekaaQ01
import Derived.WalkKit
import Derived.ProofKit
import Derived.OpenShut
import Derived.ShutString
import Derived.ChangeOld
import Derived.Below
import Derived.Carry
import Derived.SizedLaws
import Derived.Deep.Slices
import Derived.Deep.Fields
import Derived.ChangeSame

/- The contract of standishlaw21.known: it answers true. -/
namespace Go.Proofs.Ytchcpeenpijekaa
open Go.RowKit
set_option linter.unusedVariables false

theorem w32_lit {l : List Int} (h : l.all (fun x => decide (0 ≤ x) && decide (x ≤ 1114111)) = true) : W32 l := fun x hx => by
  have := List.all_eq_true.1 h x hx
  simp at this
  omega
/-- A word of letters, new. -/
theorem news_word (w : World) (cs : Array Value) (l : List Int) (h : cs = (cells32 l).toArray) (hw : l.all (fun x => decide (0 ≤ x) && decide (x ≤ 1114111)) = true) {n : Nat} (hn : l.length = n) : Runes (w.alloc (.cells cs 21)) (some ⟨w.heap.size, 0, none⟩) n l := by
  subst hn
  exact Runes.news w cs 21 l h (w32_lit hw)
theorem TrieB.alloc {w : World} {B t K : Nat} {L : List Itm} (h : TrieB w B t K L) (o : Obj) : TrieB (w.alloc o) B t K L := h.below ((Below.refl _ _).alloc (Nat.le_refl _) o)
/-- One more word, that is taken. -/
theorem tadd_yes {w : World} {B t K n c : Nat} {A : Option Addr} {L L2 : List Itm} {l : List Int} (h : TrieB w B t K L) (hA : Runes w A n l) (hB : B ≤ w.heap.size) (hn : n ≤ 1000) (hK : K ≤ 1000000000) (he : addE L l = 0) (hL : addB L l = L2) :
    Calls Try.prog 18 #[.pointer (some ⟨t, 0, none⟩), .slice A n c] w fun e w' => e = .returned (.int .i64 0) ∧ Calm B w w' ∧ TrieB w' B t (K + 1000) L2 := by
  refine (tadd_any h hA (by omega) hB hK).mono ?_
  rintro e w' ⟨h1, h2, h3⟩
  rw [he] at h1
  rw [addL_eq he, hL] at h3
  exact ⟨h1, h2, h3⟩
theorem two_of : ∀ {us : List IV}, us.length = 2 → ∃ u v, us = [u, v]
  | [u, v], _ => ⟨u, v, rfl⟩

set_option maxRecDepth 100000 in
set_option maxHeartbeats 4000000 in
theorem known21_any (w : World) : Calls Try.prog 23 #[] w fun e w' => e = .returned (.bool true) ∧ Below w.heap.size w w' := by
  go_enter Try.func23, Try.ntmps23
  go_wp2_with fail
  refine (tnew_all _).mono ?_
  rintro e w1 ⟨t, rfl, h1, hb1⟩
  have HT1 := hide (h1.alloc (.cells #[.int .i32 97, .int .i32 98] 21))
  have HB1 := hide (hb1.alloc hb1.size (.cells #[.int .i32 97, .int .i32 98] 21))
  have HR1 := hide (news_word w1 #[.int .i32 97, .int .i32 98] [97, 98] rfl rfl (n := 2) rfl)
  clear h1 hb1
  go_wp2_with fail
  generalize w1.alloc (.cells #[.int .i32 97, .int .i32 98] 21) = W1 at HT1 HB1 HR1 ⊢
  refine (tadd_yes HT1.out HR1.out HB1.out.size (by omega) (by omega) (by decide) (L2 := [([97, 98], 1)]) (by decide)).mono ?_
  rintro e w2 ⟨rfl, hc2, h2⟩
  have hb2 := HB1.out.trans hc2.low
  have HT2 := hide (h2.alloc (.cells #[.int .i32 97] 21))
  have HB2 := hide (hb2.alloc hb2.size (.cells #[.int .i32 97] 21))
  have HR2 := hide (news_word w2 #[.int .i32 97] [97] rfl rfl (n := 1) rfl)
  clear h2 hb2 hc2 HT1 HB1 HR1
  go_wp2_with fail
  generalize w2.alloc (.cells #[.int .i32 97] 21) = W2 at HT2 HB2 HR2 ⊢
  refine (tadd_yes HT2.out HR2.out HB2.out.size (by omega) (by omega) (by decide) (L2 := [([97], 1), ([97, 98], 1)]) (by decide)).mono ?_
  rintro e w3 ⟨rfl, hc3, h3⟩
  have hb3 := HB2.out.trans hc3.low
  have HT3 := hide (h3.alloc (.cells #[.int .i32 97] 21))
  have HB3 := hide (hb3.alloc hb3.size (.cells #[.int .i32 97] 21))
  have HR3 := hide (news_word w3 #[.int .i32 97] [97] rfl rfl (n := 1) rfl)
  clear h3 hb3 hc3 HT2 HB2 HR2
  go_wp2_with fail
  generalize w3.alloc (.cells #[.int .i32 97] 21) = W3 at HT3 HB3 HR3 ⊢
  refine (tadd_yes HT3.out HR3.out HB3.out.size (by omega) (by omega) (by decide) (L2 := [([97], 2), ([97, 98], 1)]) (by decide)).mono ?_
  rintro e w4 ⟨rfl, hc4, h4⟩
  have hb4 := HB3.out.trans hc4.low
  have HT4 := hide (h4.alloc (.cells #[.int .i32 97] 21))
  have HB4 := hide (hb4.alloc hb4.size (.cells #[.int .i32 97] 21))
  have HR4 := hide (news_word w4 #[.int .i32 97] [97] rfl rfl (n := 1) rfl)
  clear h4 hb4 hc4 HT3 HB3 HR3
  go_wp2_with fail
  generalize w4.alloc (.cells #[.int .i32 97] 21) = W4 at HT4 HB4 HR4 ⊢
  refine (twith_any HT4.out HR4.out (by omega) (by omega)).mono ?_
  rintro e w5 ⟨Ao, no, co, us, rfl, hO, hus, hb5⟩
  have hw : withB [([97], 2), ([97, 98], 1)] [97] = [([97], 2), ([97, 98], 1)] := by decide
  rw [hw] at hus
  have hlen := hO.len
  obtain ⟨u, v, rfl⟩ : ∃ u v, us = [u, v] := two_of (by have := congrArg List.length hus; simpa using this)
  have hno : no = 2 := hlen.symm
  subst hno
  have hu : u.t = [97] ∧ u.k = 2 := by
    injection hus with h1 _
    injection h1 with h1 h2
    exact ⟨h1, h2⟩
  have hun : u.n = 1 := by
    have := (hO.own u (by simp)).len
    rw [hu.1] at this
    exact this.symm
  obtain ⟨b, rfl, c0, _⟩ := hO.row.cell (j := 0) (i := 0) (v := u.cells) (u := .slice u.A u.n u.c) rfl (by omega) rfl
  obtain ⟨b', e', c1, _⟩ := hO.row.cell (j := 0) (i := 1) (v := u.cells) (u := .int .i64 (u.k : Nat)) rfl (by omega) rfl
  injection e' with e'
  injection e' with e'
  subst e'
  rw [hun] at c0
  rw [hu.2] at c1
  have hcap := hO.row.cap
  have HT5 := hide (HT4.out.below hb5)
  have HB5 := hide (HB4.out.trans (hb5.mono HB4.out.size))
  clear HT4 HB4 HR4 hO hus hb5 hlen hw hu hun
  go_wp2_with fail
  refine (tlen_any HT5.out).mono ?_
  rintro e w6 ⟨rfl, rfl⟩
  go_wp2_with fail
  refine (tnodes_any HT5.out).mono ?_
  rintro e w6 ⟨rfl, rfl⟩
  have hnb : nodesB [([97], 2), ([97, 98], 1)] = 3 := by decide
  rw [hnb]
  have HT6 := hide (HT5.out.alloc (.cells #[.int .i32 98] 21))
  have HB6 := hide (HB5.out.alloc HB5.out.size (.cells #[.int .i32 98] 21))
  have HR6 := hide (news_word w5 #[.int .i32 98] [98] rfl rfl (n := 1) rfl)
  clear HT5 HB5 c0 c1 hcap hnb
  go_wp2_with fail
  generalize w5.alloc (.cells #[.int .i32 98] 21) = W6 at HT6 HB6 HR6 ⊢
  refine (tcount_all HT6.out HR6.out (by omega)).mono ?_
  rintro e w7 ⟨rfl, rfl⟩
  have hcb : cntB [([97], 2), ([97, 98], 1)] [98] = 0 := by decide
  rw [hcb]
  have HT7 := hide (HT6.out.alloc (.cells #[.int .i32 98] 21))
  have HB7 := hide (HB6.out.alloc HB6.out.size (.cells #[.int .i32 98] 21))
  have HR7 := hide (news_word W6 #[.int .i32 98] [98] rfl rfl (n := 1) rfl)
  clear HT6 HB6 HR6 hcb
  go_wp2_with fail
  generalize W6.alloc (.cells #[.int .i32 98] 21) = W7 at HT7 HB7 HR7 ⊢
  refine (tdrop_any HT7.out HR7.out (by omega) HB7.out.size (by omega)).mono ?_
  rintro e w8 ⟨he, hc8, h8⟩
  have hd : dropE [([97], 2), ([97, 98], 1)] [98] = 4 := by decide
  rw [hd] at he
  subst he
  have HT8 := hide h8
  have HB8 := hide (HB7.out.trans hc8.low)
  clear HT7 HB7 HR7 hc8 h8 hd
  go_wp2_with fail
  refine (tadd_any HT8.out (Runes.nil w8 none) (by omega) HB8.out.size (by omega)).mono ?_
  rintro e w9 ⟨he, hc9, h9⟩
  have hd : addE (dropB [([97], 2), ([97, 98], 1)] [98]) [] = 1 := by decide
  rw [hd] at he
  subst he
  have HB9 := hide (HB8.out.trans hc9.low)
  clear HT8 HB8 hc9 h9 hd
  go_wp2_with fail
  refine (tadd_nil none 0 0 w9).mono ?_
  rintro e w10 ⟨rfl, rfl⟩
  go_wp2_with fail
  refine (tnodes_nil w9).mono ?_
  rintro e w10 ⟨rfl, rfl⟩
  go_wp2_with fail
  go_ret
  exact ⟨rfl, HB9.out⟩
end Go.Proofs.Ytchcpeenpijekaa

/- Law 21: the word that some makes. -/
namespace Go.Proofs.Ytchcpeenpijekaa
open Go.RowKit
set_option linter.unusedVariables false

theorem and_ffff (x : Int) : 0 ≤ bits .and .i32 x 65535 ∧ bits .and .i32 x 65535 ≤ 65535 := by
  have h : bits .and .i32 x 65535 = IntKind.i32.wrap ((BitVec.ofInt 32 x &&& BitVec.ofInt 32 65535).toNat : Int) := rfl
  have hb : (BitVec.ofInt 32 x &&& BitVec.ofInt 32 65535).toNat ≤ 65535 := by
    rw [BitVec.toNat_and]
    refine Nat.le_trans Nat.and_le_right ?_
    decide
  rw [h, IntKind.wrap_i32]
  omega
def SomeQ (w : World) (few : Bool) (e : Ending) (w' : World) : Prop := ∃ A' n' c' l', e = .returned (.slice A' n' c') ∧ Runes w' A' n' l' ∧ n' ≤ 12 ∧ n' ≤ c' ∧ c' ≤ 9223372036854775807 ∧ Below w.heap.size w w' ∧ (few = true → ∀ x ∈ l', x = 97 ∨ x = 98)

set_option maxRecDepth 100000 in
set_option maxHeartbeats 1000000 in
theorem some_any (few : Bool) (A : Option Addr) (n c : Nat) (l : List Int) (w : World) (hA : Runes w A n l) (hc : n ≤ c) (hcm : c ≤ 9223372036854775807) :
    Calls Try.prog 12 #[.slice A n c, .bool few] w (SomeQ w few) := by
  have C1 := hide (cut_any A n c 12 w hc hcm (by omega))
  have hmn : min n 12 ≤ n := Nat.min_le_left _ _
  have hm12 : min n 12 ≤ 12 := Nat.min_le_right _ _
  have HA := hide (hA.take hmn)
  obtain ⟨m, hm⟩ : ∃ m, min n 12 = m := ⟨_, rfl⟩
  obtain ⟨a, ha⟩ : ∃ a, l.take m = a := ⟨_, rfl⟩
  rw [hm, ha] at HA
  rw [hm] at C1 hmn hm12
  clear hA hm ha
  cases few with
  | false =>
    go_enter Try.func12, Try.ntmps12
    go_wp2_with (go_at_call 32; refine C1.out.mono ?_; rintro e w1 ⟨rfl, rfl⟩)
    go_ret
    exact ⟨A, m, c, a, rfl, HA.out, hm12, by omega, hcm, Below.refl _ _, fun h => by cases h⟩
  | true =>
    go_enter Try.func12, Try.ntmps12
    go_wp2_with (go_at_call 32; refine C1.out.mono ?_; rintro e w1 ⟨rfl, rfl⟩)
    clear C1
    go_loopw [5, 6] (fun s5 s6 wr => ∃ (i : Nat) (O : Option Addr) (co : Nat) (o : List Int), i ≤ m ∧ i ≤ 4 ∧ s6 = .int .i64 i ∧ s5 = .slice O i co ∧ Hid (Own wr w.heap.size O i co o) ∧ (∀ x ∈ o, x = 97 ∨ x = 98) ∧ Hid (Below w.heap.size w wr)) (fun _ s6 _ => m - (intOf s6).toNat)
    case atStart => exact ⟨0, none, 0, [], Nat.zero_le _, Nat.zero_le _, rfl, rfl, Own.nil _ _, (fun x hx => by cases hx), Below.refl _ _⟩
    case round =>
      obtain ⟨i, O, co, o, hi, hi4, rfl, rfl, HO, ho, HB⟩ := hrel
      by_cases hlt : i < m ∧ i < 4
      · obtain ⟨hlt, hl4⟩ := hlt
        obtain ⟨b, oo, hAA, h1⟩ := (HA.out.below HB.out).at_ i hlt
        subst hAA
        have i0 : (0 : Int) ≤ (i : Int) := by omega
        have i1 : (i : Int) < (m : Int) := by omega
        have i4 : (i : Int) < 4 := by omega
        have hz := and_ffff (nth a i)
        generalize hzz : bits .and .i32 (nth a i) 65535 = z at hz
        go_wp2_with (at_builtin; refine wpList_app1 rfl (.tmp 22) (.tmp 30) rfl w.heap.size rfl (HO.out.alloc _) rfl (Runes.news wr #[.int .i32 (97 + z % 2)] 21 [97 + z % 2] rfl (W32.one (by omega))) (by omega) (by have := HB.out.size; simp; omega) ?_; intro A2 c2 w2 hown2 _ hor)
        have HO2 := hide hown2
        have HB2 := hide (show Below w.heap.size w w2 from by
          have h1 := HB.out.alloc HB.out.size (.cells #[.int .i32 (97 + z % 2)] 21)
          rcases hor with ⟨_, _, hg⟩ | ⟨_, hb⟩
          · exact h1.grown hg (by have := HB.out.size; simp; omega) fun g e => (HO.out.blk_ge g e).1
          · exact h1.trans (hb.mono (by have := HB.out.size; simp; omega)))
        clear hown2 hor
        go_roundw
        case rel => exact ⟨i + 1, A2, c2, _, by omega, by omega, by go_num, rfl, HO2.out, (fun x hx => by
          rcases List.mem_append.1 hx with hx | hx
          · exact ho x hx
          · rw [List.mem_singleton.1 hx]; omega), HB2.out⟩
        case measure => simp [intOf]; omega
      · have hd : (¬ i < m) ∨ ((i : Int) < (m : Int) ∧ decide ((i : Int) < 4) = false) := by
          by_cases h : i < m
          · exact .inr ⟨by omega, by simp; omega⟩
          · exact .inl h
        have hcap := HO.out.cap
        have HR := hide (show SomeQ w true (.returned (.slice O i co)) wr from ⟨O, i, co, o, rfl, HO.out.runes, by omega, hcap.1, hcap.2, HB.out, fun _ => ho⟩)
        clear hlt
        rcases hd with d1 | ⟨d1, d2⟩
        all_goals
          go_wp2_with fail
          go_ret
          exact HR.out
end Go.Proofs.Ytchcpeenpijekaa

/- Law 21: same answers true. -/
namespace Go.Proofs.Ytchcpeenpijekaa
open Go.RowKit Go.Maps Go.MapKept Go.ChangeMaps Go.Shelf
set_option linter.unusedVariables false

/-- The words of the items us, from item i on, may be spoiled. -/
structure SpoW (w0 wr : World) (A : Option Addr) (n c i : Nat) (us : List IV) : Prop where
  row : RowG wr 49 2 w0.heap.size A n c (us.map IV.cells)
  own : ∀ (j : Nat) u, i ≤ j → us[j]? = some u → ∃ l, Own wr w0.heap.size u.A u.n u.c l
  below : Below w0.heap.size w0 wr
theorem SpoW.next {w0 wr w2 : World} {A : Option Addr} {n c i : Nat} {us : List IV} (h : SpoW w0 wr A n c i us) (hap : us.Pairwise fun u v => Apart u.A v.A) {u : IV} (hu : us[i]? = some u) (hg : wr.grownBy w2 (blk u.A)) : SpoW w0 w2 A n c (i + 1) us := by
  obtain ⟨l, hl⟩ := h.own i u (Nat.le_refl _) hu
  refine ⟨h.row.kept hg ?_, fun j v hj hv => ?_, h.below.grown hg h.below.size fun g e => (hl.blk_ge g e).1⟩
  · cases hA : blk A with
    | none => exact .inl rfl
    | some g =>
      refine .inr fun e => ?_
      rcases own_ne_row hl h.row (by decide) with h1 | h1
      · rw [h1] at e; cases e
      · exact h1 (by rw [← e, hA])
  · obtain ⟨m, hm⟩ := h.own j v (by omega) hv
    refine ⟨m, hm.kept hg ?_⟩
    obtain ⟨hi1, hi2⟩ := List.getElem?_eq_some_iff.1 hu
    obtain ⟨hj1, hj2⟩ := List.getElem?_eq_some_iff.1 hv
    have h2 := List.pairwise_iff_getElem.1 hap i j hi1 hj1 (by omega)
    rw [hi2, hj2] at h2
    cases hA : blk v.A with
    | none => exact .inl rfl
    | some g => exact .inr fun e => h2 g e.symm hA
theorem tlen_n {w : World} {B t K n : Nat} {L : List Itm} (h : TrieB w B t K L) (hn : L.length = n) : Calls Try.prog 25 #[.pointer (some ⟨t, 0, none⟩)] w fun e w' => e = .returned (.int .i64 (n : Nat)) ∧ w = w' := by
  subst hn
  exact tlen_any h

set_option maxRecDepth 100000 in
set_option maxHeartbeats 4000000 in
theorem same21_any (P : Nat → Prop) (B B' t K g : Nat) (L : List Itm) (S : Option Addr) (m d : Nat) (p : List Int) (w : World) (hT : TrieB w B t K L) (hG : BagM P w B' g L) (hS : Runes w S m p) (hm : m ≤ 1000000) (hK : K ≤ 1000000) :
    Calls Try.prog 22 #[.pointer (some ⟨t, 0, none⟩), .pointer (some ⟨g, 0, none⟩), .slice S m d] w fun e w' => e = .returned (.bool true) ∧ Below w.heap.size w w' := by
  obtain ⟨A, n, c, us, hV⟩ := hG
  have hs := hT.1
  have hsz := hV.sizes hs
  have hln := hV.len.2
  have W1 := hide (twith_any (c := d) hT hS hm hK)
  have HT := hide hT
  have HV := hide hV
  have HS := hide hS
  have HSM := hide hs
  have HSZ := hide (show ∀ u ∈ us, u.n ≤ 1000000 ∧ u.n ≤ u.c ∧ u.c ≤ 9223372036854775807 from fun u hu => ⟨by have := hsz.2 u hu; omega, hV.cap u hu⟩)
  have hn := hsz.1
  clear hT hV hS hs hsz
  go_enter Try.func22, Try.ntmps22
  go_upto_region 2 with (go_at_call 24; refine W1.out.mono ?_; rintro e w1 ⟨Ao, no, co, vs, rfl, hO, hvs, hb1⟩)
  have HO := hide hO
  have HVS := hide hvs
  have HB1 := hide hb1
  have HV1 := hide (HV.out.below hb1)
  have c0 : w1.cell? ⟨g, 0, none⟩ = some (.slice A n c) := HV1.out.box.cell 0
  have hno : no ≤ 1000 := by
    have h1 := congrArg List.length hvs
    rw [List.length_map, hO.len] at h1
    have h2 : (withB L p).length ≤ L.length := List.length_filter_le _ _
    omega
  have HUB := hide (show ∀ u ∈ vs, u.n ≤ 1000000 from fun u hu => by
    have h1 := HSM.out.len u.itm
    have h2 : u.itm ∈ withB L p := by rw [← hvs]; exact List.mem_map_of_mem hu
    have h3 := h1 (List.mem_filter.1 h2).1
    have h4 := (hO.own u hu).len
    have h5 : u.itm.1 = u.t := rfl
    rw [h5] at h3
    omega)
  clear hO hvs hb1 W1
  go_region_held3 (fun w' => w'.cell? ⟨g, 0, none⟩ = some (.slice A n c))
    (first | go_keep)
    (first
     | (go_at_call 47; (with_reducible refine (bwith_any S m d p (HV1.out.below (Below.refl _ _).drew) (by omega) ((HS.out.below HB1.out).below (Below.refl _ _).drew) (by omega) HSZ.out).mono ?_); rintro e w2 ⟨A2, n2, c2, us2, rfl, hr2, he2, hrd2, hn2, hb2⟩
        have HR2 := hide hr2
        have HE2 := hide he2
        have HD2 := hide hrd2
        have HN2 := hide hn2
        have HB2 := hide ((Below.refl w1.heap.size w1).drew.trans hb2)
        have HV2 := hide (HV1.out.below HB2.out)
        have HQ2 := hide (sameItems_yes Ao A2 no co n2 c2 vs us2 w2 (HO.out.below HB2.out).row.items HR2.out.items (fun u hu => ((HO.out.below HB2.out).own u hu).runes) HD2.out (HVS.out.trans HE2.out.symm) (by omega) HUB.out HN2.out)
        clear hr2 he2 hrd2 hn2 hb2 c0
        have c1 : w2.cell? ⟨g, 0, none⟩ = some (.slice A n c) := HV2.out.box.cell 0)
     | (go_at_call 28; (with_reducible refine HQ2.out.mono ?_); rintro e w3 ⟨rfl, q3, h3⟩
        have hb3 : Below w2.heap.size w2 w3 := by rw [h3]; exact lt_drewN w2 q3
        have HB3 := hide (HB2.out.trans (hb3.mono HB2.out.size))
        have HV3 := hide (HV2.out.below hb3)
        clear h3 hb3 c1
        have c2 : w3.cell? ⟨g, 0, none⟩ = some (.slice A n c) := HV3.out.box.cell 0)
     | (go_at_call 25; (with_reducible refine (tlen_n ((HT.out.below HB1.out).below HB3.out) hln).mono ?_); rintro e w4 ⟨rfl, rfl⟩)
     | (go_at_call 26; (with_reducible refine (tnodes_any ((HT.out.below HB1.out).below HB3.out)).mono ?_); rintro e w4 ⟨rfl, rfl⟩)
     | (go_at_call 48; (with_reducible refine (bnodes_any HV3.out HSM.out).mono ?_); rintro e w5 ⟨rfl, q5, h5⟩
        have hb5 : Below w3.heap.size w3 w5 := by rw [h5]; exact lt_drewN w3 q5
        have HB5 := hide (HB3.out.trans (hb5.mono HB3.out.size))
        have HV5 := hide (HV3.out.below hb5)
        clear h5 hb5 c2
        have c3 : w5.cell? ⟨g, 0, none⟩ = some (.slice A n c) := HV5.out.box.cell 0))
  have HSP := hide (show SpoW w w5 Ao no co 0 vs from ⟨(HO.out.below HB5.out).row, fun j u _ hu => ⟨u.t, (HO.out.below HB5.out).own u (List.mem_of_getElem? hu)⟩, HB1.out.trans (HB5.out.mono HB1.out.size)⟩)
  have HAP := hide HO.out.ap
  have HLE := hide HO.out.len
  clear HO HV HV1 HV2 HV3 HV5 HB1 HB2 HB3 HB5 HQ2 HR2 HE2 HD2 HN2 HUB HVS HSM HSZ HS HT c3
  go_wp2_with fail
  go_loopw [9, 37] (fun _ s37 wr => ∃ i : Nat, i ≤ no ∧ s37 = .int .i64 i ∧ Hid (SpoW w wr Ao no co i vs)) (fun _ s37 _ => no - (intOf s37).toNat)
  case atStart => exact ⟨0, Nat.zero_le _, rfl, HSP.out⟩
  case round =>
    obtain ⟨i, hi, rfl, HSP⟩ := hrel
    by_cases hlt : i < no
    · obtain ⟨u, hu⟩ : ∃ u, vs[i]? = some u := ⟨_, List.getElem?_eq_getElem (by rw [HLE.out]; exact hlt)⟩
      have hv : (vs.map IV.cells)[i]? = some u.cells := by rw [List.getElem?_map, hu]; rfl
      obtain ⟨b, rfl, h1, _⟩ := HSP.out.row.cell (i := 0) hv (by omega) rfl
      obtain ⟨l, hl⟩ := HSP.out.own i u (Nat.le_refl _) hu
      have HL := hide hl
      have HU := hide hu
      have i0 : (0 : Int) ≤ (i : Int) := by omega
      have i1 : (i : Int) < (no : Int) := by omega
      rw [Nat.add_zero] at h1
      clear hl hu hv
      go_wp2_with (go_at_call 21; refine (spoil_any _ u.A u.n u.c l _ HL.out).mono ?_; rintro e w6 ⟨rfl, -, hg6⟩)
      have HSP2 := hide (HSP.out.next HAP.out HU.out hg6)
      clear hg6 HL HU h1 HSP
      go_roundw
      case rel => exact ⟨i + 1, by omega, by go_num, HSP2.out⟩
      case measure => simp [intOf]; omega
    · have HB := hide HSP.out.below
      go_wp2_with fail
      go_ret
      exact ⟨rfl, HB.out⟩
end Go.Proofs.Ytchcpeenpijekaa

/- What came in, opened: slices of runes. -/
namespace Go.Proofs.Ytchcpeenpijekaa
open Go.ChangeShapes Go.WideShapes Go.ChangeAt Go.RowKit
set_option linter.unusedVariables false

theorem ownKnob_none : ownKnob Try.prog.godebug = none := by kernel_rfl
theorem laid_out : laidOutB Try.prog = true := by kernel_rfl

section
variable {H : Type} {enc : TypeId × Value → H} {W : World} {base : Nat} {spare : Nat → Bool} {held : Bool}

/-- What a slice of runes that came in is. -/
structure RuneArg (W : World) (v : Value) (A : Option Addr) (n c : Nat) (l : List Int) : Prop where
  eq : v = .slice A n c
  rd : Runes W A n l
  le : n ≤ c
  cap : c ≤ 9223372036854775807
  len : n ≤ 35184372087808

theorem wf_i32 {n : Int} (h : (Lit.int .i32 n).wf = true) : -2147483648 ≤ n ∧ n ≤ 2147483647 := by
  simpa [Lit.wf, IntKind.min, IntKind.max, IntKind.signed, IntKind.bits] using h
theorem wf_i64 {n : Int} (h : (Lit.int .i64 n).wf = true) : -9223372036854775808 ≤ n ∧ n ≤ 9223372036854775807 := by
  simpa [Lit.wf, IntKind.min, IntKind.max, IntKind.signed, IntKind.bits] using h

theorem bytes32 : Try.prog.bytesOf 21 = 4 := by kernel_rfl

theorem open_runes {fuel : Nat} {v : Value} {y : DataW H × List MemPlace} (h : DataW.trod enc Try.prog W base spare held fuel 29 [v] = some y) (hw : ∀ x ∈ y.1.weights Try.prog 29, x ≤ reachBytes) :
    ∃ A n c l, RuneArg W v A n c l := by
  rcases open_ints Try.underlying29 Try.underlying21 (by kernel_rfl) h with ⟨hcs, _⟩ | ⟨x, l, c, zs, hcs, _, hl, hm, hz, hy, hcell, hwz⟩
  · simp only [List.cons.injEq, and_true] at hcs
    exact ⟨none, 0, 0, [], hcs, Runes.nil W none, Nat.le_refl _, by omega, by omega⟩
  · simp only [List.cons.injEq, and_true] at hcs
    have hlz : l ≤ zs.length := by rw [hz]; split <;> omega
    have hlen : l ≤ 35184372087808 := by
      have h1 := hw ((l + (zs.length - l)) * Try.prog.bytesOf 21) (by
        rw [hy]
        simp only [DataW.weights, Try.underlying29]
        refine List.mem_cons.2 (.inl ?_)
        simp [ChangeShapes.lits, Nat.min_eq_left hlz])
      rw [bytes32] at h1
      simp only [reachBytes] at h1
      omega
    refine ⟨some x, l, c, zs.take l, hcs, ⟨by rw [List.length_take]; omega, fun j hj => ?_, fun z hz' => wf_i32 (hwz z (List.mem_of_mem_take hz'))⟩, hl, by simpa [maxLen] using hm, hlen⟩
    obtain ⟨b, o, sp⟩ := x
    have hc := hcell j (by omega)
    have hspot : sp = none := by
      simpa [Addr.add] using World.cell?_spot (hcell 0 (by omega))
    subst hspot
    rw [addr_lit] at hc
    exact ⟨b, o, rfl, by rw [hc, nth_take hj]; rfl⟩

set_option maxRecDepth 100000 in
/-- A slice of runes that came in, its value with it. -/
theorem open_runes_arg {fuel : Nat} {r : Reach} {b0 : Nat} {v : Value} {d : DataW H} {p : List MemPlace} (ht : Try.prog.underlying 29 = some (.slice 21)) (hv : Value.okWide Try.prog W r b0 29 v)
    (h : DataW.trod enc Try.prog W base spare held fuel 29 v.cells.toList = some (d, p)) (hw : ∀ x ∈ d.weights Try.prog 29, x ≤ reachBytes) :
    ∃ A n c l, RuneArg W v A n c l := by
  obtain ⟨a0, len0, cap0, rfl⟩ := okWide_slice ht hv
  exact open_runes h hw

end
end Go.Proofs.Ytchcpeenpijekaa

/- What came in, opened: a slice of standish/standishlaw21.Deed. -/
namespace Go.Proofs.Ytchcpeenpijekaa
open Go.ChangeShapes Go.WideShapes Go.ChangeAt Go.RowKit Go.Deep
set_option linter.unusedVariables false
set_option maxRecDepth 100000

/-- A deed. -/
structure DV where
  how : Int
  T : Option Addr
  n : Nat
  c : Nat
  t : List Int
def DV0 : DV := ⟨0, none, 0, 0, []⟩
structure DOk (W : World) (u : DV) : Prop where
  rd : Runes W u.T u.n u.t
  le : u.n ≤ u.c
  cap : u.c ≤ 9223372036854775807
  len : u.n ≤ 35184372087808
  hw : -9223372036854775808 ≤ u.how ∧ u.how ≤ 9223372036854775807
theorem DOk.below {w w' : World} {u : DV} (h : DOk w u) (hb : Below w.heap.size w w') : DOk w' u := ⟨h.rd.below hb, h.le, h.cap, h.len, h.hw⟩
/-- A slice of deeds. -/
structure Deeds (w : World) (A : Option Addr) (n : Nat) (ds : Nat → DV) : Prop where
  at_ : ∀ j, j < n → ∃ b o, A = some ⟨b, o, none⟩ ∧ w.cell? ⟨b, o + j * 2, none⟩ = some (.int .i64 (ds j).how) ∧ w.cell? ⟨b, o + j * 2 + 1, none⟩ = some (.slice (ds j).T (ds j).n (ds j).c)
  ok : ∀ j, j < n → DOk w (ds j)
theorem Deeds.below {w w' : World} {A : Option Addr} {n : Nat} {ds : Nat → DV} (h : Deeds w A n ds) (hb : Below w.heap.size w w') : Deeds w' A n ds :=
  ⟨fun j hj => by
    obtain ⟨b, o, e, h0, h1⟩ := h.at_ j hj
    have hl : b < w.heap.size := World.block_lt_of_cell? w _ h0
    exact ⟨b, o, e, (hb.cell (p := ⟨b, o + j * 2, none⟩) hl).trans h0, (hb.cell (p := ⟨b, o + j * 2 + 1, none⟩) hl).trans h1⟩, fun j hj => (h.ok j hj).below hb⟩
structure DeedsArg (W : World) (v : Value) (A : Option Addr) (n c : Nat) (ds : Nat → DV) : Prop where
  eq : v = .slice A n c
  rd : Deeds W A n ds
  le : n ≤ c
  cap : c ≤ 9223372036854775807

section
variable {H : Type} {enc : TypeId × Value → H} {W : World} {base : Nat} {spare : Nat → Bool} {held : Bool}

theorem weights_all_memD {e : TypeId} {x : Nat} : ∀ {l : List (DataW H)} {d : DataW H}, d ∈ l → x ∈ d.weights Try.prog e → x ∈ DataW.weightsAll Try.prog e l
  | d' :: r, d, hd, hx => by
    rw [DataW.weightsAll, List.mem_append]
    rcases List.mem_cons.1 hd with rfl | h
    · exact .inl hx
    · exact .inr (weights_all_memD h hx)
/-- An element: a deed in its cells. -/
theorem open_deed {fuel : Nat} {cs : List Value} {d : DataW H} {p : List MemPlace} (h : DataW.trod enc Try.prog W base spare held fuel 32 cs = some (d, p))
    (hw : ∀ x ∈ d.weights Try.prog 32, x ≤ reachBytes) :
    ∃ (u : DV), cs = [.int .i64 u.how, .slice u.T u.n u.c] ∧ DOk W u := by
  obtain ⟨ys, k, _, hy, hlen, hyl, hf⟩ := DataW.trod_struct Try.underlying32 h
  simp only [Prod.mk.injEq] at hy
  obtain ⟨hd, hp⟩ := hy
  subst hd
  have hlen2 : cs.length = 2 := hlen.trans (by kernel_rfl)
  obtain ⟨v0, v1, rfl⟩ : ∃ v0 v1, cs = [v0, v1] := by
    match cs, hlen2 with
    | [v0, v1], _ => exact ⟨v0, v1, rfl⟩
  obtain ⟨y0, y1, rfl⟩ : ∃ a b, ys = [a, b] := by
    match ys, hyl with
    | [a, b], _ => exact ⟨a, b, rfl⟩
  have g0 : DataW.trod enc Try.prog W base spare held k 3 [v0] = some y0 := hf 0 _ rfl
  have g1 : DataW.trod enc Try.prog W base spare held k 29 [v1] = some y1 := hf 1 _ rfl
  obtain ⟨x0, e0, _, w0⟩ := DataW.trod_int Try.underlying3 g0
  injection e0 with e0
  obtain ⟨T, n, c, t, hT⟩ := open_runes g1 fun x hx => hw x (by
    simp only [DataW.weights, Try.underlying32]
    simp only [List.map_cons, List.map_nil, DataW.weightsEach, List.mem_append]
    exact .inr (.inl hx))
  exact ⟨⟨x0, T, n, c, t⟩, by rw [e0, hT.eq], hT.rd, hT.le, hT.cap, hT.len, wf_i64 w0⟩

theorem open_deeds_arg {fuel : Nat} {b0 : Nat} {v : Value} {d : DataW H} {p : List MemPlace} (ht : Try.prog.underlying 22 = some (.slice 32)) (hv : Value.okWide Try.prog W .any b0 22 v)
    (h : DataW.trod enc Try.prog W base spare held fuel 22 v.cells.toList = some (d, p)) (hw : ∀ x ∈ d.weights Try.prog 22, x ≤ reachBytes) :
    ∃ A n c ds, DeedsArg W v A n c ds := by
  obtain ⟨a0, len0, cap0, rfl⟩ := okWide_slice ht hv
  rcases open_slice Try.underlying22 h with ⟨hcs, _⟩ | ⟨a, len, cap, m, n, D, Pl, hcs, hb, hl, hm, hmm, hx, hi⟩
  · have hcs : Value.slice a0 len0 cap0 = .slice none 0 0 := by simpa [Value.cells] using hcs
    exact ⟨none, 0, 0, fun _ => DV0, hcs, ⟨fun j h => absurd h (by omega), fun j h => absurd h (by omega)⟩, Nat.le_refl _, by omega⟩
  · have hcs : Value.slice a0 len0 cap0 = .slice (some a) len cap := by simpa [Value.cells] using hcs
    have hC : Try.prog.cellsOf 32 = 2 := by kernel_rfl
    rw [hC] at hi
    injection hx with hx _
    have hlm : len ≤ m := by rw [hmm]; split <;> omega
    have key : ∀ i, i < len → ∃ (u : DV), (W.cell? (a.add (i * 2)) = some (.int .i64 u.how) ∧ W.cell? (a.add (i * 2 + 1)) = some (.slice u.T u.n u.c)) ∧ DOk W u := fun i hil => by
      obtain ⟨cs', hc', ht'⟩ := hi i (by omega)
      obtain ⟨u, rfl, h2⟩ := open_deed ht' fun y hy => hw y (by
        rw [hx]
        simp only [DataW.weights, Try.underlying22]
        refine List.mem_cons.2 (.inr (List.mem_append.2 (.inl ?_)))
        exact weights_all_memD (List.mem_map.2 ⟨i, List.mem_range.2 hil, rfl⟩) hy)
      obtain ⟨_, _, hat⟩ := World.cells?_some hc'
      refine ⟨u, ⟨?_, ?_⟩, h2⟩
      · have := hat 0 (by simp)
        rw [add_add, Nat.add_zero] at this
        exact this
      · have := hat 1 (by simp)
        rw [add_add] at this
        exact this
    have key2 : ∀ i, ∃ (u : DV), i < len → (W.cell? (a.add (i * 2)) = some (.int .i64 u.how) ∧ W.cell? (a.add (i * 2 + 1)) = some (.slice u.T u.n u.c)) ∧ DOk W u := fun i => by
      by_cases hil : i < len
      · obtain ⟨u, h⟩ := key i hil
        exact ⟨u, fun _ => h⟩
      · exact ⟨DV0, fun h => absurd h hil⟩
    obtain ⟨f, hf⟩ := Classical.axiomOfChoice key2
    obtain ⟨b, o, sp⟩ := a
    refine ⟨some ⟨b, o, sp⟩, len, cap, f, hcs, ⟨fun j hj => ?_, fun j hj => (hf j hj).2⟩, hl, by simpa [maxLen] using hm⟩
    have h0 := (hf j hj).1
    have hspot : sp = none := by
      simpa [Addr.add] using World.cell?_spot (hf 0 (by omega)).1.1
    subst hspot
    simp only [addr_lit] at h0
    exact ⟨b, o, rfl, h0⟩
end
end Go.Proofs.Ytchcpeenpijekaa
