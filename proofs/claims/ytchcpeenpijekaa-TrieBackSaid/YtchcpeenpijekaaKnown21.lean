/- The contract of standishlaw21.known: it answers true. -/
import Derived.Test.YtchcpeenpijekaaBagH
namespace Go.Proofs.Ytchcpeenpijekaa
open Go.RowKit
set_option linter.unusedVariables false

theorem w32_lit {l : List Int} (h : l.all (fun x => decide (0 ≤ x) && decide (x ≤ 1114111)) = true) : W32 l := fun x hx => by
  have := List.all_eq_true.1 h x hx
  simp at this
  omega
/-- A word of letters, new. -/
theorem news_word (w : World) (cs : Array Value) (l : List Int) (h : cs = (cells32 l).toArray) (hw : l.all (fun x => decide (0 ≤ x) && decide (x ≤ 1114111)) = true) {n : Nat} (hn : l.length = n) : Runes (w.alloc (.cells cs 21)) (some ⟨w.heap.size, 0, none⟩) n l := by
  subst hn
  exact Runes.news w cs 21 l h (w32_lit hw)
theorem TrieB.alloc {w : World} {B t K : Nat} {L : List Itm} (h : TrieB w B t K L) (o : Obj) : TrieB (w.alloc o) B t K L := h.below ((Below.refl _ _).alloc (Nat.le_refl _) o)
/-- One more word, that is taken. -/
theorem tadd_yes {w : World} {B t K n c : Nat} {A : Option Addr} {L L2 : List Itm} {l : List Int} (h : TrieB w B t K L) (hA : Runes w A n l) (hB : B ≤ w.heap.size) (hn : n ≤ 1000) (hK : K ≤ 1000000000) (he : addE L l = 0) (hL : addB L l = L2) :
    Calls Try.prog 18 #[.pointer (some ⟨t, 0, none⟩), .slice A n c] w fun e w' => e = .returned (.int .i64 0) ∧ Calm B w w' ∧ TrieB w' B t (K + 1000) L2 := by
  refine (tadd_any h hA (by omega) hB hK).mono ?_
  rintro e w' ⟨h1, h2, h3⟩
  rw [he] at h1
  rw [addL_eq he, hL] at h3
  exact ⟨h1, h2, h3⟩
theorem two_of : ∀ {us : List IV}, us.length = 2 → ∃ u v, us = [u, v]
  | [u, v], _ => ⟨u, v, rfl⟩

set_option maxRecDepth 100000 in
set_option maxHeartbeats 4000000 in
theorem known21_any (w : World) : Calls Try.prog 23 #[] w fun e w' => e = .returned (.bool true) ∧ Below w.heap.size w w' := by
  go_enter Try.func23, Try.ntmps23
  go_wp2_with fail
  refine (tnew_all _).mono ?_
  rintro e w1 ⟨t, rfl, h1, hb1⟩
  have HT1 := hide (h1.alloc (.cells #[.int .i32 97, .int .i32 98] 21))
  have HB1 := hide (hb1.alloc hb1.size (.cells #[.int .i32 97, .int .i32 98] 21))
  have HR1 := hide (news_word w1 #[.int .i32 97, .int .i32 98] [97, 98] rfl rfl (n := 2) rfl)
  clear h1 hb1
  go_wp2_with fail
  generalize w1.alloc (.cells #[.int .i32 97, .int .i32 98] 21) = W1 at HT1 HB1 HR1 ⊢
  refine (tadd_yes HT1.out HR1.out HB1.out.size (by omega) (by omega) (by decide) (L2 := [([97, 98], 1)]) (by decide)).mono ?_
  rintro e w2 ⟨rfl, hc2, h2⟩
  have hb2 := HB1.out.trans hc2.low
  have HT2 := hide (h2.alloc (.cells #[.int .i32 97] 21))
  have HB2 := hide (hb2.alloc hb2.size (.cells #[.int .i32 97] 21))
  have HR2 := hide (news_word w2 #[.int .i32 97] [97] rfl rfl (n := 1) rfl)
  clear h2 hb2 hc2 HT1 HB1 HR1
  go_wp2_with fail
  generalize w2.alloc (.cells #[.int .i32 97] 21) = W2 at HT2 HB2 HR2 ⊢
  refine (tadd_yes HT2.out HR2.out HB2.out.size (by omega) (by omega) (by decide) (L2 := [([97], 1), ([97, 98], 1)]) (by decide)).mono ?_
  rintro e w3 ⟨rfl, hc3, h3⟩
  have hb3 := HB2.out.trans hc3.low
  have HT3 := hide (h3.alloc (.cells #[.int .i32 97] 21))
  have HB3 := hide (hb3.alloc hb3.size (.cells #[.int .i32 97] 21))
  have HR3 := hide (news_word w3 #[.int .i32 97] [97] rfl rfl (n := 1) rfl)
  clear h3 hb3 hc3 HT2 HB2 HR2
  go_wp2_with fail
  generalize w3.alloc (.cells #[.int .i32 97] 21) = W3 at HT3 HB3 HR3 ⊢
  refine (tadd_yes HT3.out HR3.out HB3.out.size (by omega) (by omega) (by decide) (L2 := [([97], 2), ([97, 98], 1)]) (by decide)).mono ?_
  rintro e w4 ⟨rfl, hc4, h4⟩
  have hb4 := HB3.out.trans hc4.low
  have HT4 := hide (h4.alloc (.cells #[.int .i32 97] 21))
  have HB4 := hide (hb4.alloc hb4.size (.cells #[.int .i32 97] 21))
  have HR4 := hide (news_word w4 #[.int .i32 97] [97] rfl rfl (n := 1) rfl)
  clear h4 hb4 hc4 HT3 HB3 HR3
  go_wp2_with fail
  generalize w4.alloc (.cells #[.int .i32 97] 21) = W4 at HT4 HB4 HR4 ⊢
  refine (twith_any HT4.out HR4.out (by omega) (by omega)).mono ?_
  rintro e w5 ⟨Ao, no, co, us, rfl, hO, hus, hb5⟩
  have hw : withB [([97], 2), ([97, 98], 1)] [97] = [([97], 2), ([97, 98], 1)] := by decide
  rw [hw] at hus
  have hlen := hO.len
  obtain ⟨u, v, rfl⟩ : ∃ u v, us = [u, v] := two_of (by have := congrArg List.length hus; simpa using this)
  have hno : no = 2 := hlen.symm
  subst hno
  have hu : u.t = [97] ∧ u.k = 2 := by
    injection hus with h1 _
    injection h1 with h1 h2
    exact ⟨h1, h2⟩
  have hun : u.n = 1 := by
    have := (hO.own u (by simp)).len
    rw [hu.1] at this
    exact this.symm
  obtain ⟨b, rfl, c0, _⟩ := hO.row.cell (j := 0) (i := 0) (v := u.cells) (u := .slice u.A u.n u.c) rfl (by omega) rfl
  obtain ⟨b', e', c1, _⟩ := hO.row.cell (j := 0) (i := 1) (v := u.cells) (u := .int .i64 (u.k : Nat)) rfl (by omega) rfl
  injection e' with e'
  injection e' with e'
  subst e'
  rw [hun] at c0
  rw [hu.2] at c1
  have hcap := hO.row.cap
  have HT5 := hide (HT4.out.below hb5)
  have HB5 := hide (HB4.out.trans (hb5.mono HB4.out.size))
  clear HT4 HB4 HR4 hO hus hb5 hlen hw hu hun
  go_wp2_with fail
  refine (tlen_any HT5.out).mono ?_
  rintro e w6 ⟨rfl, rfl⟩
  go_wp2_with fail
  refine (tnodes_any HT5.out).mono ?_
  rintro e w6 ⟨rfl, rfl⟩
  have hnb : nodesB [([97], 2), ([97, 98], 1)] = 3 := by decide
  rw [hnb]
  have HT6 := hide (HT5.out.alloc (.cells #[.int .i32 98] 21))
  have HB6 := hide (HB5.out.alloc HB5.out.size (.cells #[.int .i32 98] 21))
  have HR6 := hide (news_word w5 #[.int .i32 98] [98] rfl rfl (n := 1) rfl)
  clear HT5 HB5 c0 c1 hcap hnb
  go_wp2_with fail
  generalize w5.alloc (.cells #[.int .i32 98] 21) = W6 at HT6 HB6 HR6 ⊢
  refine (tcount_all HT6.out HR6.out (by omega)).mono ?_
  rintro e w7 ⟨rfl, rfl⟩
  have hcb : cntB [([97], 2), ([97, 98], 1)] [98] = 0 := by decide
  rw [hcb]
  have HT7 := hide (HT6.out.alloc (.cells #[.int .i32 98] 21))
  have HB7 := hide (HB6.out.alloc HB6.out.size (.cells #[.int .i32 98] 21))
  have HR7 := hide (news_word W6 #[.int .i32 98] [98] rfl rfl (n := 1) rfl)
  clear HT6 HB6 HR6 hcb
  go_wp2_with fail
  generalize W6.alloc (.cells #[.int .i32 98] 21) = W7 at HT7 HB7 HR7 ⊢
  refine (tdrop_any HT7.out HR7.out (by omega) HB7.out.size (by omega)).mono ?_
  rintro e w8 ⟨he, hc8, h8⟩
  have hd : dropE [([97], 2), ([97, 98], 1)] [98] = 4 := by decide
  rw [hd] at he
  subst he
  have HT8 := hide h8
  have HB8 := hide (HB7.out.trans hc8.low)
  clear HT7 HB7 HR7 hc8 h8 hd
  go_wp2_with fail
  refine (tadd_any HT8.out (Runes.nil w8 none) (by omega) HB8.out.size (by omega)).mono ?_
  rintro e w9 ⟨he, hc9, h9⟩
  have hd : addE (dropB [([97], 2), ([97, 98], 1)] [98]) [] = 1 := by decide
  rw [hd] at he
  subst he
  have HB9 := hide (HB8.out.trans hc9.low)
  clear HT8 HB8 hc9 h9 hd
  go_wp2_with fail
  refine (tadd_nil none 0 0 w9).mono ?_
  rintro e w10 ⟨rfl, rfl⟩
  go_wp2_with fail
  refine (tnodes_nil w9).mono ?_
  rintro e w10 ⟨rfl, rfl⟩
  go_wp2_with fail
  go_ret
  exact ⟨rfl, HB9.out⟩
end Go.Proofs.Ytchcpeenpijekaa
