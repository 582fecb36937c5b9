/- Pieces, joined: SrtT, MenW, LessR. -/
import Derived.Test.YtchcpeenpijekaaQ25
import Derived.Test.YtchcpeenpijekaaQ21
import Derived.Test.YtchcpeenpijekaaQ22
import Derived.Test.YtchcpeenpijekaaQ01
import Derived.Test.YtchcpeenpijekaaQ02

/- A row of items of the call's own is sorted: by count, those of one count as they were. -/
namespace Go.Proofs.Ytchcpeenpijekaa
open Go.RowKit
set_option linter.unusedVariables false

theorem ins0_any (A : Option Addr) (c : Nat) (F : Value) (w : World) : Calls Try.prog 82 #[.slice A 0 c, .int .i64 0, .int .i64 0, F] w fun e w' => e = .returned (.tuple #[]) ∧ w = w' := by
  go_enter Try.func82, Try.ntmps82
  go_wp2_with fail
  go_loop [8] (fun v => v = .int .i64 1) (fun _ => 0)
  case atStart => rfl
  case round =>
    subst hrel
    go_wp2_with fail
    go_end0
    exact ⟨rfl, rfl⟩
set_option maxHeartbeats 1000000 in
theorem stable0_any (A : Option Addr) (c : Nat) (F : Value) (w : World) : Calls Try.prog 73 #[.slice A 0 c, .int .i64 0, F] w fun e w' => e = .returned (.tuple #[]) ∧ w = w' := by
  go_enter Try.func73, Try.ntmps73
  go_wp2_with fail
  go_loop [7, 8] (fun va vb => va = .int .i64 0 ∧ vb = .int .i64 20) (fun _ _ => 0)
  case atStart => exact ⟨rfl, rfl⟩
  case round =>
    obtain ⟨rfl, rfl⟩ := hrel
    go_wp2_with (go_at_call 82; refine (ins0_any _ _ _ _).mono ?_; rintro e w5 ⟨rfl, rfl⟩)
    go_loop [6] (fun vd => vd = .int .i64 20) (fun _ => 0)
    case atStart => rfl
    case round =>
      subst hrel
      go_wp2_with fail
      go_end0
      exact ⟨rfl, rfl⟩
theorem sort0_any (A : Option Addr) (c : Nat) (F : Value) (w : World) : Calls Try.prog 61 #[.slice A 0 c, F] w fun e w' => e = .returned (.tuple #[]) ∧ w = w' := by
  go_enter Try.func61, Try.ntmps61
  go_wp2_with fail
  refine (stable0_any _ _ _ _).mono ?_
  rintro e w5 ⟨rfl, rfl⟩
  go_wp2_with fail
  go_end0
  exact ⟨rfl, rfl⟩

def IV0 : IV := ⟨none, 0, 0, 0, []⟩
/-- Item number x. -/
def fU (us : List IV) (x : Int) : IV := us[x.toNat]?.getD IV0
def rangeL (n : Nat) : List Int := (List.range n).map fun (i : Nat) => (i : Int)
theorem fU_at {us : List IV} {j : Nat} {u : IV} (h : us[j]? = some u) : fU us (j : Int) = u := by simp [fU, h]
theorem rangeL_len (n : Nat) : (rangeL n).length = n := by simp [rangeL]
theorem rangeL_nth {n j : Nat} (h : j < n) : nth (rangeL n) j = (j : Int) := by
  rw [nth_eq (by rw [rangeL_len]; exact h)]
  simp [rangeL]
theorem fU_all (us : List IV) : (rangeL us.length).map (fU us) = us := by
  refine List.ext_getElem? fun i => ?_
  rw [List.getElem?_map]
  by_cases h : i < us.length
  · have h1 : (rangeL us.length)[i]? = some (i : Int) := by simp [rangeL, h]
    rw [h1, Option.map_some, fU_at (List.getElem?_eq_getElem h), List.getElem?_eq_getElem h]
  · rw [List.getElem?_eq_none (by rw [rangeL_len]; omega), List.getElem?_eq_none (by omega)]
    rfl
/-- A row of items turns: what is no item stays. -/
theorem own_turned {w w' : World} {B n c B2 : Nat} {A : Option Addr} {vs : List (List Value)} (hr : RowG w 49 2 B A n c vs) (hg : w.grownBy w' (blk A)) {T : Option Addr} {m d : Nat} {l : List Int} (ho : Own w B2 T m d l) : Own w' B2 T m d l := by
  refine ho.kept hg ?_
  cases hT : blk T with
  | none => exact .inl rfl
  | some g =>
    refine .inr fun e => ?_
    obtain ⟨x, hx⟩ := ho.obj hT
    obtain ⟨y, hy⟩ := hr.obj e.symm
    rw [hx] at hy
    injection hy with hy
    injection hy with _ hy
    exact absurd hy (by decide)
def SortQ (w : World) (B n c : Nat) (A : Option Addr) (us : List IV) (e : Ending) (w' : World) : Prop := e = .returned (.tuple #[]) ∧ Below B w w' ∧ w.grownBy w' (blk A) ∧ ∃ us', ItemsO w' B A n c us' ∧ us'.map IV.itm = topL (us.map IV.itm) ∧ (∀ u ∈ us', u ∈ us)
theorem sortItems_any (B n c : Nat) (A : Option Addr) (us : List IV) (w : World) (h : ItemsO w B A n c us) (hb : BagW (us.map IV.itm)) (hk : ∀ u ∈ us, u.k ≤ 1000000) (hn : n ≤ 1000000) (hB : B ≤ w.heap.size) :
    Calls Try.prog 61 #[.slice A n c, .func (.func 62) #[] #[]] w (SortQ w B n c A us) := by
  have hlen := h.len
  rcases h.row.form with ⟨rfl, rfl, rfl⟩ | ⟨g, rfl, hg1, hg2⟩
  · refine (sort0_any none 0 _ w).mono ?_
    rintro e w' ⟨rfl, rfl⟩
    obtain rfl : us = [] := List.eq_nil_of_length_eq_zero hlen
    exact ⟨rfl, Below.refl _ _, World.grownBy.refl w _, [], h, rfl, fun u hu => hu⟩
  · have hrow : Stm.RowI (fU us) w B (some ⟨g, 0, none⟩) n c (rangeL n) := by
      have e : (rangeL n).map (fun x => (fU us x).cells) = us.map IV.cells := by
        conv => rhs; rw [← fU_all us]
        rw [List.map_map, hlen]
        rfl
      unfold Stm.RowI
      rw [e]
      exact h.row
    have hat : ∀ j, j < n → fU us (j : Int) ∈ us := fun j hj => by
      have h1 := List.getElem?_eq_getElem (l := us) (i := j) (by omega)
      rw [fU_at h1]
      exact List.getElem_mem _
    refine (Stm.sortStable_any (fU us) g (ltK (fU us)) (ltK_weak _) (fun _ => True) (fun x => (fU us x).k ≤ 1000000) (cmp22 _ g) B n c (rangeL n) w hrow trivial (fun x hx => ?_) hn (fun i j h1 h2 => by rw [rangeL_nth (by omega), rangeL_nth h2]; omega)).mono ?_
    · obtain ⟨i, hi, rfl⟩ := List.mem_map.1 hx
      exact hk _ (hat i (List.mem_range.1 hi))
    · rintro e w' ⟨rfl, hgr, l', hr', hs', ht'⟩
      have hl' : l'.length = n := by rw [hs'.len, rangeL_len]
      have val : ∀ i, i < n → ∃ j, j < n ∧ nth l' i = (j : Int) := fun i hi => by
        obtain ⟨j, _, h2, e⟩ := hs'.in_ i (Nat.zero_le _) hi
        exact ⟨j, h2, by rw [e, rangeL_nth h2]⟩
      have hmem : ∀ u ∈ l'.map (fU us), u ∈ us := fun u hu => by
        obtain ⟨x, hx, rfl⟩ := List.mem_map.1 hu
        obtain ⟨i, hi, rfl⟩ := mem_nth hx
        obtain ⟨j, hj, e⟩ := val i (by omega)
        rw [e]
        exact hat j hj
      refine ⟨rfl, (Below.refl _ _).grown hgr hB fun k e => by injection e with e; omega, hgr, l'.map (fU us), ⟨?_, fun u hu => own_turned h.row hgr (h.own u (hmem u hu)), ?_⟩, ?_, hmem⟩
      · have h1 : RowG w' 49 2 B (some ⟨g, 0, none⟩) n c (l'.map fun x => (fU us x).cells) := hr'
        rw [List.map_map]
        exact h1
      · rw [List.pairwise_map, List.pairwise_iff_getElem]
        intro i j hi hj hij
        have h1 := ht' i j (Nat.zero_le _) hij (by omega)
        obtain ⟨a, ha, ea⟩ := val i (by omega)
        obtain ⟨b, hb2, eb⟩ := val j (by omega)
        have hab : a ≠ b := fun e => by
          rw [ea, eb, e] at h1
          exact Stm.LtP.irr (ltK_weak _) h1
        rw [nth_eq hi] at ea
        rw [nth_eq hj] at eb
        rw [ea, eb, fU_at (List.getElem?_eq_getElem (show a < us.length by omega)), fU_at (List.getElem?_eq_getElem (show b < us.length by omega))]
        have hp := List.pairwise_iff_getElem.1 h.ap
        rcases Nat.lt_or_gt_of_ne hab with h2 | h2
        · exact hp a b (by omega) (by omega) h2
        · exact (hp b a (by omega) (by omega) h2).symm
      · rw [List.map_map]
        have hL : (us.map IV.itm).length = n := by rw [List.length_map, hlen]
        refine sorted_top hb (F := IV.itm ∘ fU us) (fun i x hx => ?_) (lt := ltK (fU us)) (fun x y => rfl) (l := rangeL n) (fun j hj => rangeL_nth (by omega)) (by rw [rangeL_len, hL]) (by rw [hL]; exact hs') (by rw [hL]; exact ht')
        rw [List.getElem?_map] at hx
        cases hu : us[i]? with
        | none => rw [hu] at hx; cases hx
        | some u =>
          rw [hu] at hx
          injection hx with hx
          show (fU us (i : Int)).itm = x
          rw [fU_at hu]
          exact hx
end Go.Proofs.Ytchcpeenpijekaa

/- The contract of words.Menu. -/
namespace Go.Proofs.Ytchcpeenpijekaa
open Go.RowKit
set_option linter.unusedVariables false

def MenuQ (s : List Int) (at_ : Int) (w : World) (e : Ending) (w' : World) : Prop := ∃ A n c Ao no co us k, e = .returned (.tuple #[.slice A n c, .slice Ao k k]) ∧ Own w' w.heap.size A n c (preS s at_) ∧ ItemsO w' w.heap.size Ao no co us ∧ k ≤ no ∧ no ≤ 1000 ∧ (us.take k).map IV.itm = menuS s at_ ∧ (∀ u ∈ us, Apart A u.A) ∧ (∀ u ∈ us, u.n ≤ 1000) ∧ Below w.heap.size w w'
theorem pre_none {s : List Int} {at_ : Int} (h : aheadS s at_ = 0) : preS s at_ = [] := by unfold preS; rw [h, List.take_zero]
theorem ahead_le {s : List Int} {at_ : Int} (h : aheadS s at_ ≠ 0) : ∃ a m f : Nat, at_ = (a : Int) ∧ aheadS s at_ = m ∧ a = f + m ∧ a ≤ s.length ∧ 0 < m ∧ preS s at_ = (s.drop f).take m := by
  by_cases hc : 0 ≤ at_ ∧ at_ ≤ s.length
  · have h1 : aheadS s at_ = aheadN s at_.toNat := if_pos hc
    have h2 := aheadN_le s at_.toNat
    refine ⟨at_.toNat, aheadS s at_, at_.toNat - aheadS s at_, by omega, rfl, by omega, by omega, by omega, rfl⟩
  · exact absurd (if_neg hc) h
theorem run_item_hm (A : Option Addr) (n c k : Nat) (h : k ≤ n) (hc : n ≤ c) (W : World) : (Instr.slice 26 (.slice A n c) none (some (.int .i64 (k : Nat))) (some (.int .i64 (k : Nat)))).run Try.prog W = .ok (.slice A k k) W := by
  have hz : (sizeOf (Try.prog.elem 26)).run Try.prog W = .ok 2 W := by kernel_rfl
  rw [run_slice_hm (P := Try.prog) (t := 26) (ht := by kernel_rfl) (h0 := by omega) (h2 := by omega) (h3 := by omega), hz]
  cases A <;> simp [Result.andThen, sliced, Addr.add]
theorem TrieB.upM {w : World} {B t K K' : Nat} {L : List Itm} (h : TrieB w B t K L) (hK : K ≤ K') : TrieB w B t K' L := by
  obtain ⟨h1, N, Q, h2⟩ := h
  have hT := h2.trie
  exact ⟨h1, N, Q, ⟨⟨hT.tree.node, fun p x hx => by
    obtain ⟨n, hn, hm⟩ := hT.tree.kids p x hx
    exact ⟨n, Nat.le_trans hn hK, hm⟩, hT.tree.one, hT.tree.up, hT.tree.base⟩, hT.box, hT.one, hT.mem, hT.live, hT.base⟩, h2.bag, h2.mem⟩
theorem step_own {s : List Int} {own : Nat × Nat} {L : List Itm} {p : Nat × Nat} (h : p = own) : stepA s own L p = L := if_pos h
theorem step_new {s : List Int} {own : Nat × Nat} {L : List Itm} {p : Nat × Nat} (h : p ≠ own) : stepA s own L p = addL L (wdS s p) := if_neg h
theorem foldl_next {α β : Type} {f : β → α → β} {l : List α} {b : β} {i : Nat} {x : α} (h : l[i]? = some x) : (l.take (i + 1)).foldl f b = f ((l.take i).foldl f b) x := by
  obtain ⟨hi, rfl⟩ := List.getElem?_eq_some_iff.1 h
  rw [List.take_succ_eq_append_getElem hi, List.foldl_append]
  rfl

set_option maxRecDepth 100000 in
set_option maxHeartbeats 4000000 in
theorem menu_any (S : Option Addr) (n d : Nat) (s : List Int) (at_ : Int) (w : World) (h : Runes w S n s) (hn : n ≤ 1000000) (hd : n ≤ d) (hdm : d ≤ 9223372036854775807) :
    Calls Try.prog 40 #[.slice S n d, .int .i64 at_] w (MenuQ s at_ w) := by
  have HS := hide h
  have HL := hide h.len
  have hah := ahead_any S n d at_ s w h (by omega)
  clear h
  by_cases h0 : aheadS s at_ = 0
  · rw [h0] at hah
    have HAH := hide (show Calls Try.prog 58 #[.slice S n d, .int .i64 at_] w fun e w' => e = .returned (.int .i64 0) ∧ w = w' from hah)
    have HF := hide (show MenuQ s at_ w (.returned (.tuple #[.slice none 0 0, .slice none 0 0])) w from ⟨none, 0, 0, none, 0, 0, [], 0, rfl, by rw [pre_none h0]; exact Own.nil _ _, ItemsO.nil _ _, Nat.le_refl _, Nat.zero_le _, (menuS_none (.inl h0)).symm, (fun u hu => by cases hu), (fun u hu => by cases hu), Below.refl _ _⟩)
    clear hah h0
    go_enter Try.func40, Try.ntmps40
    go_wp2_with (go_at_call 58; (with_reducible refine HAH.out.mono ?_); rintro e w5 ⟨rfl, rfl⟩)
    go_ret2
    exact HF.out
  · obtain ⟨a, m, f, rfl, hm, ha, hal, hm0, hpre⟩ := ahead_le h0
    rw [HL.out] at hal
    rw [hm] at hah
    have HAH := hide hah
    have HM := hide hm
    have HPR := hide hpre
    have hsl : ∀ W, (Instr.slice 29 (.slice S n d) (some (.int .i64 (f : Int))) (some (.int .i64 (a : Int))) none).run Try.prog W = .ok (.slice (sub S d f) m (d - f)) W := fun W => by
      rw [show (a : Int) = (f : Int) + (m : Int) by omega]
      exact run_sub_lh S n d f m (by omega) W
    have v1 : IntKind.i64.wrap ((a : Int) - (m : Int)) = (f : Int) := by rw [IntWalk.i64_in _ (by omega)]; omega
    have v2 : (a : Int) - (m : Int) = (f : Int) := by omega
    have e1 : ((m : Int) == 0) = false := by simp; omega
    have e2 : ¬ m = 0 := by omega
    have HCL := hide (clone_any (sub S d f) m (d - f) (preS s (a : Int)) w (by rw [hpre]; exact HS.out.mid (by omega) hd) (by omega))
    have H0 := hide h0
    clear hah hm hpre h0 ha
    go_enter Try.func40, Try.ntmps40
    go_upto_region 5 with (first
      | (go_at_call 58; (with_reducible refine HAH.out.mono ?_); rintro e w5 ⟨rfl, rfl⟩)
      | (go_at_call 50; (with_reducible refine HCL.out.mono ?_); rintro e w1 ⟨A1, n1, c1, rfl, hO1, hb1⟩))
    have HO1 := hide hO1
    have HB1 := hide hb1
    clear hO1 hb1 hsl v1 v2 e1 e2 HAH HCL
    by_cases hbig : 1000 < n
    · have HF := hide (show MenuQ s (a : Int) w (.returned (.tuple #[.slice A1 n1 c1, .slice none 0 0])) w1 from ⟨A1, n1, c1, none, 0, 0, [], 0, rfl, HO1.out, ItemsO.nil _ _, Nat.le_refl _, Nat.zero_le _, (menuS_none (.inr (by rw [HL.out]; exact hbig))).symm, (fun u hu => by cases hu), (fun u hu => by cases hu), HB1.out⟩)
      go_wp2_with fail
      go_ret2
      exact HF.out
    · have hbig2 : ¬ ((1000 : Int) < (n : Int)) := by omega
      obtain ⟨o, ho⟩ : ∃ o, touchL (spansS s) (a : Int) = o := ⟨_, rfl⟩
      obtain ⟨x1, hx1⟩ : ∃ x1, tfst o = x1 := ⟨_, rfl⟩
      obtain ⟨x2, hx2⟩ : ∃ x2, tsnd o = x2 := ⟨_, rfl⟩
      have HOW := hide (show ownS s (a : Int) = (x1, x2) from by unfold ownS; rw [ho, hx1, hx2])
      have hto := touched_any S n d s a w1 (HS.out.below HB1.out) hn o ho
      unfold TouchQ at hto
      rw [hx1, hx2] at hto
      have HTO := hide hto
      clear hto ho hx1 hx2
      obtain ⟨B0, hB0⟩ : ∃ B0, w.heap.size = B0 := ⟨_, rfl⟩
      have HZ := hide hB0
      clear hB0
      go_upto_region 8 with (go_at_call 39; (with_reducible refine HTO.out.mono ?_); rintro e w2 ⟨rfl, hb2⟩)
      obtain ⟨ob, hob⟩ : ∃ ob, w2.heap.size = ob := ⟨_, rfl⟩
      have HB2 := hide ((HB1.out.trans (hb2.mono HB1.out.size)).alloc (HB1.out.trans (hb2.mono HB1.out.size)).size (.cells #[.int .i64 (x1 : Nat), .int .i64 (x2 : Nat)] 61))
      have HO2 := hide ((HO1.out.below hb2).alloc (.cells #[.int .i64 (x1 : Nat), .int .i64 (x2 : Nat)] 61))
      have HX2 := hide (Box.newAt hob 61 #[.int .i64 (x1 : Nat), .int .i64 (x2 : Nat)])
      rw [hob]
      clear hb2 HTO HO1 HB1 hob
      generalize w2.alloc (.cells #[.int .i64 (x1 : Nat), .int .i64 (x2 : Nat)] 61) = W2 at HB2 HO2 HX2 ⊢
      go_upto_region 9 with (go_at_call 11; (with_reducible refine (tnew_all _).mono ?_); rintro e w3 ⟨t, rfl, hT3, hb3⟩)
      obtain ⟨B1, hB1⟩ : ∃ B1, W2.heap.size = B1 := ⟨_, rfl⟩
      rw [hB1] at hT3
      have HT3 := hide hT3
      have HB3 := hide (HB2.out.trans (hb3.mono HB2.out.size))
      have HO3 := hide (HO2.out.below hb3)
      have HX3 := hide (HX2.out.below hb3)
      have HOL := hide (show ∀ g, blk A1 = some g → g < B1 from fun g hg => by rw [← hB1]; exact (HO2.out.blk_ge g hg).2)
      have HBS := hide (show B1 ≤ w3.heap.size from by rw [← hB1]; exact hb3.size)
      have HWB := hide (show w.heap.size ≤ B1 from by rw [← hB1]; exact HB2.out.size)
      clear hT3 hb3 hB1 HB2 HO2 HX2
      go_wp2_with (go_at_call 34; (with_reducible refine (spans_any S n d s _ (HS.out.below HB3.out) hn).mono ?_); rintro e w4 ⟨A4, m4, d4, rfl, hO4, hb4⟩)
      have HT4 := hide (HT3.out.below hb4)
      have HB4 := hide (HB3.out.trans (hb4.mono HB3.out.size))
      have HO4 := hide (HO3.out.below hb4)
      have HX4 := hide (HX3.out.below hb4)
      have HSP := hide hO4
      have HBS4 := hide (Nat.le_trans HBS.out hb4.size)
      have HSL := hide (show (spansS s).length = m4 from hO4.len)
      have hm4 : m4 ≤ 1000 := by have h1 := spans_len (s := s); have h2 := HSL.out; have h3 := HL.out; omega
      clear hO4 hb4 HT3 HB3 HO3 HX3 HBS
      go_wp2_with fail
      go_loopw [40] (fun s40 wx => ∃ (i : Nat) (L : List Itm), i ≤ m4 ∧ s40 = .int .i64 i ∧ Hid (TrieB wx B1 t (1000 * i) L) ∧ Hid (L = ((spansS s).take i).foldl (stepA s (x1, x2)) []) ∧ Hid (Calm B1 w4 wx)) (fun s40 _ => m4 - (intOf s40).toNat)
      case atStart => exact ⟨0, [], Nat.zero_le _, rfl, HT4.out, by rw [List.take_zero]; rfl, Calm.of_below (Below.refl _ _) HBS4.out⟩
      case round =>
        obtain ⟨i, L, hi, rfl, HT, HLQ, HC⟩ := hrel
        by_cases hlt : i < m4
        · obtain ⟨p, hp⟩ : ∃ p, (spansS s)[i]? = some p := ⟨_, List.getElem?_eq_getElem (by rw [HSL.out]; exact hlt)⟩
          obtain ⟨g, hg4, h1, h2⟩ := SpO.at_ (HC.out.rowG HSP.out (by decide) (by decide)) hp
          have i0 : (0 : Int) ≤ (i : Int) := by omega
          have i1 : (i : Int) < (m4 : Int) := by omega
          obtain ⟨xb, hxb⟩ : ∃ xb, wr.heap.size = xb := ⟨_, rfl⟩
          have HXB := hide (Box.newAt hxb 61 #[.int .i64 (p.1 : Nat), .int .i64 (p.2 : Nat)])
          have hbx := (Below.refl wr.heap.size wr).alloc (Nat.le_refl _) (.cells #[.int .i64 (p.1 : Nat), .int .i64 (p.2 : Nat)] 61)
          have HC2 := hide (HC.out.trans (Calm.of_below hbx (Nat.le_trans HBS4.out HC.out.size)))
          have HT2 := hide (HT.out.below hbx)
          have hwp := (spans_ok s).word p (List.mem_of_getElem? hp)
          have HP := hide hp
          have hp1 : p.1 < p.2 := hwp.1.lt
          have hp2 : p.2 ≤ n := by have h1 := hwp.1.le; have h2 := HL.out; omega
          clear hp hbx hwp HC HT
          subst hg4
          go_upto_region 12 with fail
          generalize wr.alloc (.cells #[.int .i64 (p.1 : Nat), .int .i64 (p.2 : Nat)] 61) = W5 at HXB HC2 HT2 ⊢
          clear h1 h2 hxb
          obtain ⟨⟨c0, c1⟩, -⟩ := HXB.out.c2
          obtain ⟨⟨o0, o1⟩, -⟩ := (HC2.out.box (HX4.out) (by decide) (by decide)).c2
          by_cases hpo : p = (x1, x2)
          · have q1 : p.1 = x1 := by rw [hpo]
            have q2 : p.2 = x2 := by rw [hpo]
            have HLN := hide (show L = ((spansS s).take (i + 1)).foldl (stepA s (x1, x2)) [] from by rw [foldl_next HP.out, ← HLQ.out, step_own hpo])
            have HT6 := hide (TrieB.upM HT2.out (K' := 1000 * (i + 1)) (by omega))
            clear hpo HLQ
            go_wp2_with fail
            go_roundw
            case rel => exact ⟨i + 1, L, by omega, by go_num, HT6.out, HLN.out, HC2.out⟩
            case measure => simp [intOf]; omega
          · obtain ⟨k, hk⟩ : ∃ k, p.2 - p.1 = k := ⟨_, rfl⟩
            have HLN := hide (show addL L (wdS s p) = ((spansS s).take (i + 1)).foldl (stepA s (x1, x2)) [] from by rw [foldl_next HP.out, ← HLQ.out, step_new hpo])
            have HR := hide (show Runes W5 (sub S d p.1) k (wdS s p) from by
              unfold wdS
              rw [hk]
              exact Runes.mid (HC2.out.runes (HS.out.below HB4.out)) (by omega) hd)
            have hsl : ∀ W, (Instr.slice 29 (.slice S n d) (some (.int .i64 (p.1 : Nat))) (some (.int .i64 (p.2 : Nat))) none).run Try.prog W = .ok (.slice (sub S d p.1) k (d - p.1)) W := fun W => by
              rw [show ((p.2 : Nat) : Int) = (p.1 : Int) + (k : Int) by omega]
              exact run_sub_lh S n d p.1 k (by omega) W
            have hk2 : k ≤ 1000 := by omega
            have HAD := hide (tadd_any (c := d - p.1) HT2.out HR.out (by omega) (Nat.le_trans HBS4.out HC2.out.size) (by omega))
            have hq : p.1 ≠ x1 ∨ (p.1 = x1 ∧ p.2 ≠ x2) := by
              by_cases q1 : p.1 = x1
              · exact .inr ⟨q1, fun q2 => hpo (by rw [← q1, ← q2])⟩
              · exact .inl q1
            clear hpo HLQ hk HXB HP
            obtain ⟨y1, y2⟩ := p
            dsimp only at *
            rcases hq with q1 | ⟨q1, q2⟩
            case' inr => subst q1
            all_goals
              go_wp2_with (go_at_call 18; (with_reducible refine HAD.out.mono ?_); rintro e w6 ⟨rfl, hc6, h6⟩)
              have HT6 := hide (show TrieB w6 B1 t (1000 * (i + 1)) _ from by rw [Nat.mul_add]; exact h6)
              have HC6 := hide (HC2.out.trans hc6)
              clear hc6 h6 HT2 HC2
              go_roundw
              case rel => exact ⟨i + 1, _, by omega, by go_num, HT6.out, HLN.out, HC6.out⟩
              case measure => simp [intOf]; omega
        · obtain rfl : i = m4 := by omega
          have hall : L = allW s (x1, x2) := by
            rw [HLQ.out, List.take_of_length_le (by rw [HSL.out]; exact Nat.le_refl _)]
            rfl
          have hmen : menuS s (a : Int) = (topL (withB L (preS s (a : Int)))).take 50 := by
            rw [menuS_some H0.out (by rw [HL.out]; omega), HOW.out, hall]
          have HME := hide hmen
          have HPO := hide (HC.out.own HO4.out)
          have hn1 : n1 ≤ 1000 := by
            have h1 := HPO.out.len
            unfold preS at h1
            rw [HM.out, List.length_take, List.length_drop] at h1
            have h2 := HL.out
            omega
          have HWI := hide (twith_any (c := c1) HT.out HPO.out.runes (by omega) (by omega))
          have HSM := hide HT.out.1
          have HBR := hide (Nat.le_trans HBS4.out HC.out.size)
          have HB5 := hide (HB4.out.trans (HC.out.low.mono HWB.out))
          clear hall hmen HLQ HT HC
          go_upto_region 16 with (go_at_call 24; (with_reducible refine HWI.out.mono ?_); rintro e w7 ⟨Ao, no, co, us, rfl, hO7, hu7, hb7⟩)
          have HO7 := hide hO7
          have HB7 := hide (HB5.out.trans (hb7.mono HB5.out.size))
          have HP7 := hide (HPO.out.below hb7)
          have HBW := hide (show BagW (us.map IV.itm) from by rw [hu7]; exact HSM.out.bag.with_ _)
          have hin : ∀ u ∈ us, (u.t, u.k) ∈ L := fun u hu => by
            have h1 := List.mem_map_of_mem (f := IV.itm) hu
            rw [hu7] at h1
            exact (mem_withB.1 h1).1
          have HUK := hide (show ∀ u ∈ us, u.k ≤ 1000000 from fun u hu => by
            have h1 := hin u hu
            have h2 := cntB_mem HSM.out.bag h1
            have h3 := cnt_le_all L u.t
            have h4 := HSM.out.all
            dsimp only at h2
            omega)
          have HUN := hide (show ∀ u ∈ us, u.n ≤ 1000 from fun u hu => by
            have h1 := HSM.out.len _ (hin u hu)
            have h2 := (hO7.own u hu).len
            dsimp only at h1
            omega)
          have hno : no ≤ 1000 := by
            have h1 := congrArg List.length hu7
            rw [List.length_map, hO7.len] at h1
            have h2 : (withB L (preS s (a : Int))).length ≤ L.length := List.length_filter_le _ _
            have h3 := len_le_all HSM.out.bag
            have h4 := HSM.out.all
            omega
          have HU7 := hide hu7
          have HST := hide (sortItems_any wr.heap.size no co Ao us w7 hO7 HBW.out HUK.out (by omega) hb7.size)
          have HSZ := hide hb7.size
          clear hO7 hu7 hb7 hin HWI HPO
          go_upto_region 17 with (go_at_call 61; (with_reducible refine HST.out.mono ?_); rintro e w8 ⟨rfl, hb8, hg8, us8, hO8, hu8, hm8⟩)
          have HB8 := hide (HB7.out.trans (hb8.mono HB5.out.size))
          have HP8 := hide (own_turned HO7.out.row hg8 HP7.out)
          have HO8 := hide hO8
          have HAP := hide (show ∀ u ∈ us8, Apart A1 u.A from fun u hu => apart_of HOL.out fun g hg => Nat.le_trans HBR.out ((hO8.own u hu).blk_ge g hg).1)
          have HUN8 := hide (show ∀ u ∈ us8, u.n ≤ 1000 from fun u hu => HUN.out u (hm8 u hu))
          have HU8 := hide (show us8.map IV.itm = topL (withB L (preS s (a : Int))) from by rw [hu8, HU7.out])
          have hco := hO8.row.cap
          have HLE := hide (Nat.le_trans HB5.out.size (Nat.le_refl _))
          clear hb8 hg8 hO8 hu8 hm8 HST HSZ HP7 HO7 HB7
          obtain ⟨k, hk⟩ : ∃ k, min no 50 = k := ⟨_, rfl⟩
          have hsl := run_item_hm Ao no co k (by omega) hco.1
          have hmin : min (no : Int) 50 = (k : Int) := by omega
          have HF := hide (fun q => show MenuQ s (a : Int) w (.returned (.tuple #[.slice A1 n1 c1, .slice Ao k k])) (w8.drewN q) from ⟨A1, n1, c1, Ao, no, co, us8, k, rfl, HP8.out.drewN q, (HO8.out.mono HLE.out).below (below_drewN2 (Below.refl _ _) q), by omega, hno, by
            rw [HME.out, ← HU8.out, List.map_take]
            rw [← hk]
            by_cases h : no ≤ 50
            · rw [show min no 50 = no by omega, List.take_of_length_le (by rw [List.length_map, HO8.out.len]; exact Nat.le_refl _), List.take_of_length_le (by rw [List.length_map, HO8.out.len]; exact h)]
            · rw [show min no 50 = 50 by omega], HAP.out, HUN8.out, below_drewN2 HB8.out q⟩)
          clear hk
          go_big_quiet (fail)
          go_wp2_with fail
          go_ret2
          exact HF.out _
end Go.Proofs.Ytchcpeenpijekaa

/- The contract of standishref1.Less. -/
namespace Go.Proofs.Ytchcpeenpijekaa
open Go.RowKit
set_option linter.unusedVariables false

set_option maxHeartbeats 2000000 in
theorem rless_any (A B : Option Addr) (n c m d : Nat) (a b : List Int) (w : World) (ha : Runes w A n a) (hb : Runes w B m b) (hn : n ≤ 9223372036854775807) (hm : m ≤ 9223372036854775807) :
    Calls Try.prog 29 #[.slice A n c, .slice B m d] w fun e w' => e = .returned (.bool (lessS a b)) ∧ ∃ q, w' = w.drewN q := by
  have HA := hide ha.len
  have HB := hide hb.len
  go_enter Try.func29, Try.ntmps29
  go_wp2_with fail
  go_loopw [5] (fun i wr => ∃ k q : Nat, k ≤ n ∧ k ≤ m ∧ i = .int .i64 k ∧ wr = w.drewN q ∧ Hid (lessS (a.drop k) (b.drop k) = lessS a b)) (fun i _ => n - (intOf i).toNat)
  case atStart => exact ⟨0, 0, Nat.zero_le _, Nat.zero_le _, rfl, rfl, rfl⟩
  case round =>
    obtain ⟨k, q, hk, hk2, rfl, rfl, hj⟩ := hrel
    have hgo : (k < n ∧ k < m) ∨ k = n ∨ (k < n ∧ k = m) := by omega
    rcases hgo with ⟨hlt, hlt2⟩ | hgo
    · obtain ⟨ab, ao, rfl, hc⟩ := ha.at_ k hlt
      obtain ⟨bb, bo, rfl, hd⟩ := hb.at_ k hlt2
      have HT := hide (less_drop (a := a) (b := b) (k := k) (by rw [HA.out]; exact hlt) (by rw [HB.out]; exact hlt2))
      have i0 : (0 : Int) ≤ (k : Int) := by omega
      have i1 : (k : Int) < (n : Int) := by omega
      have i2 : (k : Int) < (m : Int) := by omega
      generalize nth a k = x at hc HT
      generalize nth b k = y at hd HT
      by_cases hs : x = y
      · have HS := hide hs
        have hs' : (x != y) = false := by rw [hs]; simp
        clear hs
        go_wp2_with fail
        go_quiet (fail)
        go_wp2
        go_roundw
        case rel => exact ⟨k + 1, _, by omega, by omega, by go_num, rfl, by
          have h1 := HT.out
          rw [if_pos HS.out] at h1
          exact h1.symm.trans hj.out⟩
        case measure => simp [intOf]; omega
      · have HS := hide hs
        have hs' : (x != y) = true := by simpa using hs
        clear hs
        go_wp2_with fail
        go_quiet (fail)
        go_wp2
        go_quiet (fail)
        go_wp2
        go_ret
        refine ⟨retB ?_, _, (congrArg (World.drewN · _) (World.drewN_drewN _ _ _)).trans (World.drewN_drewN _ _ _)⟩
        rw [← hj.out, HT.out, if_neg HS.out]
    · have HE := hide (less_end (a := a) (b := b) (k := k) (by rw [HA.out]; exact hk) (by rw [HB.out]; exact hk2) (by rcases hgo with h | h; exact .inl (by rw [HA.out]; exact h); exact .inr (by rw [HB.out]; exact h.2)))
      have HF := hide (show decide (n < m) = lessS a b by rw [← hj.out, HE.out, HA.out, HB.out])
      rcases hgo with hgo | hgo
      all_goals go_wp2
      all_goals go_ret
      all_goals first | exact ⟨retB (by rw [← HF.out, decide_eq_decide]; omega), _, rfl⟩ | exact ⟨retB (by rw [← HF.out, decide_eq_decide]), _, rfl⟩ | exact ⟨retB (by rw [← HF.out]), _, rfl⟩
end Go.Proofs.Ytchcpeenpijekaa
