/- Pieces, joined: MenR. -/
import Derived.Test.YtchcpeenpijekaaQ22
import Derived.Test.YtchcpeenpijekaaQ31

/- The contract of the reference's Menu. -/
namespace Go.Proofs.Ytchcpeenpijekaa
open Go.RowKit Go.Maps Go.MapKept Go.ChangeMaps Go.Shelf
set_option linter.unusedVariables false

set_option maxHeartbeats 2000000 in
theorem better_any (u v : IV) (w : World) (hu : Runes w u.A u.n u.t) (hv : Runes w v.A v.n v.t) (hun : u.n ≤ 1000) (hvn : v.n ≤ 1000) :
    Calls Try.prog 72 #[.agg #[.slice u.A u.n u.c, .int .i64 (u.k : Nat)], .agg #[.slice v.A v.n v.c, .int .i64 (v.k : Nat)]] w fun e w' => e = .returned (.bool (betB u.itm v.itm)) ∧ Below w.heap.size w w' := by
  have hb := ((Below.refl w.heap.size w).alloc (Nat.le_refl _) (.cells #[.slice u.A u.n u.c, .int .i64 (u.k : Nat)] 49)).alloc (by simp) (.cells #[.slice v.A v.n v.c, .int .i64 (v.k : Nat)] 49)
  have HB := hide hb
  have HLS := hide (rless_any u.A v.A u.n u.c v.n v.c u.t v.t _ (hu.below hb) (hv.below hb) (by omega) (by omega))
  clear hu hv hb
  rcases Nat.lt_trichotomy v.k u.k with h | h | h
  · have HE := hide (show betB u.itm v.itm = true from betB_iff.2 (.inl h))
    go_enter Try.func72, Try.ntmps72
    go_wp2_with fail
    go_ret
    exact ⟨by rw [HE.out]; rfl, HB.out⟩
  · have HE := hide (show betB u.itm v.itm = lessS u.t v.t from by
      unfold betB IV.itm
      dsimp only
      rw [h]
      simp)
    obtain ⟨Au, nu, cu, ku, tu⟩ := u
    obtain ⟨Av, nv, cv, kv, tv⟩ := v
    dsimp only at *
    subst h
    have h2 : ((kv : Int) == (kv : Int)) = true := by simp
    go_enter Try.func72, Try.ntmps72
    go_wp2_with (go_at_call 29; (with_reducible refine HLS.out.mono ?_); rintro e w5 ⟨rfl, q, rfl⟩)
    go_ret
    exact ⟨by rw [HE.out]; first | rfl | simp, HB.out.trans ((lt_drewN _ q).mono HB.out.size)⟩
  · have HE := hide (show betB u.itm v.itm = false from by
      cases hb : betB u.itm v.itm
      · rfl
      · rw [betB_iff] at hb
        unfold IV.itm at hb
        dsimp only at hb
        rcases hb with h1 | ⟨h1, _⟩ <;> omega)
    have h1 : ¬ v.k < u.k := by omega
    have h2 : ((u.k : Int) == (v.k : Int)) = false := by simp; omega
    have h3 : ¬ u.k = v.k := by omega
    go_enter Try.func72, Try.ntmps72
    go_wp2_with fail
    go_ret
    exact ⟨by rw [HE.out]; rfl, HB.out⟩

theorem CalmB.rowG {w w' : World} {B B' : Nat} (h : CalmB B w w') {et : TypeId} {sz n c : Nat} {A : Option Addr} {vs : List (List Value)} (ho : RowG w et sz B' A n c vs) (h1 : et ≠ 28) (h2 : et ≠ 49) : RowG w' et sz B' A n c vs :=
  ho.keep fun g e => by
    obtain ⟨cur, hc⟩ := ho.obj e
    exact (h.keep hc fun cs ty k e => by
      injection e with _ e
      subst e
      exact ⟨h1, h2⟩).trans hc.symm
theorem stepR_own {s : List Int} {own : Nat × Nat} {pre : List Int} {L : List Itm} {p : Nat × Nat} (h : p = own) : stepR s own pre L p = L := if_pos h
theorem stepR_new {s : List Int} {own : Nat × Nat} {pre : List Int} {L : List Itm} {p : Nat × Nat} (h : p ≠ own) : stepR s own pre L p = if begS (wdS s p) pre = true then addL L (wdS s p) else L := if_neg h
theorem foldl_next2 {α β : Type} {f : β → α → β} {l : List α} {b : β} {i : Nat} {x : α} (h : l[i]? = some x) : (l.take (i + 1)).foldl f b = f ((l.take i).foldl f b) x := by
  obtain ⟨hi, rfl⟩ := List.getElem?_eq_some_iff.1 h
  rw [List.take_succ_eq_append_getElem hi, List.foldl_append]
  rfl
/-- The bag behind the first loop. -/
def BagQ (s : List Int) (x1 x2 : Nat) (pre : List Int) (B1 gb : Nat) (w0 : World) (wx : World) : Prop := ∃ M, M = someW s (x1, x2) pre ∧ BagM (fun _ => True) wx B1 gb M ∧ Small M ∧ CalmB B1 w0 wx
theorem small_step {s : List Int} {own : Nat × Nat} {pre : List Int} {M : List Itm} (h : Small M) (p : Nat × Nat) : Small (stepR s own pre M p) := by
  unfold stepR
  split
  · exact h
  · split
    · exact h.add _
    · exact h
theorem RowG.itm_at {w : World} {B n c j : Nat} {A : Option Addr} {us : List IV} {u : IV} (h : RowG w 49 2 B A n c (us.map IV.cells)) (hu : us[j]? = some u) : ∃ g, A = some ⟨g, 0, none⟩ ∧ w.cell? ⟨g, j * 2, none⟩ = some (.slice u.A u.n u.c) ∧ w.cell? ⟨g, j * 2 + 1, none⟩ = some (.int .i64 (u.k : Nat)) := by
  have hv : (us.map IV.cells)[j]? = some u.cells := by rw [List.getElem?_map, hu]; rfl
  obtain ⟨g, e, h1, _⟩ := h.cell (i := 0) hv (by omega) rfl
  obtain ⟨g2, e2, h2, _⟩ := h.cell (i := 1) hv (by omega) rfl
  rw [e] at e2
  injection e2 with e2
  injection e2 with e2
  subst e2
  rw [Nat.add_zero] at h1
  exact ⟨g, e, h1, h2⟩
theorem keepN_succ {x : Itm} {l : List Itm} {k : Nat} {y : Itm} (hy : l[k]? = some y) : keepN x l (k + 1) = if betB x y = true then keepN x l k else k + 1 := by
  rw [keepN, hy]
/-- What is out of the second loop: items put in one by one. -/
structure OutQ (w0 wx : World) (A : Option Addr) (i c : Nat) (us : List IV) (M : List Itm) : Prop where
  row : RowG wx 49 2 w0.heap.size A i c (us.map IV.cells)
  eq : us.map IV.itm = (M.take i).foldl insI []
  rd : Rd wx us
  sz : ∀ u ∈ us, u.n ≤ 1000
  below : Below w0.heap.size w0 wx
theorem insI_map {us : List IV} {u : IV} : ((us.take (keepN u.itm (us.map IV.itm) us.length)) ++ [u] ++ us.drop (keepN u.itm (us.map IV.itm) us.length)).map IV.itm = insI (us.map IV.itm) u.itm := by
  unfold insI
  rw [List.length_map, List.map_append, List.map_append, List.map_take, List.map_drop]
  rfl
def MenuM (s : List Int) (at_ : Int) (w : World) (e : Ending) (w' : World) : Prop := ∃ A n c Ao no co us, e = .returned (.tuple #[.slice A n c, .slice Ao no co]) ∧ Runes w' A n (preS s at_) ∧ ItemsM w' Ao no us ∧ Rd w' us ∧ no ≤ 1000 ∧ us.map IV.itm = menuS s at_ ∧ (∀ u ∈ us, u.n ≤ 1000) ∧ Below w.heap.size w w'
theorem ItemsM.nil (w : World) : ItemsM w none 0 [] := ⟨rfl, fun j u hu => by simp at hu⟩
theorem rpre_none {s : List Int} {at_ : Int} (h : aheadS s at_ = 0) : preS s at_ = [] := by unfold preS; rw [h, List.take_zero]
theorem rahead_le {s : List Int} {at_ : Int} (h : aheadS s at_ ≠ 0) : ∃ a m f : Nat, at_ = (a : Int) ∧ aheadS s at_ = m ∧ a = f + m ∧ a ≤ s.length ∧ 0 < m ∧ preS s at_ = (s.drop f).take m := by
  by_cases hc : 0 ≤ at_ ∧ at_ ≤ s.length
  · have h1 : aheadS s at_ = aheadN s at_.toNat := if_pos hc
    have h2 := aheadN_le s at_.toNat
    refine ⟨at_.toNat, aheadS s at_, at_.toNat - aheadS s at_, by omega, rfl, by omega, by omega, by omega, rfl⟩
  · exact absurd (if_neg hc) h

set_option maxRecDepth 100000 in
set_option maxHeartbeats 4000000 in
theorem rmenu_any (S : Option Addr) (n d : Nat) (s : List Int) (at_ : Int) (w : World) (h : Runes w S n s) (hn : n ≤ 1000000) (hd : n ≤ d) (hdm : d ≤ 9223372036854775807) :
    Calls Try.prog 57 #[.slice S n d, .int .i64 at_] w (MenuM s at_ w) := by
  have HS := hide h
  have HL := hide h.len
  have hah := rahead_any S n d at_ s w h (by omega)
  clear h
  by_cases h0 : aheadS s at_ = 0
  · rw [h0] at hah
    have HAH := hide (show Calls Try.prog 59 #[.slice S n d, .int .i64 at_] w fun e w' => e = .returned (.int .i64 0) ∧ w = w' from hah)
    have HF := hide (show MenuM s at_ w (.returned (.tuple #[.slice none 0 0, .slice none 0 0])) w from ⟨none, 0, 0, none, 0, 0, [], rfl, by rw [rpre_none h0]; exact Runes.nil _ _, ItemsM.nil _, (fun u hu => by cases hu), Nat.zero_le _, (menuS_none (.inl h0)).symm, (fun u hu => by cases hu), Below.refl _ _⟩)
    clear hah h0
    go_enter Try.func57, Try.ntmps57
    go_wp2_with (go_at_call 59; (with_reducible refine HAH.out.mono ?_); rintro e w5 ⟨rfl, rfl⟩)
    go_ret2
    exact HF.out
  · obtain ⟨a, m, f, rfl, hm, ha, hal, hm0, hpre⟩ := rahead_le h0
    rw [HL.out] at hal
    rw [hm] at hah
    have HAH := hide hah
    have HM := hide hm
    have hsl : ∀ W, (Instr.slice 29 (.slice S n d) (some (.int .i64 (f : Int))) (some (.int .i64 (a : Int))) none).run Try.prog W = .ok (.slice (sub S d f) m (d - f)) W := fun W => by
      rw [show (a : Int) = (f : Int) + (m : Int) by omega]
      exact run_sub_lh S n d f m (by omega) W
    have v1 : IntKind.i64.wrap ((a : Int) - (m : Int)) = (f : Int) := by rw [IntWalk.i64_in _ (by omega)]; omega
    have v2 : (a : Int) - (m : Int) = (f : Int) := by omega
    have e1 : ((m : Int) == 0) = false := by simp; omega
    have e2 : ¬ m = 0 := by omega
    have HPR := hide (show Runes w (sub S d f) m (preS s (a : Int)) from by rw [hpre]; exact HS.out.mid (by omega) hd)
    have H0 := hide h0
    have hmn : m ≤ n := by omega
    clear hah hm hpre h0 ha
    go_enter Try.func57, Try.ntmps57
    go_upto_region 5 with (first
      | (go_at_call 59; (with_reducible refine HAH.out.mono ?_); rintro e w5 ⟨rfl, rfl⟩)
      | (at_builtin; refine wpList_app0 rfl (.const (.slice none 0 0)) (.tmp 28) rfl w.heap.size rfl rfl HPR.out (by omega) (Nat.le_refl _) ?_; intro A1 c1 w1 hO1 hb1 _ _))
    have HO1 := hide hO1
    have HB1 := hide hb1
    clear hO1 hb1 hsl v1 v2 e1 e2 HAH HPR
    by_cases hbig : 1000 < n
    · have HF := hide (show MenuM s (a : Int) w (.returned (.tuple #[.slice A1 m c1, .slice none 0 0])) w1 from ⟨A1, m, c1, none, 0, 0, [], rfl, HO1.out.runes, ItemsM.nil _, (fun u hu => by cases hu), Nat.zero_le _, (menuS_none (.inr (by rw [HL.out]; exact hbig))).symm, (fun u hu => by cases hu), HB1.out⟩)
      go_wp2_with fail
      go_ret2
      exact HF.out
    · have hbig2 : ¬ ((1000 : Int) < (n : Int)) := by omega
      obtain ⟨o, ho⟩ : ∃ o, touchL (spansS s) (a : Int) = o := ⟨_, rfl⟩
      obtain ⟨x1, hx1⟩ : ∃ x1, tfst o = x1 := ⟨_, rfl⟩
      obtain ⟨x2, hx2⟩ : ∃ x2, tsnd o = x2 := ⟨_, rfl⟩
      have HOW := hide (show ownS s (a : Int) = (x1, x2) from by unfold ownS; rw [ho, hx1, hx2])
      have hto := rtouched_any S n d s a w1 (HS.out.below HB1.out) hn o ho
      unfold TouchQ at hto
      rw [hx1, hx2] at hto
      have HTO := hide hto
      clear hto ho hx1 hx2
      go_upto_region 8 with (go_at_call 56; (with_reducible refine HTO.out.mono ?_); rintro e w2 ⟨rfl, hb2⟩)
      obtain ⟨ob, hob⟩ : ∃ ob, w2.heap.size = ob := ⟨_, rfl⟩
      have HB2 := hide ((HB1.out.trans (hb2.mono HB1.out.size)).alloc (HB1.out.trans (hb2.mono HB1.out.size)).size (.cells #[.int .i64 (x1 : Nat), .int .i64 (x2 : Nat)] 61))
      have HO2 := hide ((HO1.out.below hb2).alloc (.cells #[.int .i64 (x1 : Nat), .int .i64 (x2 : Nat)] 61))
      have HX2 := hide (Box.newAt hob 61 #[.int .i64 (x1 : Nat), .int .i64 (x2 : Nat)])
      rw [hob]
      clear hb2 HTO HO1 HB1 hob
      generalize w2.alloc (.cells #[.int .i64 (x1 : Nat), .int .i64 (x2 : Nat)] 61) = W2 at HB2 HO2 HX2 ⊢
      obtain ⟨gb, hgb⟩ : ∃ gb, W2.heap.size = gb := ⟨_, rfl⟩
      have HG3 := hide (show BagM (fun _ => True) (W2.alloc (.cells #[.slice none 0 0] 28)) gb gb [] from by rw [← hgb]; exact BagM.nil W2 _ (Nat.le_refl _))
      have HB3 := hide (HB2.out.alloc HB2.out.size (.cells #[.slice none 0 0] 28))
      have HO3 := hide (HO2.out.alloc (.cells #[.slice none 0 0] 28))
      have HX3 := hide (HX2.out.alloc (.cells #[.slice none 0 0] 28))
      have HWB := hide (show w.heap.size ≤ gb from by rw [← hgb]; exact HB2.out.size)
      have HBS := hide (show gb ≤ (W2.alloc (.cells #[.slice none 0 0] 28)).heap.size from by rw [← hgb]; simp)
      go_upto_region 9 with fail
      clear hgb HB2 HO2 HX2
      generalize W2.alloc (.cells #[.slice none 0 0] 28) = w3 at HG3 HB3 HO3 HX3 HBS ⊢
      go_upto_region 10 with (go_at_call 35; (with_reducible refine (rspans_any S n d s _ (HS.out.below HB3.out) hn).mono ?_); rintro e w4 ⟨A4, m4, d4, rfl, hO4, hb4⟩)
      have HG4 := hide (show BagM (fun _ => True) w4 gb gb [] from by
        obtain ⟨A, n, c, us, h⟩ := HG3.out
        exact ⟨A, n, c, us, h.below hb4⟩)
      have HB4 := hide (HB3.out.trans (hb4.mono HB3.out.size))
      have HO4 := hide (HO3.out.below hb4)
      have HX4 := hide (HX3.out.below hb4)
      have HSP := hide hO4
      have HBS4 := hide (Nat.le_trans HBS.out hb4.size)
      have HSL := hide (show (spansS s).length = m4 from hO4.len)
      have hm4 : m4 ≤ 1000 := by have h1 := spans_len (s := s); have h2 := HSL.out; have h3 := HL.out; omega
      clear hO4 hb4 HG3 HB3 HO3 HX3 HBS
      go_wp2_with fail
      go_loopw [12] (fun s12 wx => ∃ (i : Nat) (M : List Itm), i ≤ m4 ∧ s12 = .int .i64 i ∧ Hid (BagM (fun _ => True) wx gb gb M) ∧ Hid (Small M) ∧ Hid (M = ((spansS s).take i).foldl (stepR s (x1, x2) (preS s (a : Int))) []) ∧ Hid (CalmB gb w4 wx)) (fun s12 _ => m4 - (intOf s12).toNat)
      case atStart => exact ⟨0, [], Nat.zero_le _, rfl, HG4.out, Small.nil, by rw [List.take_zero]; rfl, CalmB.of_below (Below.refl _ _) HBS4.out⟩
      case round =>
        obtain ⟨i, M, hi, rfl, HG, HSM, HLQ, HC⟩ := hrel
        by_cases hlt : i < m4
        · obtain ⟨p, hp⟩ : ∃ p, (spansS s)[i]? = some p := ⟨_, List.getElem?_eq_getElem (by rw [HSL.out]; exact hlt)⟩
          obtain ⟨g, hg4, h1, h2⟩ := SpO.at_ (HC.out.rowG HSP.out (by decide) (by decide)) hp
          obtain ⟨⟨o0, o1⟩, -⟩ := (HC.out.box (HX4.out) (by decide) (by decide)).c2
          have i0 : (0 : Int) ≤ (i : Int) := by omega
          have i1 : (i : Int) < (m4 : Int) := by omega
          have hwp := (spans_ok s).word p (List.mem_of_getElem? hp)
          have hp1 : p.1 < p.2 := hwp.1.lt
          have hp2 : p.2 ≤ n := by have h1 := hwp.1.le; have h2 := HL.out; omega
          obtain ⟨k, hk⟩ : ∃ k, p.2 - p.1 = k := ⟨_, rfl⟩
          have HR := hide (show Runes wr (sub S d p.1) k (wdS s p) from by
            unfold wdS
            rw [hk]
            exact Runes.mid (HC.out.runes (HS.out.below HB4.out)) (by omega) hd)
          have hsl : ∀ W, (Instr.slice 29 (.slice S n d) (some (.int .i64 (p.1 : Nat))) (some (.int .i64 (p.2 : Nat))) none).run Try.prog W = .ok (.slice (sub S d p.1) k (d - p.1)) W := fun W => by
            rw [show ((p.2 : Nat) : Int) = (p.1 : Int) + (k : Int) by omega]
            exact run_sub_lh S n d p.1 k (by omega) W
          have hk2 : k ≤ 1000 := by omega
          have hkc : k ≤ d - p.1 := by omega
          have HPRE := hide (show Runes wr A1 m (preS s (a : Int)) from HC.out.runes HO4.out.runes)
          have HBG := hide (show ∀ q1 q2, Calls Try.prog 30 #[.slice (sub S d p.1) k (d - p.1), .slice A1 m c1] ((wr.drewN q1).drewN q2) fun e w' => e = .returned (.bool (begS (wdS s p) (preS s (a : Int)))) ∧ ∃ q, w' = ((wr.drewN q1).drewN q2).drewN q from fun q1 q2 => begins_any _ _ _ _ _ _ _ _ _ ((HR.out.drewN q1).drewN q2) ((HPRE.out.drewN q1).drewN q2) hkc (by omega) (by omega))
          have hrp : (0 : Int) ≤ (p.1 : Int) ∧ (p.1 : Int) ≤ (p.2 : Int) ∧ (p.2 : Int) ≤ (d : Int) := by omega
          obtain ⟨r1, r2, r3⟩ := hrp
          have HP := hide hp
          clear hp hwp hk
          subst hg4
          go_upto_region 13 with fail
          go_big_quiet (fail)
          have HG5 := hide (show BagM (fun _ => True) (wr.drewN nq) gb gb M from by
            obtain ⟨A, n, c, us, h⟩ := HG.out
            exact ⟨A, n, c, us, h.below (lt_drewN wr nq)⟩)
          have HBS5 := hide (Nat.le_trans HBS4.out HC.out.low.size)
          have HC5 := hide (HC.out.trans (CalmB.of_below (lt_drewN wr nq) HBS5.out))
          have HR5 := hide (HR.out.drewN nq)
          have HBG5 := hide (HBG.out nq)
          have g1 : (wr.drewN nq).cell? ⟨g, i * 2, none⟩ = some (.int .i64 (p.1 : Nat)) := h1
          have g2 : (wr.drewN nq).cell? ⟨g, i * 2 + 1, none⟩ = some (.int .i64 (p.2 : Nat)) := h2
          have g3 : (wr.drewN nq).cell? ⟨ob, 0, none⟩ = some (.int .i64 (x1 : Nat)) := o0
          have g4 : (wr.drewN nq).cell? ⟨ob, 1, none⟩ = some (.int .i64 (x2 : Nat)) := o1
          have HZ5 := hide (show gb ≤ (wr.drewN nq).heap.size from HBS5.out)
          clear h1 h2 o0 o1 HG HC HR HBG HPRE hsl r1 r2 r3 HBS5
          generalize wr.drewN nq = W5 at HG5 HC5 HR5 HBG5 g1 g2 g3 g4 HZ5 ⊢
          by_cases hpo : p = (x1, x2)
          · have q1 : p.1 = x1 := by rw [hpo]
            have q2 : p.2 = x2 := by rw [hpo]
            have HLN := hide (show M = ((spansS s).take (i + 1)).foldl (stepR s (x1, x2) (preS s (a : Int))) [] from by rw [foldl_next2 HP.out, ← HLQ.out, stepR_own hpo])
            clear hpo HLQ
            go_wp2_with fail
            go_big_quiet (fail)
            go_wp2_with fail
            have HG6 := hide (show BagM (fun _ => True) (W5.drewN nq) gb gb M from by
              obtain ⟨A, n, c, us, h⟩ := HG5.out
              exact ⟨A, n, c, us, h.below (lt_drewN W5 nq)⟩)
            have HC6 := hide (HC5.out.trans (CalmB.of_below (lt_drewN W5 nq) HZ5.out))
            go_roundw
            case rel => exact ⟨i + 1, M, by omega, by go_num, HG6.out, HSM.out, HLN.out, HC6.out⟩
            case measure => simp [intOf]; omega
          · have hq : p.1 ≠ x1 ∨ (p.1 = x1 ∧ p.2 ≠ x2) := by
              by_cases q1 : p.1 = x1
              · exact .inr ⟨q1, fun q2 => hpo (by rw [← q1, ← q2])⟩
              · exact .inl q1
            have HLN := hide (show stepR s (x1, x2) (preS s (a : Int)) M p = ((spansS s).take (i + 1)).foldl (stepR s (x1, x2) (preS s (a : Int))) [] from by rw [foldl_next2 HP.out, ← HLQ.out])
            rw [stepR_new hpo] at HLN
            have HAD := hide (fun q => badd_any (sub S d p.1) k (d - p.1) (wdS s p) (P := fun _ => True) (show BagM (fun _ => True) (W5.drewN q) gb gb M from by
              obtain ⟨A, n, c, us, h⟩ := HG5.out
              exact ⟨A, n, c, us, h.below (lt_drewN W5 q)⟩) HSM.out (HR5.out.drewN q) HZ5.out (by omega) (fun _ _ => trivial))
            obtain ⟨z, hz⟩ : ∃ z, begS (wdS s p) (preS s (a : Int)) = z := ⟨_, rfl⟩
            rw [hz] at HLN
            rw [hz] at HBG5
            clear hpo HLQ HP hz
            obtain ⟨y1, y2⟩ := p
            dsimp only at *
            rcases hq with q1 | ⟨q1, q2⟩
            case' inr => subst q1
            all_goals
              go_wp2_with fail
              go_big_quiet ((go_at_call 30; exact Calls.quiet_of (HBG5.out _)))
              cases z
              · rw [if_neg (by decide)] at HLN
                go_wp2_with fail
                have HG6 := hide (show BagM (fun _ => True) (W5.drewN nq) gb gb M from by
                  obtain ⟨A, n, c, us, h⟩ := HG5.out
                  exact ⟨A, n, c, us, h.below (lt_drewN W5 nq)⟩)
                have HC6 := hide (HC5.out.trans (CalmB.of_below (lt_drewN W5 nq) HZ5.out))
                go_roundw
                case rel => exact ⟨i + 1, M, by omega, by go_num, HG6.out, HSM.out, HLN.out, HC6.out⟩
                case measure => simp [intOf]; omega
              · rw [if_pos rfl] at HLN
                go_wp2_with (go_at_call 19; (with_reducible refine (HAD.out _).mono ?_); rintro e w6 ⟨rfl, hc6, hg6⟩)
                have HG6 := hide hg6
                have HC6 := hide ((HC5.out.trans (CalmB.of_below (lt_drewN W5 nq) HZ5.out)).trans hc6)
                have HS6 := hide (HSM.out.add (wdS s (y1, y2)))
                clear hg6 hc6
                go_roundw
                case rel => exact ⟨i + 1, _, by omega, by go_num, HG6.out, HS6.out, HLN.out, HC6.out⟩
                case measure => simp [intOf]; omega
        · obtain rfl : i = m4 := by omega
          have HMS := hide (show M = someW s (x1, x2) (preS s (a : Int)) from by
            rw [HLQ.out, List.take_of_length_le (by rw [HSL.out]; exact Nat.le_refl _)]
            rfl)
          have HME := hide (show menuS s (a : Int) = (topL M).take 50 from by
            rw [menuS_some H0.out (by rw [HL.out]; omega), HOW.out, words_agree _ _ (by rw [HL.out]; omega), HMS.out])
          obtain ⟨A0, n0, cc0, us0, hV⟩ := HG.out
          have hsz := hV.sizes HSM.out
          have hn0 : n0 ≤ 1000 := hsz.1
          have HUN := hide hsz.2
          have HV := hide hV
          have HML := hide hV.len
          have HP9 := hide (HC.out.own HO4.out)
          have HB9 := hide (HB4.out.trans (HC.out.low.mono HWB.out))
          clear hV hsz HG HLQ HMS HC HSM HX4 HO4 HB4 HSP HSL HG4 HOW H0 hlt hi HBS4 HWB
          obtain ⟨w9, rfl⟩ : ∃ w9, w9 = wr := ⟨_, rfl⟩
          go_wp2_with fail
          go_loopw [14, 15] (fun s14 s15 wx => ∃ (i : Nat) (A : Option Addr) (c : Nat) (us : List IV), i ≤ n0 ∧ s15 = .int .i64 i ∧ s14 = .slice A i c ∧ Hid (OutQ w9 wx A i c us M)) (fun _ s15 _ => n0 - (intOf s15).toNat)
          case atStart => exact ⟨0, none, 0, [], Nat.zero_le _, rfl, rfl, RowG.nil _ _ _ _, by rw [List.take_zero]; rfl, (fun u hu => by cases hu), (fun u hu => by cases hu), Below.refl _ _⟩
          case round =>
            obtain ⟨i, A, c, us, hi, rfl, rfl, HOU⟩ := hrel
            have c0 : wr.cell? ⟨gb, 0, none⟩ = some (.slice A0 n0 cc0) := (HV.out.below HOU.out.below).box.cell 0
            by_cases hlt : i < n0
            · obtain ⟨u, b, hu, hLu, hA, hc1, hc2, -, hrd⟩ := (HV.out.below HOU.out.below).at_ hlt
              subst hA
              have hlen : us.length = i := by have := HOU.out.row.cnt; simpa using this
              obtain ⟨K, hK⟩ : ∃ K, keepN u.itm (us.map IV.itm) us.length = K := ⟨_, rfl⟩
              have hKi : K ≤ i := by rw [← hK, ← hlen]; exact keepN_le _ _ _
              have HK := hide hK
              have HLEN := hide hlen
              have i0 : (0 : Int) ≤ (i : Int) := by omega
              have i1 : (i : Int) < (n0 : Int) := by omega
              clear hK hlen
              go_upto_block 4 with fail
              obtain ⟨wo, rfl⟩ : ∃ wo, wo = wr := ⟨_, rfl⟩
              go_cut [16] (fun s16 wx => s16 = .int .i64 K ∧ Hid (Below wo.heap.size wo wx))
              case first =>
                go_wp2_with fail
                go_loopw [16] (fun s16 wx => ∃ k : Nat, k ≤ i ∧ s16 = .int .i64 k ∧ Hid (keepN u.itm (us.map IV.itm) k = K) ∧ Hid (Below wo.heap.size wo wx)) (fun s16 _ => (intOf s16).toNat)
                case atStart => exact ⟨i, Nat.le_refl _, rfl, by have h := HK.out; rw [HLEN.out] at h; exact h, Below.refl _ _⟩
                case round =>
                  obtain ⟨k, hk, rfl, HKK, HB⟩ := hrel
                  by_cases hk0 : 0 < k
                  · obtain ⟨j, hj⟩ : ∃ j, k = j + 1 := ⟨k - 1, by omega⟩
                    obtain ⟨v, hv⟩ : ∃ v, us[j]? = some v := ⟨_, List.getElem?_eq_getElem (by rw [HLEN.out]; omega)⟩
                    have hrow := HOU.out.row.below HB.out
                    obtain ⟨go, hgo, d1, d2⟩ := RowG.itm_at hrow hv
                    have hvL : (us.map IV.itm)[j]? = some v.itm := by rw [List.getElem?_map, hv]; rfl
                    have hkk := HKK.out
                    rw [hj, keepN_succ hvL] at hkk
                    have HBT := hide (fun W (hb : Below wr.heap.size wr W) => better_any u v W ((hrd.below HB.out).below hb) (((HOU.out.rd v (List.mem_of_getElem? hv)).below HB.out).below hb) (HUN.out u (List.mem_of_getElem? hu)) (HOU.out.sz v (List.mem_of_getElem? hv)))
                    have y0 : (0 : Int) ≤ (j : Int) := by omega
                    have y1 : (j : Int) < (i : Int) := by omega
                    have v3 : IntKind.i64.wrap ((k : Int) - 1) = (j : Int) := by rw [IntWalk.i64_in _ (by omega)]; omega
                    have e0 : wr.cell? ⟨gb, 0, none⟩ = some (.slice (some ⟨b, 0, none⟩) n0 cc0) := (HB.out.cell (p := ⟨gb, 0, none⟩) (World.block_lt_of_cell? _ _ c0)).trans c0
                    have e1 : wr.cell? ⟨b, i * 2, none⟩ = some (.slice u.A u.n u.c) := (HB.out.cell (p := ⟨b, i * 2, none⟩) (World.block_lt_of_cell? _ _ hc1)).trans hc1
                    have e2 : wr.cell? ⟨b, i * 2 + 1, none⟩ = some (.int .i64 (u.k : Nat)) := (HB.out.cell (p := ⟨b, i * 2 + 1, none⟩) (World.block_lt_of_cell? _ _ hc2)).trans hc2
                    have HJ := hide hj
                    have HFR := hide (fun W (hb : Below wr.heap.size wr W) => show W.cell? ⟨gb, 0, none⟩ = some (.slice (some ⟨b, 0, none⟩) n0 cc0) ∧ W.cell? ⟨b, i * 2, none⟩ = some (.slice u.A u.n u.c) ∧ W.cell? ⟨b, i * 2 + 1, none⟩ = some (.int .i64 (u.k : Nat)) ∧ W.cell? ⟨go, j * 2, none⟩ = some (.slice v.A v.n v.c) ∧ W.cell? ⟨go, j * 2 + 1, none⟩ = some (.int .i64 (v.k : Nat)) from
                      ⟨(hb.cell (p := ⟨gb, 0, none⟩) (World.block_lt_of_cell? _ _ e0)).trans e0, (hb.cell (p := ⟨b, i * 2, none⟩) (World.block_lt_of_cell? _ _ e1)).trans e1, (hb.cell (p := ⟨b, i * 2 + 1, none⟩) (World.block_lt_of_cell? _ _ e2)).trans e2, (hb.cell (p := ⟨go, j * 2, none⟩) (World.block_lt_of_cell? _ _ d1)).trans d1, (hb.cell (p := ⟨go, j * 2 + 1, none⟩) (World.block_lt_of_cell? _ _ d2)).trans d2⟩)
                    obtain ⟨z, hz⟩ : ∃ z, betB u.itm v.itm = z := ⟨_, rfl⟩
                    rw [hz] at hkk HBT
                    have HKZ := hide hkk
                    clear hj hrow hv hvL hkk hz HKK hu hLu c0 hc1 hc2 hrd
                    subst hgo
                    go_wp2_with fail
                    go_region_held3 (fun w' => w'.cell? ⟨gb, 0, none⟩ = some (.slice (some ⟨b, 0, none⟩) n0 cc0) ∧ w'.cell? ⟨b, i * 2, none⟩ = some (.slice u.A u.n u.c) ∧ w'.cell? ⟨b, i * 2 + 1, none⟩ = some (.int .i64 (u.k : Nat)) ∧ w'.cell? ⟨go, j * 2, none⟩ = some (.slice v.A v.n v.c) ∧ w'.cell? ⟨go, j * 2 + 1, none⟩ = some (.int .i64 (v.k : Nat)))
                      (first | go_keep)
                      (first
                       | (go_at_call 72; (with_reducible refine (HBT.out _ (Below.refl _ _).drew).mono ?_); rintro e w5 ⟨rfl, hb5⟩
                          have HB5 := hide ((Below.refl wr.heap.size wr).drew.trans hb5)
                          clear hb5
                          obtain ⟨k0, k1, k2, k3, k4⟩ := HFR.out _ HB5.out))
                    clear v3 e0 e1 e2 d1 d2 k0 k1 k2 k3 k4 HBT HFR
                    cases z
                    · have HKE := hide (show K = k from by have h := HKZ.out; rw [if_neg (by decide)] at h; have := HJ.out; omega)
                      go_wp2_with fail
                      go_meet
                      exact ⟨by rw [HKE.out], HB.out.trans (HB5.out.mono HB.out.size)⟩
                    · have HKE := hide (show keepN u.itm (us.map IV.itm) j = K from by have h := HKZ.out; rw [if_pos rfl] at h; exact h)
                      go_wp2_with fail
                      go_roundw
                      case rel => exact ⟨j, by have := HJ.out; omega, by have := HJ.out; first | rfl | (congr 1; omega), HKE.out, HB.out.trans (HB5.out.mono HB.out.size)⟩
                      case measure => have := HJ.out; simp [intOf]; omega
                  · obtain rfl : k = 0 := by omega
                    have hKz : K = 0 := HKK.out.symm
                    have HKZ := hide hKz
                    clear hKz HKK
                    go_wp2_with fail
                    go_big_quiet (fail)
                    go_wp2_with fail
                    go_meet
                    exact ⟨by rw [HKZ.out], HB.out.trans ((lt_drewN wr _).mono HB.out.size)⟩
              case rest =>
              obtain ⟨rfl, HBC⟩ := hcut
              have hcap := HOU.out.row.cap
              have hsh := fun W => run_subT_h A i c K (by omega) W
              have hsl := fun W => run_subT_l A i c K hKi W
              have HRC := hide (HOU.out.row.below HBC.out)
              have HVC := hide ((HV.out.below HOU.out.below).below HBC.out)
              have HBW := hide (HOU.out.below.trans (HBC.out.mono HOU.out.below.size))
              have HU := hide hu
              have k0 : (0 : Int) ≤ (K : Int) := by omega
              have k1 : (K : Int) ≤ (i : Int) := by omega
              have k2 : (K : Int) ≤ (c : Int) := by omega
              clear hu hc1 hc2 hrd c0
              go_upto_region 24 with (at_builtin; refine wpList_appT0 rfl (.const (.slice none 0 0)) (.tmp 108) rfl rfl rfl (ItemsM.take (RowG.items HRC.out) hKi) (by omega) ?_; intro A1 c1 w1 hr1 hb1)
              have HR1 := hide hr1
              have HB1 := hide hb1
              have HV1 := hide (HVC.out.below hb1)
              clear hr1 hb1 hsh
              have e0 : w1.cell? ⟨gb, 0, none⟩ = some (.slice (some ⟨b, 0, none⟩) n0 cc0) := HV1.out.box.cell 0
              obtain ⟨u', b', hu', -, hA', e1, e2, -, -⟩ := HV1.out.at_ hlt
              obtain rfl : u' = u := by have h := HU.out; rw [hu'] at h; exact Option.some.inj h
              injection hA' with hA'
              injection hA' with hA'
              subst hA'
              clear hu'
              go_upto_region 25 with (at_builtin; refine wpList_appG itemT rfl (.tmp 110) (.tmp 118) rfl wc.heap.size rfl (HR1.out.alloc _) (m := 1) (d := 1) rfl (us := [IV.cells u']) (news_box (cs := (IV.cells u').toArray) (Box.new _ _ _)) (Each.one (IV.one _).1 (IV.one _).2) rfl (by omega) (by omega) (by omega) (by have h1 := HB1.out.size; simp; omega) ?_; intro g3 c3 w3 hrow3 hg3 hb3 _)
              have HB3 := hide ((HB1.out.alloc HB1.out.size (.cells (IV.cells u').toArray 49)).trans hb3)
              have HR3 := hide hrow3
              have HI3 := hide (ItemsM.sub (RowG.items (HRC.out.below HB3.out)) hKi hcap.1)
              clear hrow3 hg3 hb3 e0 e1 e2 HR1 HB1 HV1
              have hk1 : K + 1 + (i - K) ≤ 1000000 := by omega
              go_wp2_with (at_builtin; refine wpList_appT rfl (.tmp 120) (.tmp 123) rfl wc.heap.size rfl HR3.out rfl HI3.out hk1 HB3.out.size ?_; intro A4 c4 w4 hrow4 hg4 _)
              have hB4 := HB3.out.grown hg4 HB3.out.size fun b e => (HR3.out.blk_ge b e).1
              have HX := hide (show OutQ w9 w4 A4 (i + 1) c4 (us.take K ++ [u'] ++ us.drop K) M from by
                refine ⟨?_, ?_, ?_, ?_, HBW.out.trans (hB4.mono HBW.out.size)⟩
                · have e4 : (us.take K).map IV.cells ++ [IV.cells u'] ++ (us.drop K).map IV.cells = ((us.take K ++ [u'] ++ us.drop K : List IV)).map IV.cells := by simp only [List.map_append, List.map_cons, List.map_nil]
                  rw [e4, show K + 1 + (i - K) = i + 1 by omega] at hrow4
                  exact hrow4.mono HBW.out.size
                · have h1 := insI_map (us := us) (u := u')
                  rw [HK.out] at h1
                  rw [h1, HOU.out.eq, foldl_next2 hLu]
                  rfl
                · intro x hx
                  rcases List.mem_append.1 hx with hx | hx
                  · rcases List.mem_append.1 hx with hx | hx
                    · exact ((HOU.out.rd x (List.mem_of_mem_take hx)).below HBC.out).below hB4
                    · rw [List.mem_singleton.1 hx]; exact (HVC.out.rd u' (List.mem_of_getElem? HU.out)).below hB4
                  · exact ((HOU.out.rd x (List.mem_of_mem_drop hx)).below HBC.out).below hB4
                · intro x hx
                  rcases List.mem_append.1 hx with hx | hx
                  · rcases List.mem_append.1 hx with hx | hx
                    · exact HOU.out.sz x (List.mem_of_mem_take hx)
                    · rw [List.mem_singleton.1 hx]; exact HUN.out u' (List.mem_of_getElem? HU.out)
                  · exact HOU.out.sz x (List.mem_of_mem_drop hx))
              clear hrow4 hg4 hB4
              rw [show K + 1 + (i - K) = i + 1 by omega]
              go_roundw
              case rel => exact ⟨i + 1, A4, c4, _, by omega, by go_num, rfl, HX.out⟩
              case measure => simp [intOf]; omega
            · obtain rfl : i = n0 := by omega
              have hlen : us.length = i := by have := HOU.out.row.cnt; simpa using this
              have HTP := hide (show us.map IV.itm = topL M from by
                rw [HOU.out.eq, List.take_of_length_le (by rw [HML.out.2]; exact Nat.le_refl _)]
                rfl)
              have hcap := HOU.out.row.cap
              have hBZ := HB9.out.trans (HOU.out.below.mono HB9.out.size)
              have hPR := (HP9.out.below HOU.out.below).runes
              have hIT := RowG.items HOU.out.row
              by_cases hgt : 50 < i
              · have HF := hide (show MenuM s (a : Int) w (.returned (.tuple #[.slice A1 m c1, .slice A 50 c])) wr from ⟨A1, m, c1, A, 50, c, us.take 50, rfl, hPR, hIT.take (by omega), (fun u hu => HOU.out.rd u (List.mem_of_mem_take hu)), by omega, by rw [List.map_take, HTP.out, HME.out], (fun u hu => HOU.out.sz u (List.mem_of_mem_take hu)), hBZ⟩)
                have hsh : ∀ W, (Instr.slice 26 (.slice A i c) none (some (.int .i64 50)) none).run Try.prog W = .ok (.slice A 50 c) W := fun W => run_subT_h A i c 50 (by omega) W
                have hc5 : (50 : Int) ≤ (c : Int) := by omega
                have hc6 : 50 ≤ c := by omega
                clear hcap hBZ hPR hIT hlen
                go_wp2_with fail
                go_ret2
                exact HF.out
              · have HF := hide (show MenuM s (a : Int) w (.returned (.tuple #[.slice A1 m c1, .slice A i c])) wr from ⟨A1, m, c1, A, i, c, us, rfl, hPR, hIT, HOU.out.rd, by omega, by rw [HTP.out, HME.out, List.take_of_length_le (by rw [← HTP.out, List.length_map, hlen]; omega)], HOU.out.sz, hBZ⟩)
                clear hcap hBZ hPR hIT hlen
                go_wp2_with fail
                go_ret2
                exact HF.out
end Go.Proofs.Ytchcpeenpijekaa
