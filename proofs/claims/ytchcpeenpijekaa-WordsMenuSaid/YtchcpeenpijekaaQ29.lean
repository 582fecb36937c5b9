/- Pieces, joined: BagG, BagH. -/
import Derived.Test.YtchcpeenpijekaaQ28
import Derived.BigRegion

/- The reference's bag: Add. -/
namespace Go.Proofs.Ytchcpeenpijekaa
open Go.RowKit Go.Maps Go.MapKept Go.ChangeMaps Go.Shelf
set_option linter.unusedVariables false

theorem wpList_appT0 {w : World} {ops : Array Oper} {rest : List Oper} {o : Oper} {a : Act} {Q : Exit → Act → World → Prop} (hgd : o.guard = none) (s x : Operand)
    (ho : o.op = .call { callee := .builtin .append, args := #[s, x], argTypes := #[26, 26] })
    (hs : a.eval s = .slice none 0 0) {X : Option Addr} {m d : Nat} {us : List IV}
    (hx : a.eval x = .slice X m d) (hr : ItemsM w X m us) (hsz : m ≤ 1000000)
    (h : ∀ A' c' w', RowG w' 49 2 w.heap.size A' m c' (us.map IV.cells) → Below w.heap.size w w' → wpList Try.prog ops Q rest (a.put o.dst (.slice A' m c')) w') : wpList Try.prog ops Q (o :: rest) a w :=
  wpList_appT hgd s x ho w.heap.size hs (RowG.nil w _ _ _) hx hr (by omega) (Nat.le_refl _) fun A' c' w' h2 h3 _ => by
    simp only [Nat.zero_add, List.nil_append] at h2 ⊢
    exact h A' c' w' h2 ((Below.refl _ _).grown h3 (Nat.le_refl _) fun g e => by cases e)
def BAddQ (P : Nat → Prop) (w : World) (B g : Nat) (L : List Itm) (l : List Int) (e : Ending) (w' : World) : Prop := e = .returned (.int .i64 (addE L l)) ∧ CalmB B w w' ∧ BagM P w' B g (addL L l)
theorem addL_eq {L : List Itm} {l : List Int} (h : addE L l = 0) : addL L l = addB L l := if_pos h
section
variable {P : Nat → Prop} {w w' : World} {B g n c : Nat} {A : Option Addr} {us : List IV} {L : List Itm}
theorem CalmB.drewN (h : CalmB B w w') (q : Nat) (hB : B ≤ w.heap.size) : CalmB B w (w'.drewN q) := h.trans (CalmB.of_below (lt_drewN w' q) (Nat.le_trans hB h.low.size))

/-- The bag's row is another one, of items whose texts are there. -/
theorem BagV.row_ {wq w4 : World} (h : BagV P wq B g A n c us L) (hq : B ≤ wq.heap.size) (hc : CalmB B wq w4) (hx : Box w4 g 28 #[.slice A n c]) {A4 : Option Addr} {n4 c4 : Nat} {us4 : List IV} (hr : RowG w4 49 2 B A4 n4 c4 (us4.map IV.cells))
    (hrd : Rd w4 us4) (hoff : ∀ u ∈ us4, OffA P u.A u.n) (hcap : ∀ u ∈ us4, u.n ≤ u.c ∧ u.c ≤ 9223372036854775807) :
    BagV P (w4.setCell ⟨g, 0, none⟩ (.slice A4 n4 c4)) B g A4 n4 c4 us4 (us4.map IV.itm) ∧ CalmB B wq (w4.setCell ⟨g, 0, none⟩ (.slice A4 n4 c4)) := by
  have hturn : CalmB B w4 (w4.setCell ⟨g, 0, none⟩ (.slice A4 n4 c4)) := CalmB.turn hx (.inl rfl) bag_cells h.base (set_grown w4 ⟨g, 0, none⟩ _) (Nat.le_trans hq hc.low.size)
  exact ⟨⟨hx.set 0 _, hr.far (p := ⟨g, 0, none⟩) (row_ne_box hr hx (by decide)) _, rfl, fun u hu => hturn.runes (hrd u hu), hoff, h.base, hcap⟩, hc.trans hturn⟩

/-- A new item at place k, with the count one. -/
theorem BagV.ins {wq w4 : World} {A4 T1 : Option Addr} {k m cT c4 : Nat} {l : List Int} (h : BagV P wq B g A n c us L) (hq : B ≤ wq.heap.size) (hb : Below wq.heap.size wq w4)
    (hr : RowG w4 49 2 wq.heap.size A4 (k + 1 + (n - k)) c4 ((us.take k).map IV.cells ++ [IV.cells ⟨T1, m, cT, 0, l⟩] ++ (us.drop k).map IV.cells))
    (hO : Own w4 wq.heap.size T1 m cT l) (hP : ∀ x, wq.heap.size ≤ x → P x) (hkn : k ≤ n) :
    ∃ b, A4 = some ⟨b, 0, none⟩ ∧ (w4.setCell ⟨g, 0, none⟩ (.slice A4 (k + 1 + (n - k)) c4)).cell? ⟨b, k * 2 + 1, none⟩ = some (.int .i64 0) ∧
      (w4.setCell ⟨g, 0, none⟩ (.slice A4 (k + 1 + (n - k)) c4)).frozen? ⟨b, k * 2 + 1, none⟩ = false ∧
      BagM P ((w4.setCell ⟨g, 0, none⟩ (.slice A4 (k + 1 + (n - k)) c4)).setCell ⟨b, k * 2 + 1, none⟩ (.int .i64 1)) B g (L.take k ++ (l, 1) :: L.drop k) ∧
      CalmB B wq ((w4.setCell ⟨g, 0, none⟩ (.slice A4 (k + 1 + (n - k)) c4)).setCell ⟨b, k * 2 + 1, none⟩ (.int .i64 1)) := by
  have hlen := h.len
  have e4 : (us.take k).map IV.cells ++ [IV.cells ⟨T1, m, cT, 0, l⟩] ++ (us.drop k).map IV.cells = ((us.take k ++ [⟨T1, m, cT, 0, l⟩] ++ us.drop k : List IV)).map IV.cells := by simp only [List.map_append, List.map_cons, List.map_nil]
  rw [e4] at hr
  have hx4 : Box w4 g 28 #[.slice A n c] := h.box.below hb
  have hrB := hr.mono hq
  have hk0 : (us.take k).length = k := by rw [List.length_take]; omega
  have hin : ∀ u ∈ (us.take k ++ [⟨T1, m, cT, 0, l⟩] ++ us.drop k : List IV), u ∈ us ∨ u = ⟨T1, m, cT, 0, l⟩ := fun u hu => by
    rcases List.mem_append.1 hu with hu | hu
    · rcases List.mem_append.1 hu with hu | hu
      · exact .inl (List.mem_of_mem_take hu)
      · exact .inr (List.mem_singleton.1 hu)
    · exact .inl (List.mem_of_mem_drop hu)
  obtain ⟨h5, h5c⟩ := h.row_ hq (CalmB.of_below hb hq) hx4 hrB (fun u hu => by
    rcases hin u hu with h1 | h1
    · exact (h.rd u h1).below hb
    · subst h1; exact hO.runes) (fun u hu => by
    rcases hin u hu with h1 | h1
    · exact h.off u h1
    · subst h1
      intro _ b hb1
      rcases hO.form with ⟨e, _⟩ | ⟨b', e, hb2, _⟩
      · dsimp only at hb1; rw [e] at hb1; cases hb1
      · dsimp only at hb1
        rw [e] at hb1
        injection hb1 with hb1
        subst hb1
        exact hP _ hb2) (fun u hu => by
    rcases hin u hu with h1 | h1
    · exact h.cap u h1
    · subst h1; exact hO.cap)
  have hs5 : B ≤ (w4.setCell ⟨g, 0, none⟩ (.slice A4 (k + 1 + (n - k)) c4)).heap.size := by have := h5.box.lt; have := h.base; omega
  obtain ⟨u, b, hu, hLu, hA, hc1, hc2, hf2, hrd⟩ := h5.at_ (j := k) (by omega)
  have hu2 : u = ⟨T1, m, cT, 0, l⟩ := by
    rw [List.append_assoc, List.getElem?_append_right (by omega), hk0, Nat.sub_self] at hu
    injection hu with hu
    exact hu.symm
  subst hu2
  obtain ⟨h6, h6c⟩ := h5.setK hu hA 1 hs5 (by subst hA; exact (h5.row.blk_ge b rfl).1)
  refine ⟨b, hA, hc2, hf2, ?_, h5c.trans h6c⟩
  · have e : L.take k ++ (l, 1) :: L.drop k = (List.map IV.itm (us.take k ++ [⟨T1, m, cT, 0, l⟩] ++ us.drop k)).set k (l, 1) := by
      rw [← h.eq]
      have hk1 : ((us.take k).map IV.itm).length = k := by rw [List.length_map, hk0]
      simp only [List.map_append, List.map_cons, List.map_nil, List.append_assoc, List.map_take, List.map_drop]
      rw [List.set_append_right _ _ (by rw [← List.map_take, hk1]; exact Nat.le_refl k), ← List.map_take, hk1, Nat.sub_self]
      rfl
    rw [e]
    exact ⟨_, _, _, _, h6⟩

set_option maxRecDepth 100000 in
set_option maxHeartbeats 4000000 in
theorem badd_ok (S : Option Addr) (m d : Nat) (l : List Int) (h : BagV P w B g A n c us L) (hs : Small L) (hS : Runes w S m l) (hB : B ≤ w.heap.size) (hE : addE L l = 0) (hP : ∀ x, w.heap.size ≤ x → P x) :
    Calls Try.prog 19 #[.pointer (some ⟨g, 0, none⟩), .slice S m d] w (BAddQ P w B g L l) := by
  have hsz := h.sizes hs
  have hml := hS.len
  have hE2 : l.length ≠ 0 ∧ mayS l = true ∧ l.length ≤ 1000 ∧ allB L < 1000 := by
    unfold addE at hE
    split at hE
    · cases hE
    · split at hE
      · cases hE
      · rename_i h1 h2
        refine ⟨fun e => h1 (.inl e), ?_, by omega, by omega⟩
        cases hm : mayS l with
        | true => rfl
        | false => exact absurd (.inr hm) h1
  obtain ⟨hl0, hmay, hl1, hall⟩ := hE2
  have M1 := hide (refMay_any S m d l w hS (by omega))
  rw [hmay] at M1
  have A1 := hide (ball_any h (by omega) (by have := hs.all; omega))
  have T1 := hide (bat_any S m d l h hs.bag (by omega) hS (by omega) fun u hu => by have := hsz.2 u hu; omega)
  have HV := hide h
  have HS := hide hS
  have HSM := hide hs
  have HE := hide hE
  have HPP := hide hP
  have HB := hide hB
  have HLEN := hide h.len
  have hd0 : ((m : Int) == 0) = false := by simp; omega
  have hd1 : decide ((1000 : Int) < (m : Int)) = false := by simp; omega
  have hd2 : decide ((1000 : Int) ≤ ((allB L : Nat) : Int)) = false := by simp; omega
  have hn := hsz.1
  have HSZ := hide hsz.2
  have hm1000 : m ≤ 1000 := by omega
  by_cases h0 : 0 < cntB L l
  · have hk := posB_lt h0
    have hpos := posB_le L l
    obtain ⟨k, hkk⟩ : ∃ k, posB L l = k := ⟨_, rfl⟩
    rw [hkk, decide_eq_true h0] at T1
    rw [hkk] at hk
    obtain ⟨u, b, hu, hLu, hA, hc1, hc2, hf2, hrd⟩ := h.at_ (j := k) (by rw [← HLEN.out.2]; exact hk)
    have hu2 : u.t = l ∧ cntB L l = u.k := by
      rw [← hkk] at hLu
      have h2 := posB_at hs.bag hLu
      exact ⟨h2.1.2 h0, h2.2 (h2.1.2 h0)⟩
    have hset := fun q => (h.below (lt_drewN w q)).setK hu hA (u.k + 1) (by exact hB) (by subst hA; exact (h.row.blk_ge b rfl).1)
    have hR := hide (show ∀ q, BAddQ P w B g L l (.returned (.int .i64 0)) ((w.drewN q).setCell ⟨b, k * 2 + 1, none⟩ (.int .i64 ((u.k : Int) + 1))) from fun q => by
      have e : ((u.k + 1 : Nat) : Int) = (u.k : Int) + 1 := by omega
      have h1 := hset q
      rw [e] at h1
      refine ⟨by rw [HE.out], (CalmB.of_below (lt_drewN w q) hB).trans h1.2, A, n, c, us.set k { u with k := u.k + 1 }, ?_⟩
      rw [addL_eq HE.out, addB_yes h0 hs.bag, hkk, hu2.2]
      rw [show (l, u.k + 1) = (u.t, u.k + 1) from by rw [hu2.1]]
      exact h1.1)
    have c0 : w.cell? ⟨g, 0, none⟩ = some (.slice (some ⟨b, 0, none⟩) n c) := by rw [← hA]; exact h.box.cell 0
    have i0 : (0 : Int) ≤ (k : Int) := by omega
    have i1 : (k : Int) < (n : Int) := by have := HLEN.out; omega
    have hub : u.k ≤ 1000 := by rw [← hu2.2]; have := cnt_le_all L l; omega
    clear h hs hS hE hP hB hsz hml hl0 hmay hl1 hall h0 hk hkk hu hLu hA hc1 hrd hu2 hset hpos
    go_enter Try.func19, Try.ntmps19
    go_wp2_with (first
      | (go_at_call 45; refine M1.out.mono ?_; rintro e w1 ⟨rfl, rfl⟩)
      | (go_at_call 46; refine A1.out.mono ?_; rintro e w1 ⟨rfl, rfl⟩)
      | (go_at_call 42; refine T1.out.mono ?_; rintro e w1 ⟨rfl, q, rfl⟩))
    go_ret
    exact hR.out q
  · have hpos := posB_le L l
    obtain ⟨k, hkk⟩ : ∃ k, posB L l = k := ⟨_, rfl⟩
    rw [hkk, decide_eq_false h0] at T1
    rw [hkk] at hpos
    have HK := hide (show addB L l = L.take k ++ (l, 1) :: L.drop k from by rw [addB_no (by omega) hs.bag, hkk])
    have hkn : k ≤ n := by have := HLEN.out; omega
    have hcap := h.row.cap
    have hsh := fun W => run_subT_h A n c k (by omega) W
    have hsl := fun W => run_subT_l A n c k hkn W
    have c0 : w.cell? ⟨g, 0, none⟩ = some (.slice A n c) := h.box.cell 0
    have i0 : (0 : Int) ≤ (k : Int) := by omega
    have i1 : (k : Int) ≤ (n : Int) := by omega
    have i2 : (k : Int) ≤ (c : Int) := by omega
    clear h hs hS hE hP hB hsz hl0 hmay hl1 hall h0 hkk
    go_enter Try.func19, Try.ntmps19
    go_upto_region 7 with (first
      | (go_at_call 45; refine M1.out.mono ?_; rintro e w1 ⟨rfl, rfl⟩)
      | (go_at_call 46; refine A1.out.mono ?_; rintro e w1 ⟨rfl, rfl⟩)
      | (go_at_call 42; refine T1.out.mono ?_; rintro e w1 ⟨rfl, q, rfl⟩))
    have HVQ := hide (HV.out.below (lt_drewN w q))
    have HSQ := hide (HS.out.drewN q)
    have HWQ := hide (show w.heap.size ≤ (w.drewN q).heap.size from Nat.le_refl _)
    have HCQ := hide (CalmB.of_below (B := B) (lt_drewN w q) HB.out)
    have hc0 : (w.drewN q).cell? ⟨g, 0, none⟩ = some (.slice A n c) := c0
    clear M1 A1 T1 c0
    generalize w.drewN q = wq at HVQ HSQ HWQ HCQ hc0 ⊢
    go_upto_region 8 with (at_builtin; refine wpList_appT0 rfl (.const (.slice none 0 0)) (.tmp 39) rfl rfl rfl (HVQ.out.row.items.take hkn) (by omega) ?_; intro A1 c1 w1 hr1 hb1)
    have HR1 := hide hr1
    have HB1 := hide hb1
    clear hr1 hb1 hc0
    go_upto_region 9 with (first
      | (at_builtin; refine wpList_app0 rfl (.const (.slice none 0 0)) (.tmp 42) rfl wq.heap.size rfl rfl (HSQ.out.below HB1.out) (by omega) HB1.out.size ?_; intro T1 cT w2 hown2 hb2 _ _)
      | (at_builtin; refine wpList_appG itemT rfl (.tmp 41) (.tmp 45) rfl wq.heap.size rfl ((HR1.out.below hb2).alloc _) (m := 1) (d := 1) rfl (us := [IV.cells ⟨T1, m, cT, 0, l⟩]) (news_box (cs := (IV.cells ⟨T1, m, cT, 0, l⟩).toArray) (Box.new _ _ _)) (Each.one (IV.one _).1 (IV.one _).2) rfl (by omega) (by omega) (by omega) (by have h1 := HB1.out.size; have h2 := hb2.size; simp; omega) ?_; intro g3 c3 w3 hrow3 hg3 hb3 _))
    have hB2 : Below wq.heap.size wq w2 := HB1.out.trans (hb2.mono HB1.out.size)
    have hba := hB2.alloc hB2.size (.cells (IV.cells ⟨T1, m, cT, 0, l⟩).toArray 49)
    have HB3 := hide (hba.trans hb3)
    have HO3 := hide (show Own w3 wq.heap.size T1 m cT l from by
      have h1 := hown2.alloc (.cells (IV.cells ⟨T1, m, cT, 0, l⟩).toArray 49)
      exact h1.kept hg3 (own_ne_row h1 ((HR1.out.below hb2).alloc (.cells (IV.cells ⟨T1, m, cT, 0, l⟩).toArray 49)) (by decide)))
    have HR3 := hide hrow3
    have HV3 := hide (HVQ.out.below HB3.out)
    have hc0 : w3.cell? ⟨g, 0, none⟩ = some (.slice A n c) := HV3.out.box.cell 0
    have HI3 := hide (HV3.out.row.items.sub hkn hcap.1)
    clear hown2 hb2 hrow3 hg3 hb3 hB2 hba HR1 HB1 hsh
    have hk1 : k + 1 + (n - k) ≤ 1000000 := by omega
    go_upto_region 10 with (at_builtin; refine wpList_appT rfl (.tmp 48) (.tmp 54) rfl wq.heap.size rfl HR3.out rfl HI3.out hk1 HB3.out.size ?_; intro A4 c4 w4 hrow4 hg4 _; have hx4 := HV3.out.box.grown hg4 (fun e => by have h1 := HVQ.out.box.lt; have h2 := (HR3.out.blk_ge g e.symm).1; omega); obtain ⟨x0, x1⟩ := hx4.c1)
    have HB4 := hide (HB3.out.grown hg4 HB3.out.size fun b e => (HR3.out.blk_ge b e).1)
    have HO4 := HO3.out.kept hg4 (own_ne_row HO3.out HR3.out (by decide))
    have d2 : (w4.setCell ⟨g, 0, none⟩ (.slice A4 (k + 1 + (n - k)) c4)).cell? ⟨g, 0, none⟩ = some (.slice A4 (k + 1 + (n - k)) c4) := (hx4.set 0 _).cell 0
    obtain ⟨b4, e4, d0, d1, hbag, hcalm⟩ := HVQ.out.ins (Nat.le_trans HB.out HWQ.out) HB4.out hrow4 HO4 (fun x hx => HPP.out x (Nat.le_trans HWQ.out hx)) hkn
    have hR := hide (show BAddQ P w B g L l (.returned (.int .i64 0)) ((w4.setCell ⟨g, 0, none⟩ (.slice A4 (k + 1 + (n - k)) c4)).setCell ⟨b4, k * 2 + 1, none⟩ (.int .i64 1)) from ⟨by rw [HE.out], HCQ.out.trans hcalm, by rw [addL_eq HE.out, HK.out]; exact hbag⟩)
    subst e4
    clear hbag hcalm HO4 hrow4 hg4 x0 x1 hx4 hc0 HR3 HB3 HO3 HV3 HI3
    obtain ⟨nn, hnn⟩ : ∃ nn, k + 1 + (n - k) = nn := ⟨_, rfl⟩
    rw [hnn] at d0 d1 d2 hR ⊢
    have i3 : (k : Int) < (nn : Int) := by omega
    generalize w4.setCell ⟨g, 0, none⟩ (.slice (some ⟨b4, 0, none⟩) nn c4) = w5 at d0 d1 d2 hR ⊢
    go_wp2_with fail
    go_ret
    exact hR.out
set_option maxHeartbeats 400000 in
theorem badd_form (S : Option Addr) (m d : Nat) (l : List Int) (hS : Runes w S m l) (hn : m ≤ 35184372088832) (hf : m = 0 ∨ mayS l = false) :
    Calls Try.prog 19 #[.pointer (some ⟨g, 0, none⟩), .slice S m d] w fun e w' => e = .returned (.int .i64 1) ∧ w = w' := by
  have M1 := hide (refMay_any S m d l w hS (by omega))
  cases hm : mayS l with
  | false =>
    rw [hm] at M1
    clear hS hf hm
    go_enter Try.func19, Try.ntmps19
    go_wp2_with (go_at_call 45; refine M1.out.mono ?_; rintro e w1 ⟨rfl, rfl⟩)
    go_ret
    exact ⟨rfl, rfl⟩
  | true =>
    rw [hm] at M1
    have hd0 : ((m : Int) == 0) = true := by
      rcases hf with h | h
      · simp [h]
      · rw [hm] at h; cases h
    clear hS hf hm
    go_enter Try.func19, Try.ntmps19
    go_wp2_with (go_at_call 45; refine M1.out.mono ?_; rintro e w1 ⟨rfl, rfl⟩)
    go_ret
    exact ⟨rfl, rfl⟩
set_option maxHeartbeats 400000 in
theorem badd_full (S : Option Addr) (m d : Nat) (l : List Int) (h : BagV P w B g A n c us L) (hs : Small L) (hS : Runes w S m l) (hn : m ≤ 35184372088832) (hn0 : 0 < m) (hmay : mayS l = true) (hf : 1000 < m ∨ 1000 ≤ allB L) :
    Calls Try.prog 19 #[.pointer (some ⟨g, 0, none⟩), .slice S m d] w fun e w' => e = .returned (.int .i64 3) ∧ w = w' := by
  have hsz := h.sizes hs
  have M1 := hide (refMay_any S m d l w hS (by omega))
  rw [hmay] at M1
  have A1 := hide (ball_any h (by omega) (by have := hs.all; omega))
  have hd0 : ((m : Int) == 0) = false := by simp; omega
  clear h hs hS hsz hmay
  by_cases h1 : 1000 < m
  · have hd1 : decide ((1000 : Int) < (m : Int)) = true := by simp; omega
    go_enter Try.func19, Try.ntmps19
    go_wp2_with (go_at_call 45; refine M1.out.mono ?_; rintro e w1 ⟨rfl, rfl⟩)
    go_ret
    exact ⟨rfl, rfl⟩
  · have hd1 : decide ((1000 : Int) < (m : Int)) = false := by simp; omega
    have hd2 : decide ((1000 : Int) ≤ ((allB L : Nat) : Int)) = true := by simp; omega
    go_enter Try.func19, Try.ntmps19
    go_wp2_with (first
      | (go_at_call 45; refine M1.out.mono ?_; rintro e w1 ⟨rfl, rfl⟩)
      | (go_at_call 46; refine A1.out.mono ?_; rintro e w1 ⟨rfl, rfl⟩))
    go_ret
    exact ⟨rfl, rfl⟩
theorem CalmB.refl (hB : B ≤ w.heap.size) : CalmB B w w := CalmB.of_below (Below.refl _ _) hB
theorem badd_any (S : Option Addr) (m d : Nat) (l : List Int) (h : BagM P w B g L) (hs : Small L) (hS : Runes w S m l) (hB : B ≤ w.heap.size) (hn : m ≤ 35184372088832) (hP : ∀ x, w.heap.size ≤ x → P x) :
    Calls Try.prog 19 #[.pointer (some ⟨g, 0, none⟩), .slice S m d] w (BAddQ P w B g L l) := by
  obtain ⟨A, n, c, us, h⟩ := h
  have hl := hS.len
  by_cases h1 : l.length = 0 ∨ mayS l = false
  · refine (badd_form S m d l hS hn (h1.imp (fun h => by omega) id)).mono ?_
    rintro e w' ⟨rfl, rfl⟩
    have he : addE L l = 1 := if_pos h1
    refine ⟨by rw [he], CalmB.refl hB, A, n, c, us, ?_⟩
    have : addL L l = L := if_neg (by rw [he]; decide)
    rw [this]; exact h
  · have hmay : mayS l = true := by
      cases hm : mayS l with
      | true => rfl
      | false => exact absurd (.inr hm) h1
    by_cases h2 : 1000 < l.length ∨ 1000 ≤ allB L
    · refine (badd_full S m d l h hs hS hn (Nat.pos_of_ne_zero fun h3 => h1 (.inl (by omega))) hmay (by rw [hl] at h2; exact h2)).mono ?_
      rintro e w' ⟨rfl, rfl⟩
      have he : addE L l = 3 := by unfold addE; rw [if_neg h1, if_pos h2]
      refine ⟨by rw [he], CalmB.refl hB, A, n, c, us, ?_⟩
      have : addL L l = L := if_neg (by rw [he]; decide)
      rw [this]; exact h
    · exact badd_ok S m d l h hs hS hB (by unfold addE; rw [if_neg h1, if_neg h2]) hP
end
end Go.Proofs.Ytchcpeenpijekaa

/- The reference's bag: Drop. -/
namespace Go.Proofs.Ytchcpeenpijekaa
open Go.RowKit Go.Maps Go.MapKept Go.ChangeMaps Go.Shelf
set_option linter.unusedVariables false

/-- append, hidden from the simplifier: a run of it that is laid ahead is used as it stands. -/
def appSem (ts : Array TypeId) (ty : TypeId) (args : Array Value) : Sem Value := Builtin.append_ ts ty args
theorem app_sem (ts : Array TypeId) (ty : TypeId) (args : Array Value) : Builtin.append_ ts ty args = appSem ts ty args := rfl
attribute [local go_sem ↓] app_sem

def BDropQ (P : Nat → Prop) (w : World) (B g : Nat) (L : List Itm) (l : List Int) (e : Ending) (w' : World) : Prop := e = .returned (.int .i64 (dropE L l)) ∧ CalmB B w w' ∧ BagM P w' B g (dropB L l)
section
variable {P : Nat → Prop} {w w' : World} {B g n c : Nat} {A : Option Addr} {us : List IV} {L : List Itm}
theorem BagV.del {wq w4 : World} {A4 : Option Addr} {k c4 : Nat} (h : BagV P wq B g A n c us L) (hq : B ≤ wq.heap.size) (hb : Below wq.heap.size wq w4)
    (hr : RowG w4 49 2 wq.heap.size A4 (k + (n - (k + 1))) c4 ((us.take k).map IV.cells ++ (us.drop (k + 1)).map IV.cells)) :
      BagM P (w4.setCell ⟨g, 0, none⟩ (.slice A4 (k + (n - (k + 1))) c4)) B g (L.take k ++ L.drop (k + 1)) ∧
      CalmB B wq (w4.setCell ⟨g, 0, none⟩ (.slice A4 (k + (n - (k + 1))) c4)) := by
  rw [← List.map_append] at hr
  have hx4 : Box w4 g 28 #[.slice A n c] := h.box.below hb
  have hin : ∀ u ∈ us.take k ++ us.drop (k + 1), u ∈ us := fun u hu => by
    rcases List.mem_append.1 hu with hu | hu
    · exact List.mem_of_mem_take hu
    · exact List.mem_of_mem_drop hu
  obtain ⟨h5, h5c⟩ := h.row_ hq (CalmB.of_below hb hq) hx4 (hr.mono hq) (fun u hu => (h.rd u (hin u hu)).below hb) (fun u hu => h.off u (hin u hu)) (fun u hu => h.cap u (hin u hu))
  refine ⟨?_, h5c⟩
  · have e : L.take k ++ L.drop (k + 1) = (us.take k ++ us.drop (k + 1)).map IV.itm := by rw [← h.eq, List.map_append, List.map_take, List.map_drop]
    rw [e]
    exact ⟨_, _, _, _, h5⟩

set_option maxRecDepth 100000 in
set_option maxHeartbeats 1000000 in
theorem bdrop_any (S : Option Addr) (m d : Nat) (l : List Int) (h : BagM P w B g L) (hs : Small L) (hS : Runes w S m l) (hB : B ≤ w.heap.size) (hm : m ≤ 35184372088832) :
    Calls Try.prog 15 #[.pointer (some ⟨g, 0, none⟩), .slice S m d] w (BDropQ P w B g L l) := by
  obtain ⟨A, n, c, us, h⟩ := h
  have hsz := h.sizes hs
  have T1 := hide (bat_any S m d l h hs.bag (by omega) hS (by omega) fun u hu => by have := hsz.2 u hu; omega)
  have HV := hide h
  have HSM := hide hs
  have HB := hide hB
  have HLEN := hide h.len
  have hn := hsz.1
  by_cases h0 : 0 < cntB L l
  · have hk := posB_lt h0
    obtain ⟨k, hkk⟩ : ∃ k, posB L l = k := ⟨_, rfl⟩
    rw [hkk, decide_eq_true h0] at T1
    rw [hkk] at hk
    obtain ⟨u, b, hu, hLu, hA, hc1, hc2, hf2, hrd⟩ := h.at_ (j := k) (by rw [← HLEN.out.2]; exact hk)
    have hu2 : u.t = l ∧ cntB L l = u.k := by
      rw [← hkk] at hLu
      have h2 := posB_at hs.bag hLu
      exact ⟨h2.1.2 h0, h2.2 (h2.1.2 h0)⟩
    have hset := fun q => (h.below (lt_drewN w q)).setK hu hA (u.k - 1) (by exact hB) (by subst hA; exact (h.row.blk_ge b rfl).1)
    have e1 : ((u.k - 1 : Nat) : Int) = (u.k : Int) - 1 := by omega
    simp only [e1] at hset
    have HSET := hide hset
    have HE := hide (show dropE L l = 0 from if_neg (by omega))
    have c0 : w.cell? ⟨g, 0, none⟩ = some (.slice (some ⟨b, 0, none⟩) n c) := by rw [← hA]; exact h.box.cell 0
    have i0 : (0 : Int) ≤ (k : Int) := by omega
    have i1 : (k : Int) < (n : Int) := by have := HLEN.out; omega
    have hub : u.k ≤ 1000 := by rw [← hu2.2]; have := cnt_le_all L l; have := hs.all; omega
    have huk : 0 < u.k := by rw [← hu2.2]; exact h0
    have HU := hide hu2
    have HUK := hide hu
    have HKK := hide hkk
    clear h hs hS hB hsz hk hkk hu hLu hc1 hrd hu2 hset e1
    subst hA
    go_enter Try.func15, Try.ntmps15
    go_upto_region 5 with (go_at_call 42; refine T1.out.mono ?_; rintro e w1 ⟨rfl, q, rfl⟩)
    have HV5 := hide (HSET.out q).1
    have HC5 := hide ((CalmB.of_below (B := B) (lt_drewN w q) HB.out).trans (HSET.out q).2)
    have d0 : ((w.drewN q).setCell ⟨b, k * 2 + 1, none⟩ (.int .i64 ((u.k : Int) - 1))).cell? ⟨g, 0, none⟩ = some (.slice (some ⟨b, 0, none⟩) n c) := HV5.out.box.cell 0
    have d1 : ((w.drewN q).setCell ⟨b, k * 2 + 1, none⟩ (.int .i64 ((u.k : Int) - 1))).cell? ⟨b, k * 2 + 1, none⟩ = some (.int .i64 ((u.k : Int) - 1)) := by
      obtain ⟨v, b2, hv, _, hb2, _, hc3, _⟩ := HV5.out.at_ (j := k) (by omega)
      injection hb2 with hb2
      injection hb2 with hb2
      subst hb2
      rw [List.getElem?_set_self (by have := HLEN.out; omega)] at hv
      injection hv with hv
      subst hv
      rw [hc3]
      dsimp only
      congr 2
      omega
    clear T1 HSET hc2 hf2 c0
    generalize (w.drewN q).setCell ⟨b, k * 2 + 1, none⟩ (.int .i64 ((u.k : Int) - 1)) = w5 at HV5 HC5 d0 d1 ⊢
    by_cases h1 : 1 < u.k
    · have hd : ((u.k : Int) - 1 == 0) = false := by simp; omega
      have hR := hide (show BDropQ P w B g L l (.returned (.int .i64 0)) w5 from ⟨by rw [HE.out], HC5.out, _, _, _, _, by
        rw [dropB_more (by rw [HU.out.2]; exact h1) HSM.out.bag, HKK.out, HU.out.2]
        have h2 := HV5.out
        rw [HU.out.1] at h2
        exact h2⟩)
      go_wp2_with fail
      go_ret
      exact hR.out
    · have hd : ((u.k : Int) - 1 == 0) = true := by simp; omega
      have HD := hide (show dropB L l = L.take k ++ L.drop (k + 1) from by rw [dropB_one (by rw [HU.out.2]; omega) HSM.out.bag, HKK.out])
      go_upto_region 6 with fail
      have hkn : k ≤ n := by omega
      have HV6 := HV5.out.below (lt_drewN w5 1)
      have hcap := HV6.row.cap
      have hlen := HV6.len
      obtain ⟨A1, c1, v1, hrun1, hr1, hg1, _⟩ := run_appT 26 (RowG.nil (w5.drewN 1) 49 2 w5.heap.size) (HV6.row.items.take hkn) (by omega) (Nat.le_refl _)
      simp only [Nat.zero_add, List.nil_append] at hrun1 hr1
      have hb1 : Below w5.heap.size (w5.drewN 1) v1 := (Below.refl _ _).grown hg1 (Nat.le_refl _) fun g e => by cases e
      obtain ⟨A2, c2, v2, hrun2, hr2, hg2, _⟩ := run_appT 26 hr1 ((HV6.row.items.sub (a := k + 1) (by omega) hcap.1).below hb1) (by omega) hb1.size
      have hb2 : Below w5.heap.size (w5.drewN 1) v2 := hb1.grown hg2 hb1.size fun g e => (hr1.blk_ge g e).1
      have hB5 : B ≤ w5.heap.size := by have := HV5.out.box.lt; have := HV5.out.base; omega
      obtain ⟨hbag, hcalm⟩ := HV6.del hB5 hb2 hr2
      have hR := hide (show BDropQ P w B g L l (.returned (.int .i64 0)) (v2.setCell ⟨g, 0, none⟩ (.slice A2 (k + (n - (k + 1))) c2)) from ⟨by rw [HE.out], (HC5.out.trans (CalmB.of_below (lt_drewN w5 1) hB5)).trans hcalm, by
        rw [HD.out]
        have e : ∀ x : Itm, (L.set k x).take k ++ (L.set k x).drop (k + 1) = L.take k ++ L.drop (k + 1) := fun x => by
          rw [List.take_set_of_le (Nat.le_refl k), List.drop_set_of_lt (by omega)]
        rw [e] at hbag
        exact hbag⟩)
      have hsh := fun W => run_subT_h (some ⟨b, 0, none⟩) n c k (by omega) W
      have hsl := fun W => run_subT_l (some ⟨b, 0, none⟩) n c (k + 1) (by omega) W
      have hgl := HV5.out.box.lt
      have hrun1' : (appSem #[26, 26] 26 #[.slice none 0 0, .slice (some ⟨b, 0, none⟩) k c]).run Try.prog w5.drew = .ok (.slice A1 k c1) v1 := hrun1
      have hrun2' : (appSem #[26, 26] 26 #[.slice A1 k c1, .slice (subT (some ⟨b, 0, none⟩) c (k + 1)) (n - (k + 1)) (c - (k + 1))]).run Try.prog v1 = .ok (.slice A2 (k + (n - (k + 1))) c2) v2 := hrun2
      have s1 : v1.cell? ⟨g, 0, none⟩ = some (.slice (some ⟨b, 0, none⟩) n c) := (HV6.box.below hb1).cell 0
      have hx2 := HV6.box.below hb2
      obtain ⟨s2, s3⟩ := hx2.c1
      have ek : ((k + 1 : Nat) : Int) = (k : Int) + 1 := by omega
      rw [ek] at hsl
      have i2 : (k : Int) + 1 ≤ (n : Int) := by omega
      clear hrun1 hrun2 hr1 hr2 hg1 hg2 hb1 hb2 hbag hcalm hx2 HV6 HV5 HC5 hub huk hlen HD HE HU HUK HKK HLEN
      go_cut [] (fun wx => wx = v2.setCell ⟨g, 0, none⟩ (.slice A2 (k + (n - (k + 1))) c2))
      case first =>
        clear hR
        go_region
        clear hrun1' hrun2' hsh hsl s1 s2 s3 d0 d1
        all_goals go_wp2_with fail
        all_goals go_meet
        all_goals rfl
      case rest =>
      obtain rfl := hcut
      go_wp2_with fail
      go_ret
      exact hR.out
  · have T2 := T1
    rw [decide_eq_false h0] at T2
    have hR := hide (show ∀ q, BDropQ P w B g L l (.returned (.int .i64 4)) (w.drewN q) from fun q => ⟨by rw [dropE, if_pos (by omega)], CalmB.of_below (lt_drewN w q) hB, A, n, c, us, by
      rw [dropB_no (by omega) hs.bag]
      exact h.below (lt_drewN w q)⟩)
    clear T1 h hs hS hsz h0
    go_enter Try.func15, Try.ntmps15
    go_wp2_with (go_at_call 42; refine T2.out.mono ?_; rintro e w1 ⟨rfl, q, rfl⟩)
    go_ret
    exact hR.out q
end
end Go.Proofs.Ytchcpeenpijekaa
