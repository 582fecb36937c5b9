/- Tables that a tape makes: standishkeep's Short, Table. -/
import Derived.Test.YtkoieceifplphaaTapeC
import Derived.Test.YtkoieceifplphaaSnipV
namespace Go.Proofs.Ytkoieceifplphaa
open Go.RowKit
set_option linter.unusedVariables false

/-- A text that a tape has made since a world w0, to be read. -/
structure Txt (g : Nat) (Z : Option Addr) (m c : Nat) (z : List Int) (w0 w : World) (A : Option Addr) (k cap : Nat) (l : List Int) : Prop where
  rd : Runes w A k l
  may : mayS l = true
  new : ∀ b, blk A = some b → w0.heap.size ≤ b ∧ b < w.heap.size
  cap : k ≤ cap ∧ cap ≤ 9223372036854775807
  tap : Tap w g Z m c z
  gr : w0.grownBy w (some g)
  lt : g < w0.heap.size
section
variable {g : Nat} {Z : Option Addr} {m c : Nat} {z : List Int} {w0 w w2 : World} {A A2 : Option Addr} {k cap k2 c2 : Nat} {l l2 : List Int}
theorem Out.txt (h : Out g Z m c z w0 w A k cap) : ∃ l, Txt g Z m c z w0 w A k cap l := by
  obtain ⟨l, ho, hmy⟩ := h.own
  exact ⟨l, ho.runes, hmy, ho.blk_ge, ho.cap, h.tap, h.gr, h.lt⟩
theorem Txt.take (h : Txt g Z m c z w0 w A k cap l) {n : Nat} (hn : n ≤ k) : Txt g Z m c z w0 w A n cap (l.take n) := ⟨h.rd.take hn, mayS_take h.may n, h.new, by have := h.cap; omega, h.tap, h.gr, h.lt⟩
end

set_option maxRecDepth 100000 in
set_option maxHeartbeats 4000000 in
theorem tshort_any (g : Nat) (Z : Option Addr) (m c : Nat) (z : List Int) (d mx : Nat) (w : World) (h : Tap w g Z m c z) (hm : m ≤ 35184372088832) (hd : d ≤ 2) (hmx : mx ≤ 1000000) :
    Calls Try.prog 36 #[.pointer (some ⟨g, 0, none⟩), .int .i64 (d : Int), .int .i64 (mx : Int)] w fun e w' => ∃ A k cap l, e = .returned (.slice A k cap) ∧ k ≤ mx ∧ Txt g Z m c z w w' A k cap l := by
  have HT := hide h
  have hB := bodB_le d hd
  clear h
  go_enter Try.func36, Try.ntmps36
  go_wp2_with fail
  refine (tbody_any g Z m c z d hd w HT.out hm).mono ?_
  rintro e w1 ⟨A, k, cap, rfl, hk, ho⟩
  obtain ⟨l, hx⟩ := ho.txt
  have hk2 : k ≤ 300000 := Nat.le_trans hk hB
  have hcap := hx.cap
  have HX := hide hx
  clear ho hx hk hB
  by_cases hlt : mx < k
  · have hrun := run_sub_h A k cap mx (by omega)
    have HY := hide (HX.out.take (n := mx) (by omega))
    go_wp2_with fail
    go_ret
    exact ⟨A, mx, cap, _, rfl, Nat.le_refl _, HY.out⟩
  · go_wp2_with fail
    go_ret
    exact ⟨A, k, cap, l, rfl, by omega, HX.out⟩

/-- A table that a tape is making. -/
structure TabI (g : Nat) (Z : Option Addr) (m c : Nat) (z : List Int) (w0 w : World) (A : Option Addr) (k cap : Nat) (us : Nat → SNV) (l : List Snp) : Prop where
  row : RowG w 36 2 w0.heap.size A k cap (rowV us k)
  len : l.length = k
  rd : ∀ j, j < k → ∃ x, l[j]? = some x ∧ SRd w (us j) x ∧ rowT x = true
  apT : ∀ j, j < k → (∀ b, blk (us j).T = some b → w0.heap.size ≤ b ∧ b < w.heap.size ∧ blk A ≠ some b) ∧ (∀ b, blk (us j).B = some b → w0.heap.size ≤ b ∧ b < w.heap.size ∧ blk A ≠ some b)
  tap : Tap w g Z m c z
  gr : w0.grownBy w (some g)
  lt : g < w0.heap.size
section
variable {g : Nat} {Z : Option Addr} {m c : Nat} {z : List Int} {w0 w w1 w2 w3 : World} {A : Option Addr} {k cap : Nat} {us : Nat → SNV} {l : List Snp}
theorem TabI.start (h : Tap w g Z m c z) : TabI g Z m c z w w none 0 0 (fun _ => ⟨none, 0, 0, none, 0, 0⟩) [] :=
  ⟨RowG.nil _ _ _ _, rfl, fun j hj => absurd hj (by omega), fun j hj => absurd hj (by omega), h, World.grownBy.refl w _, h.lt⟩
theorem TabI.keep {row : Option Nat} (h : TabI g Z m c z w0 w A k cap us l) (hg : w.grownBy w2 row) (hr : ∀ b, row = some b → b = g) (ht : Tap w2 g Z m c z) : TabI g Z m c z w0 w2 A k cap us l := by
  have hlt := h.lt
  have far : ∀ b, w0.heap.size ≤ b → row ≠ some b := fun b hb e => by have := hr b e; omega
  refine ⟨h.row.kept hg (by
    cases hA : blk A with
    | none => exact .inl rfl
    | some b => exact .inr (fun e => far b (h.row.blk_ge b hA).1 e.symm)), h.len, fun j hj => ?_, fun j hj => ?_, ht, h.gr.andThen hg (fun b hb => .inr (by rw [hr b hb])), h.lt⟩
  · obtain ⟨x, h1, h2, h3⟩ := h.rd j hj
    have ha := h.apT j hj
    exact ⟨x, h1, ⟨h2.trig.grown hg (fun b hb => far b (ha.1 b hb).1), h2.body.grown hg (fun b hb => far b (ha.2 b hb).1), h2.cap, h2.capB⟩, h3⟩
  · have ha := h.apT j hj
    have hs := hg.size
    exact ⟨fun b hb => by have := ha.1 b hb; exact ⟨this.1, by omega, this.2.2⟩, fun b hb => by have := ha.2 b hb; exact ⟨this.1, by omega, this.2.2⟩⟩
/-- One more row: its texts, then the append. -/
theorem TabI.more {T B : Option Addr} {n q nb qb : Nat} {t b : List Int} {g' c' : Nat} (h : TabI g Z m c z w0 w A k cap us l) (hT : Txt g Z m c z w w1 T n q t) (hB : Txt g Z m c z w1 w2 B nb qb b) (hn : 1 ≤ n ∧ n ≤ 20) (hnb : nb ≤ 600) (cs : Obj)
    (hrow : RowG w3 36 2 w0.heap.size (some ⟨g', 0, none⟩) (k + 1) c' (rowV us k ++ [[.slice T n q, .slice B nb qb]])) (hg : (w2.alloc cs).grownBy w3 (blk A)) (ho : blk A = some g' ∨ g' = (w2.alloc cs).heap.size) :
    TabI g Z m c z w0 w3 (some ⟨g', 0, none⟩) (k + 1) c' (fun j => if j = k then ⟨T, n, q, B, nb, qb⟩ else us j) (l ++ [⟨t, b⟩]) := by
  have hlt := h.lt
  have s1 := hT.gr.size
  have s2 := hB.gr.size
  have s0 := h.gr.size
  have k1 := h.keep hT.gr (fun b hb => by injection hb with hb; exact hb.symm) hT.tap
  have k2 := k1.keep hB.gr (fun b hb => by injection hb with hb; exact hb.symm) hB.tap
  have k3 := k2.keep (World.grownBy_alloc w2 cs none) (fun b hb => by cases hb) (hB.tap.grown (World.grownBy_alloc w2 cs none) (fun b hb => by cases hb))
  have hA : ∀ b, blk A = some b → w0.heap.size ≤ b ∧ b < w.heap.size := h.row.blk_ge
  have hT2 : Runes (w2.alloc cs) T n t := (hT.rd.grown hB.gr (fun b hb e => by injection e with e; have := (hT.new b hb).1; omega)).alloc cs
  have hB2 : Runes (w2.alloc cs) B nb b := hB.rd.alloc cs
  have fT : ∀ b, blk T = some b → blk A ≠ some b := fun b hb e => by have := (hT.new b hb).1; have := (hA b e).2; omega
  have fB : ∀ b, blk B = some b → blk A ≠ some b := fun b hb e => by have := (hB.new b hb).1; have := (hA b e).2; omega
  have s3 := hg.size
  have hs3 : (w2.alloc cs).heap.size = w2.heap.size + 1 := by simp
  have apart : ∀ b, b < w2.heap.size → blk A ≠ some b → blk (some (⟨g', 0, none⟩ : Addr)) ≠ some b := fun b hb hn e => by
    injection e with e
    have e' : g' = b := e
    rcases ho with h1 | h1
    · exact hn (by rw [h1, e'])
    · omega
  refine ⟨by rw [← rowV_snoc ⟨T, n, q, B, nb, qb⟩]; exact hrow, by simp [h.len], fun j hj => ?_, fun j hj => ?_, k3.tap.grown hg (fun b hb => by have := (hA b hb).1; omega), k3.gr.andThen hg (fun b hb => .inl (hA b hb).1), h.lt⟩
  · by_cases hjk : j = k
    · subst hjk
      refine ⟨⟨t, b⟩, by rw [List.getElem?_append_right (by rw [h.len]; exact Nat.le_refl _), h.len, Nat.sub_self]; rfl, ?_⟩
      rw [if_pos rfl]
      exact ⟨⟨hT2.grown hg fT, hB2.grown hg fB, hT.cap, hB.cap⟩, by simp [rowT, hT.may, hB.may, hT.rd.len, hB.rd.len, hn, hnb]⟩
    · obtain ⟨x, h1, h2, h3⟩ := k3.rd j (by omega)
      have ha := k3.apT j (by omega)
      refine ⟨x, by rw [List.getElem?_append_left (by rw [h.len]; omega)]; exact h1, ?_⟩
      rw [if_neg hjk]
      exact ⟨⟨h2.trig.grown hg (fun b hb => (ha.1 b hb).2.2), h2.body.grown hg (fun b hb => (ha.2 b hb).2.2), h2.cap, h2.capB⟩, h3⟩
  · by_cases hjk : j = k
    · subst hjk
      rw [if_pos rfl]
      exact ⟨fun b hb => ⟨by have := (hT.new b hb).1; omega, by have := (hT.new b hb).2; omega, apart b (by have := (hT.new b hb).2; omega) (fT b hb)⟩, fun b hb => ⟨by have := (hB.new b hb).1; omega, by have := (hB.new b hb).2; omega, apart b (hB.new b hb).2 (fB b hb)⟩⟩
    · rw [if_neg hjk]
      have ha := h.apT j (by omega)
      exact ⟨fun b hb => by have := ha.1 b hb; exact ⟨this.1, by omega, apart b (by omega) this.2.2⟩, fun b hb => by have := ha.2 b hb; exact ⟨this.1, by omega, apart b (by omega) this.2.2⟩⟩
end

set_option maxRecDepth 100000 in
set_option maxHeartbeats 4000000 in
theorem ttable_any (g : Nat) (Z : Option Addr) (m c : Nat) (z : List Int) (mx : Nat) (w : World) (h : Tap w g Z m c z) (hm : m ≤ 35184372088832) (hmx : mx ≤ 1000) :
    Calls Try.prog 13 #[.pointer (some ⟨g, 0, none⟩), .int .i64 (mx : Int)] w fun e w' => ∃ A k cap us l, e = .returned (.slice A k cap) ∧ k ≤ mx ∧ TabI g Z m c z w w' A k cap us l := by
  have HT := hide h
  clear h
  go_enter Try.func13, Try.ntmps13
  go_wp2_with fail
  refine (next_any (mx + 1) g Z m c z w HT.out (by omega) (by omega) hm).mono ?_
  rintro e w1 ⟨r, rfl, hr, ht, hg, -⟩
  have HT1 := hide ((TabI.start HT.out).keep hg (fun b hb => by injection hb with hb; exact hb.symm) ht)
  clear ht hg
  go_wp2_with fail
  go_loopw [5, 6] (fun o i wr => ∃ (A : Option Addr) (k cap j : Nat) (us : Nat → SNV) (l : List Snp), o = .slice A k cap ∧ i = .int .i64 j ∧ k + j ≤ mx ∧ Hid (TabI g Z m c z w wr A k cap us l)) (fun _ i _ => (intOf i).toNat)
  case atStart => exact ⟨none, 0, 0, r, _, _, rfl, rfl, by omega, HT1.out⟩
  case round =>
    obtain ⟨A, k, cap, j, us, l, rfl, rfl, hkj, HI⟩ := hrel
    rcases Nat.eq_zero_or_pos j with rfl | hpos
    · go_wp2_with fail
      go_ret
      exact ⟨A, k, cap, us, l, rfl, by omega, HI.out⟩
    · obtain ⟨b, rfl⟩ : ∃ b, j = b + 1 := ⟨j - 1, by omega⟩
      have e1 : (((b + 1 : Nat) : Int)) - 1 = (b : Int) := by omega
      go_wp2_with fail
      refine (one_gen g Z m c z 1 20 (by omega) _ _ _ (by rfl) (by decide +kernel) (by omega) wr (HI.out.tap.grown (World.grownBy_alloc wr _ none) (fun j hj => by cases hj)) hm).mono ?_
      rintro e w2 ⟨T, n, q, rfl, hn, ho2⟩
      obtain ⟨t, hx2⟩ := ho2.txt
      have HX2 := hide (show Txt g Z m c z wr w2 T n q t from ⟨hx2.rd, hx2.may, fun b hb => by have := hx2.new b hb; simp at this; omega, hx2.cap, hx2.tap, (World.grownBy_alloc wr _ (some g)).trans hx2.gr, HI.out.tap.lt⟩)
      clear ho2 hx2
      go_wp2_with fail
      refine (tshort_any g Z m c z 2 60 w2 HX2.out.tap hm (by omega) (by omega)).mono ?_
      rintro e w3 ⟨B, nb, qb, tb, rfl, hnb, hx3⟩
      have HX3 := hide hx3
      clear hx3
      have HI3 := hide ((HI.out.keep HX2.out.gr (fun b hb => by injection hb with hb; exact hb.symm) HX2.out.tap).keep HX3.out.gr (fun b hb => by injection hb with hb; exact hb.symm) HX3.out.tap)
      have HN := hide (news_box (Box.new w3 36 #[.slice T n q, .slice B nb qb]))
      have hsz := HI3.out.gr.size
      go_wp2_with (at_builtin
                   refine wpList_appG snipT rfl (.tmp 15) (.tmp 22) rfl w.heap.size rfl (HI3.out.row.alloc _) rfl HN.out (Each.one rfl (fun u hu => by simp at hu; rcases hu with rfl | rfl <;> rfl)) rfl (by omega) (by omega) (by omega) (by simp; omega) ?_
                   intro g4 c4 w4 hrow hg4 _ hor)
      have HI4 := hide (HI.out.more HX2.out HX3.out hn (by omega) _ hrow hg4 hor)
      clear hrow hg4 hor HN HI3
      go_roundw
      case rel => exact ⟨_, k + 1, c4, b, _, _, rfl, by first | rfl | go_num, by omega, HI4.out⟩
      case measure => simp [intOf]
end Go.Proofs.Ytkoieceifplphaa
