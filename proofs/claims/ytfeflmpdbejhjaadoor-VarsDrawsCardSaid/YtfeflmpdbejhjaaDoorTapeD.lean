/- Contracts of standishkeep.Tape: Next, Sign, Text: numbers below a bound, new texts; Plain: a string's bytes as runes. -/
import Derived.Test.YtfeflmpdbejhjaaDoorTextD
import Derived.OwnWalk
namespace Go.Proofs.YtfeflmpdbejhjaaDoor
open Go.RowKit
set_option linter.unusedVariables false

/-- The slice at A, n long, reads as the ints l. -/
structure IntsR (w : World) (A : Option Addr) (n : Nat) (l : List Int) : Prop where
  len : l.length = n
  at_ : ∀ j, j < n → ∃ b o, A = some ⟨b, o, none⟩ ∧ w.cell? ⟨b, o + j, none⟩ = some (.int .i64 (nth l j))
  wf : ∀ x ∈ l, -9223372036854775808 ≤ x ∧ x ≤ 9223372036854775807

theorem IntsR.keep {w w' : World} {A : Option Addr} {n : Nat} {l : List Int} (h : IntsR w A n l) (hk : ∀ b o, A = some ⟨b, o, none⟩ → 0 < n → w'.heap[b]? = w.heap[b]?) : IntsR w' A n l :=
  ⟨h.len, fun j hj => by
    obtain ⟨b, o, rfl, hc⟩ := h.at_ j hj
    exact ⟨b, o, rfl, (World.cell?_of_block (hk b o rfl (by omega))).trans hc⟩, h.wf⟩
theorem IntsR.lt {w : World} {A : Option Addr} {n : Nat} {l : List Int} (h : IntsR w A n l) (hn : 0 < n) {b o : Nat} (ha : A = some ⟨b, o, none⟩) : b < w.heap.size := by
  obtain ⟨b', o', h1, hc⟩ := h.at_ 0 hn
  rw [ha] at h1
  injection h1 with h1
  injection h1 with h1
  subst h1
  exact World.block_lt_of_cell? w _ hc
theorem IntsR.below {w w' : World} {A : Option Addr} {n : Nat} {l : List Int} (h : IntsR w A n l) (hb : Below w.heap.size w w') : IntsR w' A n l :=
  h.keep fun _ _ ha hn => hb.block _ (h.lt hn ha)

/-- A tape at block g over the ints z, read up to some place. -/
structure Tap (w : World) (g : Nat) (Z : Option Addr) (m c : Nat) (z : List Int) : Prop where
  box : ∃ i : Nat, i ≤ m ∧ Box w g 29 #[.slice Z m c, .int .i64 i]
  rd : IntsR w Z m z
  old : 0 < m → ∀ b o, Z = some ⟨b, o, none⟩ → b < g
theorem Tap.grown {w w' : World} {g : Nat} {Z : Option Addr} {m c : Nat} {z : List Int} {row : Option Nat} (h : Tap w g Z m c z) (hb : w.grownBy w' row) (hr : ∀ j, row = some j → g < j) : Tap w' g Z m c z := by
  obtain ⟨i, hi, hx⟩ := h.box
  refine ⟨⟨i, hi, hx.grown hb (fun e => by have := hr g e.symm; omega)⟩, h.rd.keep fun b o ha hn => hb.block b (h.rd.lt hn ha) (fun e => ?_), h.old⟩
  have h1 := hr b e.symm
  have h2 := h.old hn b o ha
  omega
theorem Tap.below {w w' : World} {g : Nat} {Z : Option Addr} {m c : Nat} {z : List Int} (h : Tap w g Z m c z) (hb : Below w.heap.size w w') : Tap w' g Z m c z := by
  obtain ⟨i, hi, hx⟩ := h.box
  exact ⟨⟨i, hi, hx.below hb⟩, h.rd.below hb, h.old⟩
theorem Tap.lt {w : World} {g : Nat} {Z : Option Addr} {m c : Nat} {z : List Int} (h : Tap w g Z m c z) : g < w.heap.size := by
  obtain ⟨i, _, hx⟩ := h.box
  exact hx.lt
/-- A tape, new. -/
theorem Tap.new {w : World} {Z : Option Addr} {m c : Nat} {z : List Int} (h : IntsR w Z m z) : Tap (w.alloc (.cells #[.slice Z m c, .int .i64 0] 29)) w.heap.size Z m c z :=
  ⟨⟨0, Nat.zero_le _, Box.new _ _ _⟩, h.keep fun _ _ ha hn => Below.heap_alloc _ _ _ (h.lt hn ha), fun hn b o ha => h.lt hn ha⟩

theorem belowD {B : Nat} {a w : World} (h : Below B a w) (n : Nat) : Below B a (w.drewN n) := ⟨h.os, h.tape, h.output, h.size, h.block⟩
theorem and_24 (k : Int) : 0 ≤ bits .and .i64 k 16777215 ∧ bits .and .i64 k 16777215 ≤ 16777215 := by
  have h : bits .and .i64 k 16777215 = IntKind.i64.wrap ((BitVec.ofInt 64 k &&& BitVec.ofInt 64 16777215).toNat : Int) := rfl
  have hb : (BitVec.ofInt 64 k &&& BitVec.ofInt 64 16777215).toNat ≤ 16777215 := by
    rw [BitVec.toNat_and]
    exact Nat.le_trans Nat.and_le_right (by decide)
  rw [h, IntKind.wrap_i64]
  omega

/-- A number below n is answered; only the tape has turned. -/
def NextR (n g : Nat) (Z : Option Addr) (m c : Nat) (z : List Int) (w : World) (e : Ending) (w' : World) : Prop :=
  ∃ r : Nat, e = .returned (.int .i64 r) ∧ r < n ∧ Tap w' g Z m c z ∧ w.grownBy w' (some g) ∧ w'.heap.size = w.heap.size

set_option maxRecDepth 100000 in
set_option maxHeartbeats 2000000 in
theorem next_any (n g : Nat) (Z : Option Addr) (m c : Nat) (z : List Int) (w : World) (h : Tap w g Z m c z) (hn : 0 < n) (hn2 : n ≤ 16777216) (hm : m ≤ 35184372088832) :
    Calls Tryd.prog 17 #[.pointer (some ⟨g, 0, none⟩), .int .i64 n] w (NextR n g Z m c z w) := by
  have HT := hide h
  obtain ⟨i, hi, hx⟩ := h.box
  have HX := hide hx
  have hrd := hide h.rd
  obtain ⟨⟨x0, x1⟩, z0, z1⟩ := hx.c2
  clear h hx
  have h1n : (1 : Int) ≤ (n : Int) := by omega
  by_cases hlt : i < m
  · obtain ⟨b, o, rfl, hc⟩ := hrd.out.at_ i hlt
    have h0 : (0 : Int) ≤ (i : Int) := by omega
    have h0' : (i : Int) < (m : Int) := by omega
    have hnz : ((n : Int) == 0) = false := by simp; omega
    go_enter Tryd.func17, Tryd.ntmps17
    go_wp2_with fail
    go_quiet (fail)
    go_wp2_with fail
    clear h1n
    go_quiet (fail)
    have hb := and_24 (nth z i)
    have hb1 := hb.1
    clear hc x0 h0 h0'
    generalize bits .and .i64 (nth z i) 16777215 = y at hb hb1 ⊢
    obtain ⟨y, rfl⟩ := Int.eq_ofNat_of_zero_le hb1
    go_wp2_with fail
    go_ret
    refine ⟨y % n, retI rfl, Nat.mod_lt _ hn, ⟨⟨i + 1, by omega, ?_⟩, hrd.out.keep fun b' o' ha hn' => ?_, HT.out.old⟩, grown_set (grown_drewN (World.grownBy.refl _ _) _) _ _, ?_⟩
    · exact (HX.out.drewN _).set 1 _
    · exact Below.heap_setCell _ _ _ _ (fun e => by have h1 := HT.out.old hn' _ _ ha; have h2 : b' = g := e; omega)
    · simp [World.setCell]
  · have h0 : (m : Int) ≤ (i : Int) := by omega
    go_enter Tryd.func17, Tryd.ntmps17
    go_wp2_with fail
    go_quiet (fail)
    go_wp2_with fail
    go_ret
    exact ⟨0, rfl, hn, HT.out.below (belowD (Below.refl _ _) _), grown_drewN (World.grownBy.refl _ _) _, rfl⟩

/-- A sign is answered; only the tape has turned. -/
def SignR (g : Nat) (Z : Option Addr) (m c : Nat) (z : List Int) (w : World) (e : Ending) (w' : World) : Prop :=
  ∃ r : Int, e = .returned (.int .i32 r) ∧ ((0 ≤ r ∧ r ≤ 1114111) ∧ isS r = true) ∧ Tap w' g Z m c z ∧ w.grownBy w' (some g) ∧ w'.heap.size = w.heap.size

set_option maxRecDepth 100000 in
set_option maxHeartbeats 2000000 in
theorem tsign_any (g : Nat) (Z : Option Addr) (m c : Nat) (z : List Int) (w : World) (h : Tap w g Z m c z) (hm : m ≤ 35184372088832) :
    Calls Tryd.prog 27 #[.pointer (some ⟨g, 0, none⟩)] w (SignR g Z m c z w) := by
  have HT := hide h
  clear h
  go_enter Tryd.func27, Tryd.ntmps27
  go_wp2_with fail
  refine (next_any 25 g Z m c z _ HT.out (by omega) (by omega) hm).mono ?_
  rintro e w' ⟨r, rfl, hr, ht, hg, hs⟩
  have HT := hide ht
  have HG := hide hg
  have HS := hide hs
  clear ht hg hs
  by_cases h22 : r < 22
  · have h1 : (r : Int) < 22 := by omega
    go_wp2_with fail
    go_ret
    refine ⟨_, rfl, ?_, HT.out, HG.out, HS.out⟩
    have key : ∀ x : UInt8, (0 ≤ wrap32 (x.toNat : Int) ∧ wrap32 (x.toNat : Int) ≤ 1114111) ∧ isS (wrap32 (x.toNat : Int)) = true := fun x => by
      have := x.toNat_lt
      have h : wrap32 (x.toNat : Int) = (x.toNat : Int) := by unfold wrap32; omega
      rw [h]
      refine ⟨by omega, ?_⟩
      simp [isS]
      omega
    exact key _
  · have hr3 : r = 22 ∨ r = 23 ∨ r = 24 := by omega
    clear hr h22
    rcases hr3 with rfl | rfl | rfl
    · rw [show (((22 : Nat)) : Int) = 22 from rfl]
      have hi : (Instr.index 68 (.agg #[.int .i32 233, .int .i32 215, .int .i32 128512]) (.int .i64 0)).run Tryd.prog w' = .ok (.int .i32 233) w' := by kernel_rfl
      go_wp2_with fail
      go_ret
      exact ⟨_, rfl, ⟨by omega, by decide⟩, HT.out, HG.out, HS.out⟩
    · rw [show (((23 : Nat)) : Int) = 23 from rfl]
      have hi : (Instr.index 68 (.agg #[.int .i32 233, .int .i32 215, .int .i32 128512]) (.int .i64 1)).run Tryd.prog w' = .ok (.int .i32 215) w' := by kernel_rfl
      go_wp2_with fail
      go_ret
      exact ⟨_, rfl, ⟨by omega, by decide⟩, HT.out, HG.out, HS.out⟩
    · rw [show (((24 : Nat)) : Int) = 24 from rfl]
      have hi : (Instr.index 68 (.agg #[.int .i32 233, .int .i32 215, .int .i32 128512]) (.int .i64 2)).run Tryd.prog w' = .ok (.int .i32 128512) w' := by kernel_rfl
      go_wp2_with fail
      go_ret
      exact ⟨_, rfl, ⟨by omega, by decide⟩, HT.out, HG.out, HS.out⟩

set_option maxRecDepth 100000 in
set_option maxHeartbeats 2000000 in
theorem text_any (n g : Nat) (Z : Option Addr) (m c : Nat) (z : List Int) (w : World) (h : Tap w g Z m c z) (hn : n ≤ 100000) (hm : m ≤ 35184372088832) :
    Calls Tryd.prog 15 #[.pointer (some ⟨g, 0, none⟩), .int .i64 n] w fun e w' =>
      ∃ A k cap l, e = .returned (.slice A k cap) ∧ k ≤ n ∧ Own w' w.heap.size A k cap l ∧ (∀ x ∈ l, (0 ≤ x ∧ x ≤ 1114111) ∧ isS x = true) ∧ Tap w' g Z m c z ∧ w.grownBy w' (some g) := by
  have HT0 := hide h
  clear h
  go_enter Tryd.func15, Tryd.ntmps15
  go_wp2_with fail
  refine (next_any (n + 1) g Z m c z _ HT0.out (by omega) (by omega) hm).mono ?_
  rintro e w1 ⟨r, rfl, hr, ht, hg, hs⟩
  have HT := hide ht
  have HG := hide hg
  clear ht hg hs
  go_wp2_with fail
  go_loopw [5, 6] (fun o i wr => ∃ (A : Option Addr) (k cap j : Nat) (l : List Int), o = .slice A k cap ∧ i = .int .i64 j ∧ k + j = r ∧ Own wr w.heap.size A k cap l ∧ Hid (∀ x ∈ l, (0 ≤ x ∧ x ≤ 1114111) ∧ isS x = true) ∧ Hid (Tap wr g Z m c z) ∧ Hid (w.grownBy wr (some g))) (fun _ i _ => (intOf i).toNat)
  case atStart => exact ⟨none, 0, 0, r, [], rfl, rfl, by omega, Own.nil _ _, (fun x hx => by cases hx), HT.out, HG.out⟩
  case round =>
    obtain ⟨A, k, cap, j, l, rfl, rfl, hkj, hown, hl, ht, hg⟩ := hrel
    have HO := hide hown
    have HKJ := hide hkj
    have hkn : k + j ≤ n := by omega
    clear hown hkj HT HG
    rcases Nat.eq_zero_or_pos j with rfl | hpos
    · go_wp2_with fail
      go_ret
      exact ⟨A, k, cap, l, rfl, by omega, HO.out, hl.out, ht.out, hg.out⟩
    · obtain ⟨b, rfl⟩ : ∃ b, j = b + 1 := ⟨j - 1, by omega⟩
      have e1 : (((b + 1 : Nat) : Int)) - 1 = (b : Int) := by omega
      have hgw : g < w.heap.size := HT0.out.lt
      have hws := hg.out.size
      go_wp2_with fail
      refine (tsign_any g Z m c z _ ht.out hm).mono ?_
      rintro e w2 ⟨x, rfl, hx, ht2, hg2, hs2⟩
      have HO2 := hide (HO.out.kept hg2 (.inr (fun e => by have := (HO.out.blk_ge _ e).1; omega)))
      have HT2 := hide ht2
      have HG2 := hide (hg.out.trans hg2)
      have hsz2 : w.heap.size ≤ w2.heap.size := by omega
      have HX := hide hx
      clear ht2 hg2 hs2 HO ht hg hx
      go_wp2_with (at_builtin
                   refine wpList_app rfl (.tmp 15) (.tmp 18) rfl w.heap.size rfl (HO2.out.alloc _) rfl (Runes.news _ _ _ [x] rfl (W32.one (by have := HX.out; omega))) (by simp; omega) (by simp; omega) ?_
                   intro A3 c3 w3 ho3 hg3 hb3 hbk _)
      have HO3 := hide ho3
      have HG2' := hide (HG2.out.andThen (World.grownBy_alloc w2 (.cells #[.int .i32 x] 21) none) (fun j h => by cases h))
      have HT2' := hide (HT2.out.grown (World.grownBy_alloc w2 (.cells #[.int .i32 x] 21) none) (fun j h => by cases h))
      have hown3 := (HO2.out.alloc (.cells #[.int .i32 x] 21))
      have HG3 := hide (HG2'.out.andThen hg3 (fun j h => .inl (hown3.blk_ge j h).1))
      have HT3 := hide (HT2'.out.grown hg3 (fun j h => by have := (hown3.blk_ge j h).1; omega))
      clear ho3 hg3 hb3 hbk hown3
      go_roundw
      case rel => exact ⟨A3, k + 1, c3, b, l ++ [x], rfl, by first | rfl | go_num, by have := HKJ.out; omega, HO3.out, (fun y hy => by
        rcases List.mem_append.1 hy with h1 | h1
        · exact hl.out y h1
        · rw [List.mem_singleton.1 h1]; exact HX.out), HT3.out, HG3.out⟩
      case measure => simp [intOf]
end Go.Proofs.YtfeflmpdbejhjaaDoor
