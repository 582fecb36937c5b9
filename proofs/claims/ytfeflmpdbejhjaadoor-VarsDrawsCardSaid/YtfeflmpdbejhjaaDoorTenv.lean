/- standishkeep.Tape.Env: an environment that may be. -/
import Derived.Test.YtfeflmpdbejhjaaDoorSame16
import Derived.Test.YtfeflmpdbejhjaaDoorNameD
import Derived.Test.YtfeflmpdbejhjaaDoorIntD
namespace Go.Proofs.YtfeflmpdbejhjaaDoor
open Go.RowKit
set_option linter.unusedVariables false

/-- The tape's parts at numbers typed out. -/
theorem text_at (n : Nat) (N : Int) (hN : N = (n : Int)) (g : Nat) (Z : Option Addr) (m c : Nat) (z : List Int) (w : World) (h : Tap w g Z m c z) (hn : n ≤ 100) (hm : m ≤ 35184372088832) :
    Calls Tryd.prog 15 #[.pointer (some ⟨g, 0, none⟩), .int .i64 N] w fun e w' => ∃ A k cap l, e = .returned (.slice A k cap) ∧ k ≤ 100 ∧ Own w' w.heap.size A k cap l ∧ mayS l = true ∧ Tap w' g Z m c z ∧ w.grownBy w' (some g) := by
  subst hN
  refine (text_any n g Z m c z w h (by omega) hm).mono ?_
  rintro e w' ⟨A, k, cap, l, rfl, hk, ho, hl, ht, hg⟩
  refine ⟨A, k, cap, l, rfl, by omega, ho, ?_, ht, hg⟩
  unfold mayS
  rw [List.all_eq_true]
  exact fun x hx => (hl x hx).2
theorem next_at (n : Nat) (N : Int) (hN : N = (n : Int)) (g : Nat) (Z : Option Addr) (m c : Nat) (z : List Int) (w : World) (h : Tap w g Z m c z) (hn : 0 < n) (hn2 : n ≤ 16777216) (hm : m ≤ 35184372088832) :
    Calls Tryd.prog 17 #[.pointer (some ⟨g, 0, none⟩), .int .i64 N] w fun e w' => ∃ r : Nat, e = .returned (.int .i64 ((r : Nat) : Int)) ∧ r < n ∧ Tap w' g Z m c z ∧ w.grownBy w' (some g) := by
  subst hN
  refine (next_any n g Z m c z w h hn hn2 hm).mono ?_
  rintro e w' ⟨r, rfl, hr, ht, hg, -⟩
  exact ⟨r, rfl, hr, ht, hg⟩
/-- A text of the call's own, short, of signs. -/
def TxO (B : Nat) (w : World) (A : Option Addr) (k c : Nat) : Prop := ∃ l, Own w B A k c l ∧ mayS l = true ∧ k ≤ 100
theorem TxO.go {B g : Nat} {w w' : World} {A : Option Addr} {k c : Nat} (h : TxO B w A k c) (hg : w.grownBy w' (some g)) (hlt : g < B) : TxO B w' A k c := by
  obtain ⟨l, ho, hm, hk⟩ := h
  exact ⟨l, ho.kept hg (.inr fun e => by have := (ho.blk_ge g e).1; omega), hm, hk⟩
theorem TxO.al {B : Nat} {w : World} {A : Option Addr} {k c : Nat} (h : TxO B w A k c) (o : Obj) : TxO B (w.alloc o) A k c := by
  obtain ⟨l, ho, hm, hk⟩ := h
  exact ⟨l, ho.alloc o, hm, hk⟩
/-- Only the tape has turned since. -/
structure Since (g : Nat) (Z : Option Addr) (m c : Nat) (z : List Int) (w0 w : World) : Prop where
  tap : Tap w g Z m c z
  gr : w0.grownBy w (some g)
theorem Since.al {g m c : Nat} {Z : Option Addr} {z : List Int} {w0 w : World} (h : Since g Z m c z w0 w) (o : Obj) : Since g Z m c z w0 (w.alloc o) :=
  ⟨h.tap.grown (World.grownBy_alloc w o none) (fun j hj => by cases hj), h.gr.trans (World.grownBy_alloc w o _)⟩
theorem Since.go {g m c : Nat} {Z : Option Addr} {z : List Int} {w0 w w' : World} (h : Since g Z m c z w0 w) (ht : Tap w' g Z m c z) (hg : w.grownBy w' (some g)) : Since g Z m c z w0 w' := ⟨ht, h.gr.trans hg⟩
theorem Since.gr_ {g m c : Nat} {Z : Option Addr} {z : List Int} {w0 w w' : World} (h : Since g Z m c z w0 w) {row : Option Nat} (hg : w.grownBy w' row) (hr : ∀ j, row = some j → w0.heap.size ≤ j ∧ g < j) : Since g Z m c z w0 w' :=
  ⟨h.tap.grown hg (fun j hj => (hr j hj).2), h.gr.andThen hg (fun j hj => .inl (hr j hj).1)⟩
/-- A short text of the call's own, in a block below U. -/
def TxU (B U : Nat) (w : World) (A : Option Addr) (k c : Nat) : Prop := ∃ l, Own w B A k c l ∧ mayS l = true ∧ k ≤ 100 ∧ ∀ b, blk A = some b → b < U
theorem TxO.upto {B U : Nat} {w : World} {A : Option Addr} {k c : Nat} (h : TxO B w A k c) (hU : w.heap.size = U) : TxU B U w A k c := by
  obtain ⟨l, ho, hm, hk⟩ := h
  exact ⟨l, ho, hm, hk, fun b hb => hU ▸ (ho.blk_ge b hb).2⟩
theorem TxU.gr {B U : Nat} {w w' : World} {A : Option Addr} {k c : Nat} (h : TxU B U w A k c) {row : Option Nat} (hg : w.grownBy w' row) (hr : ∀ j, row = some j → j < B ∨ U ≤ j) : TxU B U w' A k c := by
  obtain ⟨l, ho, hm, hk, hu⟩ := h
  refine ⟨l, ho.kept hg ?_, hm, hk, hu⟩
  cases hb : blk A with
  | none => exact .inl rfl
  | some b =>
    refine .inr fun e => ?_
    have h1 := hr b e.symm
    have h2 := (ho.blk_ge b hb).1
    have h3 := hu b hb
    omega
/-- The environment while its draws are made. -/
structure EnvL (g : Nat) (Z : Option Addr) (m c : Nat) (z : List Int) (w1 : World) (gr ge : Nat) (T : Fin 6 → SH) (x : Int) (ck : Fin 7 → Int) (w : World) (A : Option Addr) (j cap : Nat) (l : List Int) : Prop where
  snc : Since g Z m c z w1 w
  tx : ∀ i, TxU w1.heap.size ge w (T i).A (T i).n (T i).c
  xr : Box w gr 26 #[.slice none 0 0, .slice none 0 0, .slice none 0 0, .slice none 0 0, .slice none 0 0, .slice none 0 0, .int .i64 0, .int .i64 0, .int .i64 0, .int .i64 0, .int .i64 0, .int .i64 0, .int .i64 0, .int .i64 0, .slice none 0 0]
  xe : Box w ge 26 (EnvH.mk T x ck ⟨A, j, cap⟩).cells
  row : RowI w (ge + 1) A j cap l
  bd : ∀ v ∈ l, 0 ≤ v ∧ v ≤ 16777215
  lo : g < w1.heap.size ∧ gr < w1.heap.size ∧ w1.heap.size ≤ ge ∧ g ≠ gr
section
variable {g m c : Nat} {Z : Option Addr} {z : List Int} {w1 : World} {gr ge : Nat} {T : Fin 6 → SH} {x : Int} {ck : Fin 7 → Int} {w w' : World} {A : Option Addr} {j cap : Nat} {l : List Int}
theorem EnvL.next (h : EnvL g Z m c z w1 gr ge T x ck w A j cap l) (ht : Tap w' g Z m c z) (hg : w.grownBy w' (some g)) : EnvL g Z m c z w1 gr ge T x ck w' A j cap l := by
  obtain ⟨l1, l2, l3, l4⟩ := h.lo
  refine ⟨h.snc.go ht hg, fun i => (h.tx i).gr hg (fun j hj => .inl (by injection hj with hj; omega)), h.xr.grown hg (fun e => by injection e with e; omega), h.xe.grown hg (fun e => by injection e with e; omega), h.row.kept hg ?_, h.bd, h.lo⟩
  cases hb : blk A with
  | none => exact .inl rfl
  | some b => exact .inr fun e => by have h1 := (h.row.blk_ge b hb).1; injection e with e; omega
theorem EnvL.alloc (h : EnvL g Z m c z w1 gr ge T x ck w A j cap l) (o : Obj) : EnvL g Z m c z w1 gr ge T x ck (w.alloc o) A j cap l :=
  ⟨h.snc.al o, fun i => (h.tx i).gr (World.grownBy_alloc w o none) (fun j hj => by cases hj), h.xr.alloc o, h.xe.alloc o, h.row.alloc o, h.bd, h.lo⟩
theorem EnvL.put (h : EnvL g Z m c z w1 gr ge T x ck w A j cap l) {A' : Option Addr} {c' : Nat} {y : Int} (hy : 0 ≤ y ∧ y ≤ 16777215) (hr : RowI w' (ge + 1) A' (j + 1) c' (l ++ [y])) (hg : w.grownBy w' (blk A)) :
    EnvL g Z m c z w1 gr ge T x ck (w'.setCell ⟨ge, 14, none⟩ (.slice A' (j + 1) c')) A' (j + 1) c' (l ++ [y]) := by
  obtain ⟨l1, l2, l3, l4⟩ := h.lo
  have hB : ∀ b, blk A = some b → ge < b := fun b hb => by have := (h.row.blk_ge b hb).1; omega
  have s0 := h.snc.gr_ hg (fun b hb => by have := hB b hb; omega)
  have s1 : w'.grownBy (w'.setCell ⟨ge, 14, none⟩ (.slice A' (j + 1) c')) (some ge) := grown_set (World.grownBy.refl w' (some ge)) 14 _
  refine ⟨s0.gr_ s1 (fun b hb => by injection hb with hb; omega), fun i => ((h.tx i).gr hg (fun b hb => .inr (by have := hB b hb; omega))).gr s1 (fun b hb => .inr (by injection hb with hb; omega)), ?_, ?_, ?_, ?_, h.lo⟩
  · exact (h.xr.grown hg (fun e => by have := hB gr e.symm; omega)).grown s1 (fun e => by injection e with e; omega)
  · exact (h.xe.grown hg (fun e => by have := hB ge e.symm; omega)).set 14 _
  · refine hr.kept s1 ?_
    cases hb : blk A' with
    | none => exact .inl rfl
    | some b => exact .inr fun e => by have h1 := (hr.blk_ge b hb).1; injection e with e; omega
  · intro v hv
    rcases List.mem_append.1 hv with h1 | h1
    · exact h.bd v h1
    · rw [List.mem_singleton.1 h1]; exact hy
end
/-- Env answers an environment that may be; its draws are a row of the call's own, above its texts. -/
def EnvQ (g : Nat) (Z : Option Addr) (m c : Nat) (z : List Int) (w : World) (r : Ending) (w' : World) : Prop :=
  ∃ e v B', r = .returned e.v ∧ EnvR w' e v ∧ mayE v = true ∧ w.heap.size ≤ B' ∧ RowI w' B' e.d.A e.d.n e.d.c v.d ∧ (∀ i b, blk (e.t i).A = some b → w.heap.size ≤ b ∧ b < B') ∧ Tap w' g Z m c z ∧ w.grownBy w' (some g)
theorem set15 {w : World} {g : Nat} {t : TypeId} {u0 u1 u2 u3 u4 u5 u6 u7 u8 u9 u10 u11 u12 u13 u14 : Value} (h : Box w g t #[u0, u1, u2, u3, u4, u5, u6, u7, u8, u9, u10, u11, u12, u13, u14]) (v0 v1 v2 v3 v4 v5 v6 v7 v8 v9 v10 v11 v12 v13 v14 : Value) : Box (((((((((((((((w.setCell ⟨g, 0, none⟩ v0).setCell ⟨g, 1, none⟩ v1).setCell ⟨g, 2, none⟩ v2).setCell ⟨g, 3, none⟩ v3).setCell ⟨g, 4, none⟩ v4).setCell ⟨g, 5, none⟩ v5).setCell ⟨g, 6, none⟩ v6).setCell ⟨g, 7, none⟩ v7).setCell ⟨g, 8, none⟩ v8).setCell ⟨g, 9, none⟩ v9).setCell ⟨g, 10, none⟩ v10).setCell ⟨g, 11, none⟩ v11).setCell ⟨g, 12, none⟩ v12).setCell ⟨g, 13, none⟩ v13).setCell ⟨g, 14, none⟩ v14) g t #[v0, v1, v2, v3, v4, v5, v6, v7, v8, v9, v10, v11, v12, v13, v14] ∧ w.grownBy (((((((((((((((w.setCell ⟨g, 0, none⟩ v0).setCell ⟨g, 1, none⟩ v1).setCell ⟨g, 2, none⟩ v2).setCell ⟨g, 3, none⟩ v3).setCell ⟨g, 4, none⟩ v4).setCell ⟨g, 5, none⟩ v5).setCell ⟨g, 6, none⟩ v6).setCell ⟨g, 7, none⟩ v7).setCell ⟨g, 8, none⟩ v8).setCell ⟨g, 9, none⟩ v9).setCell ⟨g, 10, none⟩ v10).setCell ⟨g, 11, none⟩ v11).setCell ⟨g, 12, none⟩ v12).setCell ⟨g, 13, none⟩ v13).setCell ⟨g, 14, none⟩ v14) (some g) := by
  have h0 : Box (w.setCell ⟨g, 0, none⟩ v0) g t #[v0, u1, u2, u3, u4, u5, u6, u7, u8, u9, u10, u11, u12, u13, u14] := h.set 0 v0
  have h1 : Box ((w.setCell ⟨g, 0, none⟩ v0).setCell ⟨g, 1, none⟩ v1) g t #[v0, v1, u2, u3, u4, u5, u6, u7, u8, u9, u10, u11, u12, u13, u14] := h0.set 1 v1
  have h2 : Box (((w.setCell ⟨g, 0, none⟩ v0).setCell ⟨g, 1, none⟩ v1).setCell ⟨g, 2, none⟩ v2) g t #[v0, v1, v2, u3, u4, u5, u6, u7, u8, u9, u10, u11, u12, u13, u14] := h1.set 2 v2
  have h3 : Box ((((w.setCell ⟨g, 0, none⟩ v0).setCell ⟨g, 1, none⟩ v1).setCell ⟨g, 2, none⟩ v2).setCell ⟨g, 3, none⟩ v3) g t #[v0, v1, v2, v3, u4, u5, u6, u7, u8, u9, u10, u11, u12, u13, u14] := h2.set 3 v3
  have h4 : Box (((((w.setCell ⟨g, 0, none⟩ v0).setCell ⟨g, 1, none⟩ v1).setCell ⟨g, 2, none⟩ v2).setCell ⟨g, 3, none⟩ v3).setCell ⟨g, 4, none⟩ v4) g t #[v0, v1, v2, v3, v4, u5, u6, u7, u8, u9, u10, u11, u12, u13, u14] := h3.set 4 v4
  have h5 : Box ((((((w.setCell ⟨g, 0, none⟩ v0).setCell ⟨g, 1, none⟩ v1).setCell ⟨g, 2, none⟩ v2).setCell ⟨g, 3, none⟩ v3).setCell ⟨g, 4, none⟩ v4).setCell ⟨g, 5, none⟩ v5) g t #[v0, v1, v2, v3, v4, v5, u6, u7, u8, u9, u10, u11, u12, u13, u14] := h4.set 5 v5
  have h6 : Box (((((((w.setCell ⟨g, 0, none⟩ v0).setCell ⟨g, 1, none⟩ v1).setCell ⟨g, 2, none⟩ v2).setCell ⟨g, 3, none⟩ v3).setCell ⟨g, 4, none⟩ v4).setCell ⟨g, 5, none⟩ v5).setCell ⟨g, 6, none⟩ v6) g t #[v0, v1, v2, v3, v4, v5, v6, u7, u8, u9, u10, u11, u12, u13, u14] := h5.set 6 v6
  have h7 : Box ((((((((w.setCell ⟨g, 0, none⟩ v0).setCell ⟨g, 1, none⟩ v1).setCell ⟨g, 2, none⟩ v2).setCell ⟨g, 3, none⟩ v3).setCell ⟨g, 4, none⟩ v4).setCell ⟨g, 5, none⟩ v5).setCell ⟨g, 6, none⟩ v6).setCell ⟨g, 7, none⟩ v7) g t #[v0, v1, v2, v3, v4, v5, v6, v7, u8, u9, u10, u11, u12, u13, u14] := h6.set 7 v7
  have h8 : Box (((((((((w.setCell ⟨g, 0, none⟩ v0).setCell ⟨g, 1, none⟩ v1).setCell ⟨g, 2, none⟩ v2).setCell ⟨g, 3, none⟩ v3).setCell ⟨g, 4, none⟩ v4).setCell ⟨g, 5, none⟩ v5).setCell ⟨g, 6, none⟩ v6).setCell ⟨g, 7, none⟩ v7).setCell ⟨g, 8, none⟩ v8) g t #[v0, v1, v2, v3, v4, v5, v6, v7, v8, u9, u10, u11, u12, u13, u14] := h7.set 8 v8
  have h9 : Box ((((((((((w.setCell ⟨g, 0, none⟩ v0).setCell ⟨g, 1, none⟩ v1).setCell ⟨g, 2, none⟩ v2).setCell ⟨g, 3, none⟩ v3).setCell ⟨g, 4, none⟩ v4).setCell ⟨g, 5, none⟩ v5).setCell ⟨g, 6, none⟩ v6).setCell ⟨g, 7, none⟩ v7).setCell ⟨g, 8, none⟩ v8).setCell ⟨g, 9, none⟩ v9) g t #[v0, v1, v2, v3, v4, v5, v6, v7, v8, v9, u10, u11, u12, u13, u14] := h8.set 9 v9
  have h10 : Box (((((((((((w.setCell ⟨g, 0, none⟩ v0).setCell ⟨g, 1, none⟩ v1).setCell ⟨g, 2, none⟩ v2).setCell ⟨g, 3, none⟩ v3).setCell ⟨g, 4, none⟩ v4).setCell ⟨g, 5, none⟩ v5).setCell ⟨g, 6, none⟩ v6).setCell ⟨g, 7, none⟩ v7).setCell ⟨g, 8, none⟩ v8).setCell ⟨g, 9, none⟩ v9).setCell ⟨g, 10, none⟩ v10) g t #[v0, v1, v2, v3, v4, v5, v6, v7, v8, v9, v10, u11, u12, u13, u14] := h9.set 10 v10
  have h11 : Box ((((((((((((w.setCell ⟨g, 0, none⟩ v0).setCell ⟨g, 1, none⟩ v1).setCell ⟨g, 2, none⟩ v2).setCell ⟨g, 3, none⟩ v3).setCell ⟨g, 4, none⟩ v4).setCell ⟨g, 5, none⟩ v5).setCell ⟨g, 6, none⟩ v6).setCell ⟨g, 7, none⟩ v7).setCell ⟨g, 8, none⟩ v8).setCell ⟨g, 9, none⟩ v9).setCell ⟨g, 10, none⟩ v10).setCell ⟨g, 11, none⟩ v11) g t #[v0, v1, v2, v3, v4, v5, v6, v7, v8, v9, v10, v11, u12, u13, u14] := h10.set 11 v11
  have h12 : Box (((((((((((((w.setCell ⟨g, 0, none⟩ v0).setCell ⟨g, 1, none⟩ v1).setCell ⟨g, 2, none⟩ v2).setCell ⟨g, 3, none⟩ v3).setCell ⟨g, 4, none⟩ v4).setCell ⟨g, 5, none⟩ v5).setCell ⟨g, 6, none⟩ v6).setCell ⟨g, 7, none⟩ v7).setCell ⟨g, 8, none⟩ v8).setCell ⟨g, 9, none⟩ v9).setCell ⟨g, 10, none⟩ v10).setCell ⟨g, 11, none⟩ v11).setCell ⟨g, 12, none⟩ v12) g t #[v0, v1, v2, v3, v4, v5, v6, v7, v8, v9, v10, v11, v12, u13, u14] := h11.set 12 v12
  have h13 : Box ((((((((((((((w.setCell ⟨g, 0, none⟩ v0).setCell ⟨g, 1, none⟩ v1).setCell ⟨g, 2, none⟩ v2).setCell ⟨g, 3, none⟩ v3).setCell ⟨g, 4, none⟩ v4).setCell ⟨g, 5, none⟩ v5).setCell ⟨g, 6, none⟩ v6).setCell ⟨g, 7, none⟩ v7).setCell ⟨g, 8, none⟩ v8).setCell ⟨g, 9, none⟩ v9).setCell ⟨g, 10, none⟩ v10).setCell ⟨g, 11, none⟩ v11).setCell ⟨g, 12, none⟩ v12).setCell ⟨g, 13, none⟩ v13) g t #[v0, v1, v2, v3, v4, v5, v6, v7, v8, v9, v10, v11, v12, v13, u14] := h12.set 13 v13
  have h14 : Box (((((((((((((((w.setCell ⟨g, 0, none⟩ v0).setCell ⟨g, 1, none⟩ v1).setCell ⟨g, 2, none⟩ v2).setCell ⟨g, 3, none⟩ v3).setCell ⟨g, 4, none⟩ v4).setCell ⟨g, 5, none⟩ v5).setCell ⟨g, 6, none⟩ v6).setCell ⟨g, 7, none⟩ v7).setCell ⟨g, 8, none⟩ v8).setCell ⟨g, 9, none⟩ v9).setCell ⟨g, 10, none⟩ v10).setCell ⟨g, 11, none⟩ v11).setCell ⟨g, 12, none⟩ v12).setCell ⟨g, 13, none⟩ v13).setCell ⟨g, 14, none⟩ v14) g t #[v0, v1, v2, v3, v4, v5, v6, v7, v8, v9, v10, v11, v12, v13, v14] := h13.set 14 v14
  exact ⟨h14, (grown_set (grown_set (grown_set (grown_set (grown_set (grown_set (grown_set (grown_set (grown_set (grown_set (grown_set (grown_set (grown_set (grown_set (grown_set (World.grownBy.refl w (some g)) 0 v0) 1 v1) 2 v2) 3 v3) 4 v4) 5 v5) 6 v6) 7 v7) 8 v8) 9 v9) 10 v10) 11 v11) 12 v12) 13 v13) 14 v14)⟩
theorem env_done {g m c : Nat} {Z : Option Addr} {z : List Int} {w w1 : World} {gr ge : Nat} {T : Fin 6 → SH} {x : Int} {ck : Fin 7 → Int} {wr : World} {A : Option Addr} {j cap : Nat} {l : List Int} (h : EnvL g Z m c z w1 gr ge T x ck wr A j cap l) (h0 : w.grownBy w1 (some g)) (hgr : w.heap.size = gr) (hg : g < w.heap.size) (hj : j ≤ 8) (hx : 0 ≤ x ∧ x ≤ 9999) (hck : clockOk ck = true) (W : World) (hG : wr.grownBy W (some gr)) :
    EnvQ g Z m c z w (.returned (EnvH.mk T x ck ⟨A, j, cap⟩).v) W := by
  obtain ⟨l1, l2, l3, l4⟩ := h.lo
  have htx : ∀ i, TxU w1.heap.size ge W (T i).A (T i).n (T i).c := fun i => (h.tx i).gr hG (fun b hb => .inl (by injection hb with hb; omega))
  have hrow : RowI W (ge + 1) A j cap l := h.row.kept hG (by
    cases hb : blk A with
    | none => exact .inl rfl
    | some b => exact .inr fun e => by have h1 := (h.row.blk_ge b hb).1; injection e with e; omega)
  have hlen : l.length = j := RowI.len hrow
  have hck2 := hck
  unfold clockOk at hck2
  simp only [Bool.and_eq_true, inB_iff] at hck2
  obtain ⟨⟨⟨⟨⟨⟨c0, c1⟩, c2⟩, c3⟩, c4⟩, c5⟩, c6⟩ := hck2
  have hL : ∀ i, Own W w1.heap.size (T i).A (T i).n (T i).c (htx i).choose ∧ mayS (htx i).choose = true ∧ (T i).n ≤ 100 ∧ ∀ b, blk (T i).A = some b → b < ge := fun i => (htx i).choose_spec
  have hsh : ∀ i, shortS ((htx i).choose) = true := fun i => by
    obtain ⟨ho, hm, hk, _⟩ := hL i
    have := ho.len
    unfold shortS
    rw [hm, decide_eq_true (by omega)]
    rfl
  refine ⟨EnvH.mk T x ck ⟨A, j, cap⟩, EnvV.mk (fun i => (htx i).choose) x ck l, ge + 1, rfl, ⟨fun i => (hL i).1.runes, fun i => ?_, ?_, ?_, rfl, rfl, ?_, fun i => ?_⟩, mayE_yes (hsh 0) (hsh 1) (hsh 2) (hsh 3) (hsh 4) (hsh 5) (inB_iff.2 hx) ?_ ?_ hck, ?_, hrow, fun i b hb => ?_, ?_, ?_⟩
  · obtain ⟨ho, hm, hk, _⟩ := hL i
    have := ho.cap
    show (T i).n ≤ _ ∧ (T i).n ≤ (T i).c
    omega
  · have hr := RowI.read hrow
    exact ⟨hr.len, hr.at_, fun v hv => by have := h.bd v hv; omega⟩
  · show j ≤ _
    omega
  · show _ ∧ _
    dsimp only
    omega
  · dsimp only
    match i with
    | 0 => omega
    | 1 => omega
    | 2 => omega
    | 3 => omega
    | 4 => omega
    | 5 => omega
    | 6 => omega
  · show l.length ≤ 40
    omega
  · show (l.all fun x => inB x 0 16777215) = true
    rw [List.all_eq_true]
    exact fun v hv => inB_iff.2 (h.bd v hv)
  · have := h0.size
    omega
  · have h1 := ((hL i).1.blk_ge b hb).1
    have h2 := (hL i).2.2.2 b hb
    have h3 := h0.size
    omega
  · exact h.snc.tap.grown hG (fun b hb => by injection hb with hb; omega)
  · exact (h0.trans h.snc.gr).andThen hG (fun b hb => .inl (by injection hb with hb; omega))


set_option maxRecDepth 100000 in
set_option maxHeartbeats 8000000 in
theorem tenv_any (g : Nat) (Z : Option Addr) (m c : Nat) (z : List Int) (w : World) (h : Tap w g Z m c z) (hm : m ≤ 35184372088832) :
    Calls Tryd.prog 7 #[.pointer (some ⟨g, 0, none⟩)] w (EnvQ g Z m c z w) := by
  have hlt := h.lt
  obtain ⟨gr, hgr⟩ : ∃ gr, w.heap.size = gr := ⟨_, rfl⟩
  have HXR := hide (Box.newAt hgr 26 #[.slice none 0 0, .slice none 0 0, .slice none 0 0, .slice none 0 0, .slice none 0 0, .slice none 0 0, .int .i64 0, .int .i64 0, .int .i64 0, .int .i64 0, .int .i64 0, .int .i64 0, .int .i64 0, .int .i64 0, .slice none 0 0])
  have HS1 := hide (show Since g Z m c z (w.alloc (.cells #[.slice none 0 0, .slice none 0 0, .slice none 0 0, .slice none 0 0, .slice none 0 0, .slice none 0 0, .int .i64 0, .int .i64 0, .int .i64 0, .int .i64 0, .int .i64 0, .int .i64 0, .int .i64 0, .int .i64 0, .slice none 0 0] 26)) (w.alloc (.cells #[.slice none 0 0, .slice none 0 0, .slice none 0 0, .slice none 0 0, .slice none 0 0, .slice none 0 0, .int .i64 0, .int .i64 0, .int .i64 0, .int .i64 0, .int .i64 0, .int .i64 0, .int .i64 0, .int .i64 0, .slice none 0 0] 26)) from ⟨h.grown (World.grownBy_alloc w _ none) (fun j hj => by cases hj), World.grownBy.refl _ _⟩)
  have HG0 := hide (World.grownBy_alloc w (.cells #[.slice none 0 0, .slice none 0 0, .slice none 0 0, .slice none 0 0, .slice none 0 0, .slice none 0 0, .int .i64 0, .int .i64 0, .int .i64 0, .int .i64 0, .int .i64 0, .int .i64 0, .int .i64 0, .int .i64 0, .slice none 0 0] 26) (some g))
  have hszr : (w.alloc (.cells #[.slice none 0 0, .slice none 0 0, .slice none 0 0, .slice none 0 0, .slice none 0 0, .slice none 0 0, .int .i64 0, .int .i64 0, .int .i64 0, .int .i64 0, .int .i64 0, .int .i64 0, .int .i64 0, .int .i64 0, .slice none 0 0] 26)).heap.size = w.heap.size + 1 := size_al _ _
  clear h
  go_enter Tryd.func7, Tryd.ntmps7
  go_upto_region 1 with fail
  generalize w.alloc (.cells #[.slice none 0 0, .slice none 0 0, .slice none 0 0, .slice none 0 0, .slice none 0 0, .slice none 0 0, .int .i64 0, .int .i64 0, .int .i64 0, .int .i64 0, .int .i64 0, .int .i64 0, .int .i64 0, .int .i64 0, .slice none 0 0] 26) = w1 at HXR HS1 HG0 hszr ⊢
  have hg1 : g < w1.heap.size := by omega
  have hgg : g ≠ gr := by omega
  have HSZ := hide hszr
  clear hszr
  go_upto_region 2 with (first
    | (go_at_call 15; (with_reducible refine (text_at 6 6 rfl g Z m c z w1 HS1.out.tap (by omega) hm).mono ?_); rintro e w2 ⟨A0, k0, c0, l0, rfl, hk, ho, hl, ht, hg⟩
       have HT0 := hide (show TxO w1.heap.size w2 A0 k0 c0 from ⟨l0, ho.mono HS1.out.gr.size, hl, hk⟩)
       have HS2 := hide (HS1.out.go ht hg)
       clear hk ho hl ht hg)
    | (go_at_call 15; (with_reducible refine (text_at 8 8 rfl g Z m c z w2 HS2.out.tap (by omega) hm).mono ?_); rintro e w3 ⟨A1, k1, c1, l1, rfl, hk, ho, hl, ht, hg⟩
       have HT0 := hide (HT0.out.go hg hg1)
       have HT1 := hide (show TxO w1.heap.size w3 A1 k1 c1 from ⟨l1, ho.mono HS2.out.gr.size, hl, hk⟩)
       have HS3 := hide (HS2.out.go ht hg)
       clear hk ho hl ht hg)
    | (go_at_call 15; (with_reducible refine (text_at 3 3 rfl g Z m c z w3 HS3.out.tap (by omega) hm).mono ?_); rintro e w4 ⟨A2, k2, c2, l2, rfl, hk, ho, hl, ht, hg⟩
       have HT0 := hide (HT0.out.go hg hg1)
       have HT1 := hide (HT1.out.go hg hg1)
       have HT2 := hide (show TxO w1.heap.size w4 A2 k2 c2 from ⟨l2, ho.mono HS3.out.gr.size, hl, hk⟩)
       have HS4 := hide (HS3.out.go ht hg)
       clear hk ho hl ht hg)
    | (go_at_call 16; (with_reducible refine (one_lit g Z m c z #[.string ⟨#[97, 46, 103, 111]⟩, .string ⟨#[120]⟩, .string ⟨#[46, 114, 99]⟩, .string ⟨#[98, 46, 116, 97, 114, 46, 103, 122]⟩, .string ⟨#[]⟩] 9 5 rfl (by kernel_rfl) (by omega) w4 (HS4.out.al _).tap hm).mono ?_); rintro e w5 ⟨A3, k3, c3, rfl, hk, hO⟩
       obtain ⟨l3, ho, hl⟩ := hO.own
       have hg := hO.gr
       have ht := hO.tap
       have HT0 := hide (HT0.out.al (.cells #[.string ⟨#[97, 46, 103, 111]⟩, .string ⟨#[120]⟩, .string ⟨#[46, 114, 99]⟩, .string ⟨#[98, 46, 116, 97, 114, 46, 103, 122]⟩, .string ⟨#[]⟩] 9))
       have HT1 := hide (HT1.out.al (.cells #[.string ⟨#[97, 46, 103, 111]⟩, .string ⟨#[120]⟩, .string ⟨#[46, 114, 99]⟩, .string ⟨#[98, 46, 116, 97, 114, 46, 103, 122]⟩, .string ⟨#[]⟩] 9))
       have HT2 := hide (HT2.out.al (.cells #[.string ⟨#[97, 46, 103, 111]⟩, .string ⟨#[120]⟩, .string ⟨#[46, 114, 99]⟩, .string ⟨#[98, 46, 116, 97, 114, 46, 103, 122]⟩, .string ⟨#[]⟩] 9))
       have HT0 := hide (HT0.out.go hg hg1)
       have HT1 := hide (HT1.out.go hg hg1)
       have HT2 := hide (HT2.out.go hg hg1)
       have HT3 := hide (show TxO w1.heap.size w5 A3 k3 c3 from ⟨l3, ho.mono (HS4.out.al (.cells #[.string ⟨#[97, 46, 103, 111]⟩, .string ⟨#[120]⟩, .string ⟨#[46, 114, 99]⟩, .string ⟨#[98, 46, 116, 97, 114, 46, 103, 122]⟩, .string ⟨#[]⟩] 9)).gr.size, hl, by omega⟩)
       have HS5 := hide ((HS4.out.al (.cells #[.string ⟨#[97, 46, 103, 111]⟩, .string ⟨#[120]⟩, .string ⟨#[46, 114, 99]⟩, .string ⟨#[98, 46, 116, 97, 114, 46, 103, 122]⟩, .string ⟨#[]⟩] 9)).go ht hg)
       clear hk ho hl ht hg hO)
    | (go_at_call 16; (with_reducible refine (one_lit g Z m c z #[.string ⟨#[47, 104, 111, 109, 101]⟩, .string ⟨#[]⟩, .string ⟨#[99]⟩] 9 3 rfl (by kernel_rfl) (by omega) w5 (HS5.out.al _).tap hm).mono ?_); rintro e w6 ⟨A4, k4, c4, rfl, hk, hO⟩
       obtain ⟨l4, ho, hl⟩ := hO.own
       have hg := hO.gr
       have ht := hO.tap
       have HT0 := hide (HT0.out.al (.cells #[.string ⟨#[47, 104, 111, 109, 101]⟩, .string ⟨#[]⟩, .string ⟨#[99]⟩] 9))
       have HT1 := hide (HT1.out.al (.cells #[.string ⟨#[47, 104, 111, 109, 101]⟩, .string ⟨#[]⟩, .string ⟨#[99]⟩] 9))
       have HT2 := hide (HT2.out.al (.cells #[.string ⟨#[47, 104, 111, 109, 101]⟩, .string ⟨#[]⟩, .string ⟨#[99]⟩] 9))
       have HT3 := hide (HT3.out.al (.cells #[.string ⟨#[47, 104, 111, 109, 101]⟩, .string ⟨#[]⟩, .string ⟨#[99]⟩] 9))
       have HT0 := hide (HT0.out.go hg hg1)
       have HT1 := hide (HT1.out.go hg hg1)
       have HT2 := hide (HT2.out.go hg hg1)
       have HT3 := hide (HT3.out.go hg hg1)
       have HT4 := hide (show TxO w1.heap.size w6 A4 k4 c4 from ⟨l4, ho.mono (HS5.out.al (.cells #[.string ⟨#[47, 104, 111, 109, 101]⟩, .string ⟨#[]⟩, .string ⟨#[99]⟩] 9)).gr.size, hl, by omega⟩)
       have HS6 := hide ((HS5.out.al (.cells #[.string ⟨#[47, 104, 111, 109, 101]⟩, .string ⟨#[]⟩, .string ⟨#[99]⟩] 9)).go ht hg)
       clear hk ho hl ht hg hO)
    | (go_at_call 15; (with_reducible refine (text_at 5 5 rfl g Z m c z w6 HS6.out.tap (by omega) hm).mono ?_); rintro e w7 ⟨A5, k5, c5, l5, rfl, hk, ho, hl, ht, hg⟩
       have HT0 := hide (HT0.out.go hg hg1)
       have HT1 := hide (HT1.out.go hg hg1)
       have HT2 := hide (HT2.out.go hg hg1)
       have HT3 := hide (HT3.out.go hg hg1)
       have HT4 := hide (HT4.out.go hg hg1)
       have HT5 := hide (show TxO w1.heap.size w7 A5 k5 c5 from ⟨l5, ho.mono HS6.out.gr.size, hl, hk⟩)
       have HS7 := hide (HS6.out.go ht hg)
       clear hk ho hl ht hg)
    | (go_at_call 17; (with_reducible refine (next_at 10000 10000 rfl g Z m c z w7 HS7.out.tap (by omega) (by omega) hm).mono ?_); rintro e w8 ⟨x6, rfl, hx6, ht, hg⟩
       have HT0 := hide (HT0.out.go hg hg1)
       have HT1 := hide (HT1.out.go hg hg1)
       have HT2 := hide (HT2.out.go hg hg1)
       have HT3 := hide (HT3.out.go hg hg1)
       have HT4 := hide (HT4.out.go hg hg1)
       have HT5 := hide (HT5.out.go hg hg1)
       have HS8 := hide (HS7.out.go ht hg)
       clear ht hg))
  obtain ⟨ge, hge⟩ : ∃ ge, w8.heap.size = ge := ⟨_, rfl⟩
  have HT0 := hide (HT0.out.upto hge)
  have HT1 := hide (HT1.out.upto hge)
  have HT2 := hide (HT2.out.upto hge)
  have HT3 := hide (HT3.out.upto hge)
  have HT4 := hide (HT4.out.upto hge)
  have HT5 := hide (HT5.out.upto hge)
  have hgr1 : gr < w1.heap.size := HXR.out.lt
  have hge1 : w1.heap.size ≤ ge := by have := HS8.out.gr.size; omega
  have HXE := hide (Box.newAt hge 26 #[.slice A0 k0 c0, .slice A1 k1 c1, .slice A2 k2 c2, .slice A3 k3 c3, .slice A4 k4 c4, .slice A5 k5 c5, .int .i64 ((x6 : Nat) : Int), .int .i64 0, .int .i64 0, .int .i64 0, .int .i64 0, .int .i64 0, .int .i64 0, .int .i64 0, .slice none 0 0])
  have HXR := hide ((HXR.out.grown HS8.out.gr (fun e => hgg (by injection e with e; exact e.symm))).alloc (.cells #[.slice A0 k0 c0, .slice A1 k1 c1, .slice A2 k2 c2, .slice A3 k3 c3, .slice A4 k4 c4, .slice A5 k5 c5, .int .i64 ((x6 : Nat) : Int), .int .i64 0, .int .i64 0, .int .i64 0, .int .i64 0, .int .i64 0, .int .i64 0, .int .i64 0, .slice none 0 0] 26))
  have HT0 := hide (HT0.out.gr (World.grownBy_alloc w8 (.cells #[.slice A0 k0 c0, .slice A1 k1 c1, .slice A2 k2 c2, .slice A3 k3 c3, .slice A4 k4 c4, .slice A5 k5 c5, .int .i64 ((x6 : Nat) : Int), .int .i64 0, .int .i64 0, .int .i64 0, .int .i64 0, .int .i64 0, .int .i64 0, .int .i64 0, .slice none 0 0] 26) none) (fun j hj => by cases hj))
  have HT1 := hide (HT1.out.gr (World.grownBy_alloc w8 (.cells #[.slice A0 k0 c0, .slice A1 k1 c1, .slice A2 k2 c2, .slice A3 k3 c3, .slice A4 k4 c4, .slice A5 k5 c5, .int .i64 ((x6 : Nat) : Int), .int .i64 0, .int .i64 0, .int .i64 0, .int .i64 0, .int .i64 0, .int .i64 0, .int .i64 0, .slice none 0 0] 26) none) (fun j hj => by cases hj))
  have HT2 := hide (HT2.out.gr (World.grownBy_alloc w8 (.cells #[.slice A0 k0 c0, .slice A1 k1 c1, .slice A2 k2 c2, .slice A3 k3 c3, .slice A4 k4 c4, .slice A5 k5 c5, .int .i64 ((x6 : Nat) : Int), .int .i64 0, .int .i64 0, .int .i64 0, .int .i64 0, .int .i64 0, .int .i64 0, .int .i64 0, .slice none 0 0] 26) none) (fun j hj => by cases hj))
  have HT3 := hide (HT3.out.gr (World.grownBy_alloc w8 (.cells #[.slice A0 k0 c0, .slice A1 k1 c1, .slice A2 k2 c2, .slice A3 k3 c3, .slice A4 k4 c4, .slice A5 k5 c5, .int .i64 ((x6 : Nat) : Int), .int .i64 0, .int .i64 0, .int .i64 0, .int .i64 0, .int .i64 0, .int .i64 0, .int .i64 0, .slice none 0 0] 26) none) (fun j hj => by cases hj))
  have HT4 := hide (HT4.out.gr (World.grownBy_alloc w8 (.cells #[.slice A0 k0 c0, .slice A1 k1 c1, .slice A2 k2 c2, .slice A3 k3 c3, .slice A4 k4 c4, .slice A5 k5 c5, .int .i64 ((x6 : Nat) : Int), .int .i64 0, .int .i64 0, .int .i64 0, .int .i64 0, .int .i64 0, .int .i64 0, .int .i64 0, .slice none 0 0] 26) none) (fun j hj => by cases hj))
  have HT5 := hide (HT5.out.gr (World.grownBy_alloc w8 (.cells #[.slice A0 k0 c0, .slice A1 k1 c1, .slice A2 k2 c2, .slice A3 k3 c3, .slice A4 k4 c4, .slice A5 k5 c5, .int .i64 ((x6 : Nat) : Int), .int .i64 0, .int .i64 0, .int .i64 0, .int .i64 0, .int .i64 0, .int .i64 0, .int .i64 0, .slice none 0 0] 26) none) (fun j hj => by cases hj))
  have HS8 := hide (HS8.out.al (.cells #[.slice A0 k0 c0, .slice A1 k1 c1, .slice A2 k2 c2, .slice A3 k3 c3, .slice A4 k4 c4, .slice A5 k5 c5, .int .i64 ((x6 : Nat) : Int), .int .i64 0, .int .i64 0, .int .i64 0, .int .i64 0, .int .i64 0, .int .i64 0, .int .i64 0, .slice none 0 0] 26))
  generalize w8.alloc (.cells #[.slice A0 k0 c0, .slice A1 k1 c1, .slice A2 k2 c2, .slice A3 k3 c3, .slice A4 k4 c4, .slice A5 k5 c5, .int .i64 ((x6 : Nat) : Int), .int .i64 0, .int .i64 0, .int .i64 0, .int .i64 0, .int .i64 0, .int .i64 0, .int .i64 0, .slice none 0 0] 26) = w9 at HXE HXR HT0 HT1 HT2 HT3 HT4 HT5 HS8 ⊢
  have HS9 := HS8
  clear HS8
  have hne : ge ≠ g := by omega
  have hng : gr ≠ g := by omega
  rw [hge]
  clear hge
  go_upto_region 3 with (first
    | (go_at_call 17; (with_reducible refine (next_at 10000 10000 rfl g Z m c z w9 HS9.out.tap (by omega) (by omega) hm).mono ?_); rintro e w10 ⟨q0, rfl, hq0, ht, hg⟩
       have HT0 := hide (HT0.out.gr hg (fun j hj => .inl (by injection hj with hj; omega)))
       have HT1 := hide (HT1.out.gr hg (fun j hj => .inl (by injection hj with hj; omega)))
       have HT2 := hide (HT2.out.gr hg (fun j hj => .inl (by injection hj with hj; omega)))
       have HT3 := hide (HT3.out.gr hg (fun j hj => .inl (by injection hj with hj; omega)))
       have HT4 := hide (HT4.out.gr hg (fun j hj => .inl (by injection hj with hj; omega)))
       have HT5 := hide (HT5.out.gr hg (fun j hj => .inl (by injection hj with hj; omega)))
       have HXE := hide (HXE.out.grown hg (fun e => hne (by injection e)))
       have HXR := hide (HXR.out.grown hg (fun e => hng (by injection e)))
       have HS10 := hide (HS9.out.go ht hg)
       clear ht hg)
    | (go_at_call 17; (with_reducible refine (next_at 12 12 rfl g Z m c z w10 HS10.out.tap (by omega) (by omega) hm).mono ?_); rintro e w11 ⟨q1, rfl, hq1, ht, hg⟩
       have HT0 := hide (HT0.out.gr hg (fun j hj => .inl (by injection hj with hj; omega)))
       have HT1 := hide (HT1.out.gr hg (fun j hj => .inl (by injection hj with hj; omega)))
       have HT2 := hide (HT2.out.gr hg (fun j hj => .inl (by injection hj with hj; omega)))
       have HT3 := hide (HT3.out.gr hg (fun j hj => .inl (by injection hj with hj; omega)))
       have HT4 := hide (HT4.out.gr hg (fun j hj => .inl (by injection hj with hj; omega)))
       have HT5 := hide (HT5.out.gr hg (fun j hj => .inl (by injection hj with hj; omega)))
       have HXE := hide (HXE.out.grown hg (fun e => hne (by injection e)))
       have HXR := hide (HXR.out.grown hg (fun e => hng (by injection e)))
       have HS11 := hide (HS10.out.go ht hg)
       clear ht hg)
    | (go_at_call 17; (with_reducible refine (next_at 31 31 rfl g Z m c z w11 HS11.out.tap (by omega) (by omega) hm).mono ?_); rintro e w12 ⟨q2, rfl, hq2, ht, hg⟩
       have HT0 := hide (HT0.out.gr hg (fun j hj => .inl (by injection hj with hj; omega)))
       have HT1 := hide (HT1.out.gr hg (fun j hj => .inl (by injection hj with hj; omega)))
       have HT2 := hide (HT2.out.gr hg (fun j hj => .inl (by injection hj with hj; omega)))
       have HT3 := hide (HT3.out.gr hg (fun j hj => .inl (by injection hj with hj; omega)))
       have HT4 := hide (HT4.out.gr hg (fun j hj => .inl (by injection hj with hj; omega)))
       have HT5 := hide (HT5.out.gr hg (fun j hj => .inl (by injection hj with hj; omega)))
       have HXE := hide (HXE.out.grown hg (fun e => hne (by injection e)))
       have HXR := hide (HXR.out.grown hg (fun e => hng (by injection e)))
       have HS12 := hide (HS11.out.go ht hg)
       clear ht hg)
    | (go_at_call 17; (with_reducible refine (next_at 24 24 rfl g Z m c z w12 HS12.out.tap (by omega) (by omega) hm).mono ?_); rintro e w13 ⟨q3, rfl, hq3, ht, hg⟩
       have HT0 := hide (HT0.out.gr hg (fun j hj => .inl (by injection hj with hj; omega)))
       have HT1 := hide (HT1.out.gr hg (fun j hj => .inl (by injection hj with hj; omega)))
       have HT2 := hide (HT2.out.gr hg (fun j hj => .inl (by injection hj with hj; omega)))
       have HT3 := hide (HT3.out.gr hg (fun j hj => .inl (by injection hj with hj; omega)))
       have HT4 := hide (HT4.out.gr hg (fun j hj => .inl (by injection hj with hj; omega)))
       have HT5 := hide (HT5.out.gr hg (fun j hj => .inl (by injection hj with hj; omega)))
       have HXE := hide (HXE.out.grown hg (fun e => hne (by injection e)))
       have HXR := hide (HXR.out.grown hg (fun e => hng (by injection e)))
       have HS13 := hide (HS12.out.go ht hg)
       clear ht hg)
    | (go_at_call 17; (with_reducible refine (next_at 60 60 rfl g Z m c z w13 HS13.out.tap (by omega) (by omega) hm).mono ?_); rintro e w14 ⟨q4, rfl, hq4, ht, hg⟩
       have HT0 := hide (HT0.out.gr hg (fun j hj => .inl (by injection hj with hj; omega)))
       have HT1 := hide (HT1.out.gr hg (fun j hj => .inl (by injection hj with hj; omega)))
       have HT2 := hide (HT2.out.gr hg (fun j hj => .inl (by injection hj with hj; omega)))
       have HT3 := hide (HT3.out.gr hg (fun j hj => .inl (by injection hj with hj; omega)))
       have HT4 := hide (HT4.out.gr hg (fun j hj => .inl (by injection hj with hj; omega)))
       have HT5 := hide (HT5.out.gr hg (fun j hj => .inl (by injection hj with hj; omega)))
       have HXE := hide (HXE.out.grown hg (fun e => hne (by injection e)))
       have HXR := hide (HXR.out.grown hg (fun e => hng (by injection e)))
       have HS14 := hide (HS13.out.go ht hg)
       clear ht hg)
    | (go_at_call 17; (with_reducible refine (next_at 60 60 rfl g Z m c z w14 HS14.out.tap (by omega) (by omega) hm).mono ?_); rintro e w15 ⟨q5, rfl, hq5, ht, hg⟩
       have HT0 := hide (HT0.out.gr hg (fun j hj => .inl (by injection hj with hj; omega)))
       have HT1 := hide (HT1.out.gr hg (fun j hj => .inl (by injection hj with hj; omega)))
       have HT2 := hide (HT2.out.gr hg (fun j hj => .inl (by injection hj with hj; omega)))
       have HT3 := hide (HT3.out.gr hg (fun j hj => .inl (by injection hj with hj; omega)))
       have HT4 := hide (HT4.out.gr hg (fun j hj => .inl (by injection hj with hj; omega)))
       have HT5 := hide (HT5.out.gr hg (fun j hj => .inl (by injection hj with hj; omega)))
       have HXE := hide (HXE.out.grown hg (fun e => hne (by injection e)))
       have HXR := hide (HXR.out.grown hg (fun e => hng (by injection e)))
       have HS15 := hide (HS14.out.go ht hg)
       clear ht hg)
    | (go_at_call 17; (with_reducible refine (next_at 7 7 rfl g Z m c z w15 HS15.out.tap (by omega) (by omega) hm).mono ?_); rintro e w16 ⟨q6, rfl, hq6, ht, hg⟩
       have HT0 := hide (HT0.out.gr hg (fun j hj => .inl (by injection hj with hj; omega)))
       have HT1 := hide (HT1.out.gr hg (fun j hj => .inl (by injection hj with hj; omega)))
       have HT2 := hide (HT2.out.gr hg (fun j hj => .inl (by injection hj with hj; omega)))
       have HT3 := hide (HT3.out.gr hg (fun j hj => .inl (by injection hj with hj; omega)))
       have HT4 := hide (HT4.out.gr hg (fun j hj => .inl (by injection hj with hj; omega)))
       have HT5 := hide (HT5.out.gr hg (fun j hj => .inl (by injection hj with hj; omega)))
       have HXE := hide (HXE.out.grown hg (fun e => hne (by injection e)))
       have HXR := hide (HXR.out.grown hg (fun e => hng (by injection e)))
       have f7 := HXE.out.cell 7
       have z7 := HXE.out.frozen 7
       have f8 := HXE.out.cell 8
       have z8 := HXE.out.frozen 8
       have f9 := HXE.out.cell 9
       have z9 := HXE.out.frozen 9
       have f10 := HXE.out.cell 10
       have z10 := HXE.out.frozen 10
       have f11 := HXE.out.cell 11
       have z11 := HXE.out.frozen 11
       have f12 := HXE.out.cell 12
       have z12 := HXE.out.frozen 12
       have f13 := HXE.out.cell 13
       have z13 := HXE.out.frozen 13
       dsimp at f7 f8 f9 f10 f11 f12 f13
       have HS16 := hide (HS15.out.go ht hg)
       clear ht hg))
  obtain ⟨T, hT0, hT1, hT2, hT3, hT4, hT5⟩ : ∃ T : Fin 6 → SH, T 0 = ⟨A0, k0, c0⟩ ∧ T 1 = ⟨A1, k1, c1⟩ ∧ T 2 = ⟨A2, k2, c2⟩ ∧ T 3 = ⟨A3, k3, c3⟩ ∧ T 4 = ⟨A4, k4, c4⟩ ∧ T 5 = ⟨A5, k5, c5⟩ := ⟨fun i => match i with | 0 => ⟨A0, k0, c0⟩ | 1 => ⟨A1, k1, c1⟩ | 2 => ⟨A2, k2, c2⟩ | 3 => ⟨A3, k3, c3⟩ | 4 => ⟨A4, k4, c4⟩ | 5 => ⟨A5, k5, c5⟩, rfl, rfl, rfl, rfl, rfl, rfl⟩
  obtain ⟨ck, hc0, hc1, hc2, hc3, hc4, hc5, hc6⟩ : ∃ ck : Fin 7 → Int, ck 0 = ((q0 : Nat) : Int) ∧ ck 1 = 1 + ((q1 : Nat) : Int) ∧ ck 2 = 1 + ((q2 : Nat) : Int) ∧ ck 3 = ((q3 : Nat) : Int) ∧ ck 4 = ((q4 : Nat) : Int) ∧ ck 5 = ((q5 : Nat) : Int) ∧ ck 6 = ((q6 : Nat) : Int) := ⟨fun i => match i with | 0 => q0 | 1 => 1 + q1 | 2 => 1 + q2 | 3 => q3 | 4 => q4 | 5 => q5 | 6 => q6, rfl, rfl, rfl, rfl, rfl, rfl, rfl⟩
  have hGE := grown_set (grown_set (grown_set (grown_set (grown_set (grown_set (grown_set (World.grownBy.refl w16 (some ge)) 7 (.int .i64 ((q0 : Nat) : Int))) 8 (.int .i64 (1 + ((q1 : Nat) : Int)))) 9 (.int .i64 (1 + ((q2 : Nat) : Int)))) 10 (.int .i64 ((q3 : Nat) : Int))) 11 (.int .i64 ((q4 : Nat) : Int))) 12 (.int .i64 ((q5 : Nat) : Int))) 13 (.int .i64 ((q6 : Nat) : Int))
  have hXS := ((((((HXE.out.set 7 (.int .i64 ((q0 : Nat) : Int))).set 8 (.int .i64 (1 + ((q1 : Nat) : Int)))).set 9 (.int .i64 (1 + ((q2 : Nat) : Int)))).set 10 (.int .i64 ((q3 : Nat) : Int))).set 11 (.int .i64 ((q4 : Nat) : Int))).set 12 (.int .i64 ((q5 : Nat) : Int))).set 13 (.int .i64 ((q6 : Nat) : Int))
  have hge2 : w1.heap.size ≤ ge := hge1
  have hL : EnvL g Z m c z w1 gr ge T ((x6 : Nat) : Int) ck (((((((w16.setCell ⟨ge, 7, none⟩ (.int .i64 ((q0 : Nat) : Int))).setCell ⟨ge, 8, none⟩ (.int .i64 (1 + ((q1 : Nat) : Int)))).setCell ⟨ge, 9, none⟩ (.int .i64 (1 + ((q2 : Nat) : Int)))).setCell ⟨ge, 10, none⟩ (.int .i64 ((q3 : Nat) : Int))).setCell ⟨ge, 11, none⟩ (.int .i64 ((q4 : Nat) : Int))).setCell ⟨ge, 12, none⟩ (.int .i64 ((q5 : Nat) : Int))).setCell ⟨ge, 13, none⟩ (.int .i64 ((q6 : Nat) : Int))) none 0 0 [] := by
    refine ⟨HS16.out.gr_ hGE (fun j hj => by injection hj with hj; omega), fun i => ?_, HXR.out.grown hGE (fun e => by injection e with e; omega), ?_, RowI.nil _ _, fun v hv => by (cases hv), ⟨hg1, hgr1, hge1, hgg⟩⟩
    · have hr : ∀ j, (some ge : Option Nat) = some j → j < w1.heap.size ∨ ge ≤ j := fun j hj => .inr (by injection hj with hj; omega)
      match i with
      | 0 => rw [hT0]; exact HT0.out.gr hGE hr
      | 1 => rw [hT1]; exact HT1.out.gr hGE hr
      | 2 => rw [hT2]; exact HT2.out.gr hGE hr
      | 3 => rw [hT3]; exact HT3.out.gr hGE hr
      | 4 => rw [hT4]; exact HT4.out.gr hGE hr
      | 5 => rw [hT5]; exact HT5.out.gr hGE hr
    · unfold EnvH.cells
      dsimp only
      rw [hT0, hT1, hT2, hT3, hT4, hT5, hc0, hc1, hc2, hc3, hc4, hc5, hc6]
      exact hXS
  have HL := hide hL
  have HCK := hide (And.intro hc0 (And.intro hc1 (And.intro hc2 (And.intro hc3 (And.intro hc4 (And.intro hc5 hc6))))))
  clear hL hXS hGE hT0 hT1 hT2 hT3 hT4 hT5 hc0 hc1 hc2 hc3 hc4 hc5 hc6 f7 z7 f8 z8 f9 z9 f10 z10 f11 z11 f12 z12 f13 z13 HXE HXR HS16 HT0 HT1 HT2 HT3 HT4 HT5
  generalize (((((((w16.setCell ⟨ge, 7, none⟩ (.int .i64 ((q0 : Nat) : Int))).setCell ⟨ge, 8, none⟩ (.int .i64 (1 + ((q1 : Nat) : Int)))).setCell ⟨ge, 9, none⟩ (.int .i64 (1 + ((q2 : Nat) : Int)))).setCell ⟨ge, 10, none⟩ (.int .i64 ((q3 : Nat) : Int))).setCell ⟨ge, 11, none⟩ (.int .i64 ((q4 : Nat) : Int))).setCell ⟨ge, 12, none⟩ (.int .i64 ((q5 : Nat) : Int))).setCell ⟨ge, 13, none⟩ (.int .i64 ((q6 : Nat) : Int))) = w17 at HL ⊢
  go_wp2_with (go_at_call 17; (with_reducible refine (next_at 9 9 rfl g Z m c z w17 HL.out.snc.tap (by omega) (by omega) hm).mono ?_); rintro e w18 ⟨nd, rfl, hnd, ht, hg⟩; have HL2 := hide (HL.out.next ht hg); clear ht hg)
  go_loopw [4] (fun s4 wr => ∃ (i j : Nat) (A : Option Addr) (cap : Nat) (l : List Int), s4 = .int .i64 ((i : Nat) : Int) ∧ i + j ≤ 8 ∧ Hid (EnvL g Z m c z w1 gr ge T ((x6 : Nat) : Int) ck wr A j cap l)) (fun s4 _ => (intOf s4).toNat)
  case atStart => exact ⟨nd, 0, none, 0, [], rfl, by omega, HL2.out⟩
  case round =>
    obtain ⟨i, j, A, cap, l, rfl, hij, HE⟩ := hrel
    rcases i with _ | i
    · obtain ⟨y0, y1, y2, y3, y4, y5, y6, y7, y8, y9, y10, y11, y12, y13, y14⟩ := EnvH.at_ HE.out.xe
      dsimp only at y0 y1 y2 y3 y4 y5 y6 y7 y8 y9 y10 y11 y12 y13 y14
      have f0 := HE.out.xr.cell 0
      have z0 := HE.out.xr.frozen 0
      have f1 := HE.out.xr.cell 1
      have z1 := HE.out.xr.frozen 1
      have f2 := HE.out.xr.cell 2
      have z2 := HE.out.xr.frozen 2
      have f3 := HE.out.xr.cell 3
      have z3 := HE.out.xr.frozen 3
      have f4 := HE.out.xr.cell 4
      have z4 := HE.out.xr.frozen 4
      have f5 := HE.out.xr.cell 5
      have z5 := HE.out.xr.frozen 5
      have f6 := HE.out.xr.cell 6
      have z6 := HE.out.xr.frozen 6
      have f7 := HE.out.xr.cell 7
      have z7 := HE.out.xr.frozen 7
      have f8 := HE.out.xr.cell 8
      have z8 := HE.out.xr.frozen 8
      have f9 := HE.out.xr.cell 9
      have z9 := HE.out.xr.frozen 9
      have f10 := HE.out.xr.cell 10
      have z10 := HE.out.xr.frozen 10
      have f11 := HE.out.xr.cell 11
      have z11 := HE.out.xr.frozen 11
      have f12 := HE.out.xr.cell 12
      have z12 := HE.out.xr.frozen 12
      have f13 := HE.out.xr.cell 13
      have z13 := HE.out.xr.frozen 13
      have f14 := HE.out.xr.cell 14
      have z14 := HE.out.xr.frozen 14
      dsimp at f0 f1 f2 f3 f4 f5 f6 f7 f8 f9 f10 f11 f12 f13 f14
      go_wp2_with fail
      obtain ⟨hR, hG⟩ := set15 HE.out.xr (.slice (T 0).A (T 0).n (T 0).c) (.slice (T 1).A (T 1).n (T 1).c) (.slice (T 2).A (T 2).n (T 2).c) (.slice (T 3).A (T 3).n (T 3).c) (.slice (T 4).A (T 4).n (T 4).c) (.slice (T 5).A (T 5).n (T 5).c) (.int .i64 ((x6 : Nat) : Int)) (.int .i64 (ck 0)) (.int .i64 (ck 1)) (.int .i64 (ck 2)) (.int .i64 (ck 3)) (.int .i64 (ck 4)) (.int .i64 (ck 5)) (.int .i64 (ck 6)) (.slice A j cap)
      obtain ⟨e0, e1, e2, e3, e4, e5, e6⟩ := HCK.out
      have hck : clockOk ck = true := by
        unfold clockOk
        simp only [Bool.and_eq_true, inB_iff]
        omega
      have HDN := hide (env_done HE.out HG0.out hgr hlt (by omega) (by omega) hck _ hG)
      clear e0 e1 e2 e3 e4 e5 e6 hck hG f0 f1 f2 f3 f4 f5 f6 f7 f8 f9 f10 f11 f12 f13 f14 z0 z1 z2 z3 z4 z5 z6 z7 z8 z9 z10 z11 z12 z13 z14 y0 y1 y2 y3 y4 y5 y6 y7 y8 y9 y10 y11 y12 y13 y14
      unfold EnvH.v EnvH.cells at HDN
      dsimp only at HDN
      generalize (((((((((((((((wr.setCell ⟨gr, 0, none⟩ (.slice (T 0).A (T 0).n (T 0).c)).setCell ⟨gr, 1, none⟩ (.slice (T 1).A (T 1).n (T 1).c)).setCell ⟨gr, 2, none⟩ (.slice (T 2).A (T 2).n (T 2).c)).setCell ⟨gr, 3, none⟩ (.slice (T 3).A (T 3).n (T 3).c)).setCell ⟨gr, 4, none⟩ (.slice (T 4).A (T 4).n (T 4).c)).setCell ⟨gr, 5, none⟩ (.slice (T 5).A (T 5).n (T 5).c)).setCell ⟨gr, 6, none⟩ (.int .i64 ((x6 : Nat) : Int))).setCell ⟨gr, 7, none⟩ (.int .i64 (ck 0))).setCell ⟨gr, 8, none⟩ (.int .i64 (ck 1))).setCell ⟨gr, 9, none⟩ (.int .i64 (ck 2))).setCell ⟨gr, 10, none⟩ (.int .i64 (ck 3))).setCell ⟨gr, 11, none⟩ (.int .i64 (ck 4))).setCell ⟨gr, 12, none⟩ (.int .i64 (ck 5))).setCell ⟨gr, 13, none⟩ (.int .i64 (ck 6))).setCell ⟨gr, 14, none⟩ (.slice A j cap)) = W at hR HDN ⊢
      have r0 := hR.cell 0
      have r1 := hR.cell 1
      have r2 := hR.cell 2
      have r3 := hR.cell 3
      have r4 := hR.cell 4
      have r5 := hR.cell 5
      have r6 := hR.cell 6
      have r7 := hR.cell 7
      have r8 := hR.cell 8
      have r9 := hR.cell 9
      have r10 := hR.cell 10
      have r11 := hR.cell 11
      have r12 := hR.cell 12
      have r13 := hR.cell 13
      have r14 := hR.cell 14
      dsimp at r0 r1 r2 r3 r4 r5 r6 r7 r8 r9 r10 r11 r12 r13 r14
      refine bodyPost_ret (v := .agg #[.slice (T 0).A (T 0).n (T 0).c, .slice (T 1).A (T 1).n (T 1).c, .slice (T 2).A (T 2).n (T 2).c, .slice (T 3).A (T 3).n (T 3).c, .slice (T 4).A (T 4).n (T 4).c, .slice (T 5).A (T 5).n (T 5).c, .int .i64 ((x6 : Nat) : Int), .int .i64 (ck 0), .int .i64 (ck 1), .int .i64 (ck 2), .int .i64 (ck 3), .int .i64 (ck 4), .int .i64 (ck 5), .int .i64 (ck 6), .slice A j cap]) (by simp [results, Tryd.results7, go_sem, r0, r1, r2, r3, r4, r5, r6, r7, r8, r9, r10, r11, r12, r13, r14]) rfl ?_
      exact HDN.out
    · have hpos : (0 : Int) < ((i + 1 : Nat) : Int) := by omega
      have k14 : wr.cell? ⟨ge, 14, none⟩ = some (.slice A j cap) := HE.out.xe.cell 14
      go_wp2_with fail
      go_region_law (first
        | (refine step_appI (by rfl) (.tmp 47) (.tmp 50) (by rfl) (ge + 1) (by rfl) (HN.out.alloc _).row (m := 1) (d := 1) (by rfl) (IntV.box (Box.new _ _ _)) (by omega) (by first | omega | (simp; omega)) ?_
           intro A4 c4 w4 hr4 hg4 hb4 hor4
           have HP := hide ((HN.out.alloc (.cells #[.int .i64 ((y : Nat) : Int)] 3)).put (by omega) hr4 hg4)
           have hx4 := (HN.out.alloc (.cells #[.int .i64 ((y : Nat) : Int)] 3)).xe.grown hg4 (fun e => by have := ((HN.out.alloc (.cells #[.int .i64 ((y : Nat) : Int)] 3)).row.blk_ge ge e.symm).1; omega)
           have k14c : w4.cell? ⟨ge, 14, none⟩ = some (.slice A j cap) := hx4.cell 14
           have z14c : w4.frozen? ⟨ge, 14, none⟩ = false := hx4.frozen 14
           clear hx4 hr4 hg4 hb4 hor4)
        | (go_simp; go_at_call 17; (with_reducible refine (next_at 16777216 16777216 rfl g Z m c z _ (HE.out.snc.tap.below (Below.refl wr.heap.size wr).drew) (by omega) (by omega) hm).mono ?_); rintro e w20 ⟨y, rfl, hy, ht, hg⟩
           have HN := hide (HE.out.next ht ⟨hg.os, hg.tape, hg.output, hg.size, hg.block⟩)
           have k14b : w20.cell? ⟨ge, 14, none⟩ = some (.slice A j cap) := HN.out.xe.cell 14
           have hgl : ge < w20.heap.size := HN.out.xe.lt
           clear ht hg))
      all_goals (
        go_wp2_with fail
        go_roundw
        case rel => exact ⟨i, j + 1, A4, c4, _, by first | rfl | go_num, by omega, HP.out⟩
        case measure => simp [intOf])
end Go.Proofs.YtfeflmpdbejhjaaDoor
