/- An environment in a block of the call's own: its parts are replaced. -/
import Derived.Test.YtfeflmpdbejhjaaDoorKnown16
namespace Go.Proofs.YtfeflmpdbejhjaaDoor
open Go.RowKit
set_option linter.unusedVariables false

def EnvH.setT (e : EnvH) (j : Fin 6) (h : SH) : EnvH := ⟨fun i => if i = j then h else e.t i, e.ix, e.ck, e.d⟩
def EnvV.setT (v : EnvV) (j : Fin 6) (l : List Int) : EnvV := ⟨fun i => if i = j then l else v.t i, v.ix, v.ck, v.d⟩
def EnvH.setI (e : EnvH) (x : Int) : EnvH := ⟨e.t, x, e.ck, e.d⟩
def EnvV.setI (v : EnvV) (x : Int) : EnvV := ⟨v.t, x, v.ck, v.d⟩
def EnvH.setC (e : EnvH) (j : Fin 7) (x : Int) : EnvH := ⟨e.t, e.ix, fun i => if i = j then x else e.ck i, e.d⟩
def EnvV.setC (v : EnvV) (j : Fin 7) (x : Int) : EnvV := ⟨v.t, v.ix, fun i => if i = j then x else v.ck i, v.d⟩
def EnvH.setD (e : EnvH) (h : SH) : EnvH := ⟨e.t, e.ix, e.ck, h⟩
def EnvV.setD (v : EnvV) (l : List Int) : EnvV := ⟨v.t, v.ix, v.ck, l⟩
theorem cells_setT (e : EnvH) (j : Fin 6) (h : SH) : e.cells.setIfInBounds j.val (.slice h.A h.n h.c) = (e.setT j h).cells := by
  match j with
  | 0 => rfl
  | 1 => rfl
  | 2 => rfl
  | 3 => rfl
  | 4 => rfl
  | 5 => rfl
theorem cells_setI (e : EnvH) (x : Int) : e.cells.setIfInBounds 6 (.int .i64 x) = (e.setI x).cells := rfl
theorem cells_setC (e : EnvH) (j : Fin 7) (x : Int) : e.cells.setIfInBounds (7 + j.val) (.int .i64 x) = (e.setC j x).cells := by
  match j with
  | 0 => rfl
  | 1 => rfl
  | 2 => rfl
  | 3 => rfl
  | 4 => rfl
  | 5 => rfl
  | 6 => rfl
theorem cells_setD (e : EnvH) (h : SH) : e.cells.setIfInBounds 14 (.slice h.A h.n h.c) = (e.setD h).cells := rfl
/-- An environment that lies in the block ge, made since w0; its texts and draws lie elsewhere. -/
structure EB (w0 w : World) (ge : Nat) (e : EnvH) (v : EnvV) : Prop where
  box : Box w ge 26 e.cells
  rd : EnvR w e v
  ot : ∀ i b o, (e.t i).A = some ⟨b, o, none⟩ → 0 < (e.t i).n → b ≠ ge
  od : ∀ b o, e.d.A = some ⟨b, o, none⟩ → 0 < e.d.n → b ≠ ge
  bel : Below w0.heap.size w0 w
  lo : w0.heap.size ≤ ge
section
variable {w0 w w' : World} {ge : Nat} {e : EnvH} {v : EnvV}
theorem EB.below (h : EB w0 w ge e v) (hb : Below w.heap.size w w') : EB w0 w' ge e v :=
  ⟨h.box.below hb, h.rd.below hb, h.ot, h.od, h.bel.trans (hb.mono h.bel.size), h.lo⟩
theorem EB.drewN (h : EB w0 w ge e v) (n : Nat) : EB w0 (w.drewN n) ge e v := h.below (belowD (Below.refl _ _) n)
theorem EB.heap (h : EB w0 w ge e v) (p : Nat) (u : Value) (b : Nat) (hb : b ≠ ge) : (w.setCell ⟨ge, p, none⟩ u).heap[b]? = w.heap[b]? := Below.heap_setCell w _ u b (fun e => hb e)
theorem EB.txt (h : EB w0 w ge e v) (p : Nat) (u : Value) {A : Option Addr} {n : Nat} {l : List Int} (hr : Runes w A n l) (hne : ∀ b o, A = some ⟨b, o, none⟩ → 0 < n → b ≠ ge) : Runes (w.setCell ⟨ge, p, none⟩ u) A n l :=
  hr.keep fun b o ha hn => h.heap p u b (hne b o ha hn)
theorem EB.ints (h : EB w0 w ge e v) (p : Nat) (u : Value) {A : Option Addr} {n : Nat} {l : List Int} (hr : IntsR w A n l) (hne : ∀ b o, A = some ⟨b, o, none⟩ → 0 < n → b ≠ ge) : IntsR (w.setCell ⟨ge, p, none⟩ u) A n l :=
  hr.keep fun b o ha hn => h.heap p u b (hne b o ha hn)
theorem EB.setT (h : EB w0 w ge e v) (j : Fin 6) {A : Option Addr} {n c : Nat} {l : List Int} (hr : Runes w A n l) (hn : n ≤ 35184372088832) (hc : n ≤ c) (hne : ∀ b o, A = some ⟨b, o, none⟩ → 0 < n → b ≠ ge) :
    EB w0 (w.setCell ⟨ge, j.val, none⟩ (.slice A n c)) ge (e.setT j ⟨A, n, c⟩) (v.setT j l) := by
  refine ⟨by rw [← cells_setT]; exact h.box.set j.val _, ⟨fun i => ?_, fun i => ?_, h.ints _ _ h.rd.dr h.od, h.rd.dn, h.rd.ix, h.rd.ck, h.rd.ib, h.rd.cb⟩, fun i => ?_, h.od, h.bel.setCell (p := ⟨ge, j.val, none⟩) h.lo _, h.lo⟩
  · show Runes _ (if i = j then (⟨A, n, c⟩ : SH) else e.t i).A (if i = j then (⟨A, n, c⟩ : SH) else e.t i).n (if i = j then l else v.t i)
    by_cases hij : i = j
    · rw [if_pos hij, if_pos hij]
      exact h.txt _ _ hr hne
    · rw [if_neg hij, if_neg hij]
      exact h.txt _ _ (h.rd.tx i) (h.ot i)
  · show (if i = j then (⟨A, n, c⟩ : SH) else e.t i).n ≤ _ ∧ (if i = j then (⟨A, n, c⟩ : SH) else e.t i).n ≤ (if i = j then (⟨A, n, c⟩ : SH) else e.t i).c
    by_cases hij : i = j
    · rw [if_pos hij]
      exact ⟨hn, hc⟩
    · rw [if_neg hij]
      exact h.rd.tn i
  · show ∀ b o, (if i = j then (⟨A, n, c⟩ : SH) else e.t i).A = some ⟨b, o, none⟩ → 0 < (if i = j then (⟨A, n, c⟩ : SH) else e.t i).n → b ≠ ge
    by_cases hij : i = j
    · rw [if_pos hij]
      exact hne
    · rw [if_neg hij]
      exact h.ot i
theorem EB.setI (h : EB w0 w ge e v) (x : Int) (hx : -9223372036854775808 ≤ x ∧ x ≤ 9223372036854775807) : EB w0 (w.setCell ⟨ge, 6, none⟩ (.int .i64 x)) ge (e.setI x) (v.setI x) :=
  ⟨by rw [← cells_setI]; exact h.box.set 6 _, ⟨fun i => h.txt _ _ (h.rd.tx i) (h.ot i), h.rd.tn, h.ints _ _ h.rd.dr h.od, h.rd.dn, rfl, h.rd.ck, hx, h.rd.cb⟩, h.ot, h.od, h.bel.setCell (p := ⟨ge, 6, none⟩) h.lo _, h.lo⟩
theorem EB.setC (h : EB w0 w ge e v) (j : Fin 7) (x : Int) (hx : -9223372036854775808 ≤ x ∧ x ≤ 9223372036854775807) : EB w0 (w.setCell ⟨ge, 7 + j.val, none⟩ (.int .i64 x)) ge (e.setC j x) (v.setC j x) := by
  refine ⟨by rw [← cells_setC]; exact h.box.set (7 + j.val) _, ⟨fun i => h.txt _ _ (h.rd.tx i) (h.ot i), h.rd.tn, h.ints _ _ h.rd.dr h.od, h.rd.dn, h.rd.ix, ?_, h.rd.ib, fun i => ?_⟩, h.ot, h.od, h.bel.setCell (p := ⟨ge, 7 + j.val, none⟩) h.lo _, h.lo⟩
  · funext i
    show (if i = j then x else v.ck i) = (if i = j then x else e.ck i)
    rw [h.rd.ck]
  · show -9223372036854775808 ≤ (if i = j then x else e.ck i) ∧ (if i = j then x else e.ck i) ≤ 9223372036854775807
    by_cases hij : i = j
    · rw [if_pos hij]
      exact hx
    · rw [if_neg hij]
      exact h.rd.cb i
theorem EB.setD (h : EB w0 w ge e v) {A : Option Addr} {n c : Nat} {l : List Int} (hr : IntsR w A n l) (hn : n ≤ 35184372088832) (hne : ∀ b o, A = some ⟨b, o, none⟩ → 0 < n → b ≠ ge) :
    EB w0 (w.setCell ⟨ge, 14, none⟩ (.slice A n c)) ge (e.setD ⟨A, n, c⟩) (v.setD l) :=
  ⟨by rw [← cells_setD]; exact h.box.set 14 _, ⟨fun i => h.txt _ _ (h.rd.tx i) (h.ot i), h.rd.tn, h.ints _ _ hr hne, hn, h.rd.ix, h.rd.ck, h.rd.ib, h.rd.cb⟩, h.ot, hne, h.bel.setCell (p := ⟨ge, 14, none⟩) h.lo _, h.lo⟩
/-- What Env answered, laid into a new block. -/
theorem EB.make {g : Nat} {wt w2 : World} {e : EnvH} {v : EnvV} (hb : Below w0.heap.size w0 wt) (hg : w0.heap.size ≤ g) (hE : EnvR w2 e v) (hG : wt.grownBy w2 (some g)) (hge : w2.heap.size = ge) :
    EB w0 (w2.alloc (.cells e.cells 26)) ge e v := by
  have h2 : Below w0.heap.size w0 w2 := hb.grown hG hb.size (fun j hj => by injection hj with hj; omega)
  have hba := (Below.refl w2.heap.size w2).alloc (Nat.le_refl _) (.cells e.cells 26)
  refine ⟨Box.newAt hge _ _, hE.below hba, fun i b o ha hn => ?_, fun b o ha hn => ?_, h2.trans (hba.mono h2.size), by have := h2.size; omega⟩
  · have := (hE.tx i).lt hn ha
    omega
  · have := hE.dr.lt hn ha
    omega
end
end Go.Proofs.YtfeflmpdbejhjaaDoor
