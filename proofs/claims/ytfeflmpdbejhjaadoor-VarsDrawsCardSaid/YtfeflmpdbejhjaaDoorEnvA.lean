/- Environments: in memory, as a value, as data; what a place of the draws holds. -/
import Derived.Test.YtfeflmpdbejhjaaDoorStr
import Derived.Test.YtfeflmpdbejhjaaDoorTapeD
import Derived.Deep.Cut
namespace Go.Proofs.YtfeflmpdbejhjaaDoor
open Go.RowKit
set_option linter.unusedVariables false

/-- A slice's header. -/
structure SH where
  A : Option Addr
  n : Nat
  c : Nat
/-- An environment's headers and numbers. -/
structure EnvH where
  t : Fin 6 → SH
  ix : Int
  ck : Fin 7 → Int
  d : SH
def EnvH.cells (e : EnvH) : Array Value := #[.slice (e.t 0).A (e.t 0).n (e.t 0).c, .slice (e.t 1).A (e.t 1).n (e.t 1).c, .slice (e.t 2).A (e.t 2).n (e.t 2).c, .slice (e.t 3).A (e.t 3).n (e.t 3).c, .slice (e.t 4).A (e.t 4).n (e.t 4).c, .slice (e.t 5).A (e.t 5).n (e.t 5).c, .int .i64 e.ix, .int .i64 (e.ck 0), .int .i64 (e.ck 1), .int .i64 (e.ck 2), .int .i64 (e.ck 3), .int .i64 (e.ck 4), .int .i64 (e.ck 5), .int .i64 (e.ck 6), .slice e.d.A e.d.n e.d.c]
def EnvH.v (e : EnvH) : Value := .agg e.cells
def EnvH.ckv (e : EnvH) : Value := .agg #[.int .i64 (e.ck 0), .int .i64 (e.ck 1), .int .i64 (e.ck 2), .int .i64 (e.ck 3), .int .i64 (e.ck 4), .int .i64 (e.ck 5), .int .i64 (e.ck 6)]
/-- An environment, as data. -/
structure EnvV where
  t : Fin 6 → List Int
  ix : Int
  ck : Fin 7 → Int
  d : List Int
theorem EnvH.at_ {e : EnvH} {w : World} {g : Nat} (h : Box w g 26 e.cells) : w.cell? ⟨g, 0, none⟩ = some (.slice (e.t 0).A (e.t 0).n (e.t 0).c) ∧ w.cell? ⟨g, 1, none⟩ = some (.slice (e.t 1).A (e.t 1).n (e.t 1).c) ∧ w.cell? ⟨g, 2, none⟩ = some (.slice (e.t 2).A (e.t 2).n (e.t 2).c) ∧ w.cell? ⟨g, 3, none⟩ = some (.slice (e.t 3).A (e.t 3).n (e.t 3).c) ∧ w.cell? ⟨g, 4, none⟩ = some (.slice (e.t 4).A (e.t 4).n (e.t 4).c) ∧ w.cell? ⟨g, 5, none⟩ = some (.slice (e.t 5).A (e.t 5).n (e.t 5).c) ∧ w.cell? ⟨g, 6, none⟩ = some (.int .i64 e.ix) ∧ w.cell? ⟨g, 7, none⟩ = some (.int .i64 (e.ck 0)) ∧ w.cell? ⟨g, 8, none⟩ = some (.int .i64 (e.ck 1)) ∧ w.cell? ⟨g, 9, none⟩ = some (.int .i64 (e.ck 2)) ∧ w.cell? ⟨g, 10, none⟩ = some (.int .i64 (e.ck 3)) ∧ w.cell? ⟨g, 11, none⟩ = some (.int .i64 (e.ck 4)) ∧ w.cell? ⟨g, 12, none⟩ = some (.int .i64 (e.ck 5)) ∧ w.cell? ⟨g, 13, none⟩ = some (.int .i64 (e.ck 6)) ∧ w.cell? ⟨g, 14, none⟩ = some (.slice e.d.A e.d.n e.d.c) :=
  ⟨h.cell 0, h.cell 1, h.cell 2, h.cell 3, h.cell 4, h.cell 5, h.cell 6, h.cell 7, h.cell 8, h.cell 9, h.cell 10, h.cell 11, h.cell 12, h.cell 13, h.cell 14⟩
/-- An environment that reads as v. -/
structure EnvR (w : World) (e : EnvH) (v : EnvV) : Prop where
  tx : ∀ i, Runes w (e.t i).A (e.t i).n (v.t i)
  tn : ∀ i, (e.t i).n ≤ 35184372088832 ∧ (e.t i).n ≤ (e.t i).c
  dr : IntsR w e.d.A e.d.n v.d
  dn : e.d.n ≤ 35184372088832
  ix : v.ix = e.ix
  ck : v.ck = e.ck
  ib : -9223372036854775808 ≤ e.ix ∧ e.ix ≤ 9223372036854775807
  cb : ∀ i, -9223372036854775808 ≤ e.ck i ∧ e.ck i ≤ 9223372036854775807
theorem EnvR.below {w w' : World} {e : EnvH} {v : EnvV} (h : EnvR w e v) (hb : Below w.heap.size w w') : EnvR w' e v :=
  ⟨fun i => (h.tx i).below hb, h.tn, h.dr.below hb, h.dn, h.ix, h.ck, h.ib, h.cb⟩
theorem EnvR.drewN {w : World} {e : EnvH} {v : EnvV} (h : EnvR w e v) (k : Nat) : EnvR (w.drewN k) e v := h.below ⟨rfl, rfl, rfl, Nat.le_refl _, fun _ _ => rfl⟩

/-- The draw at a place; 0: none is there. -/
def drawS (l : List Int) (k : Nat) : Int := if k < l.length then nth l k else 0

set_option maxRecDepth 100000 in
theorem draw_any (e : EnvH) (v : EnvV) (k : Nat) (hk : k ≤ 1000000) (w : World) (h : EnvR w e v) :
    Calls Tryd.prog 29 #[e.v, .int .i64 k] w fun r w' => r = .returned (.int .i64 (drawS v.d k)) ∧ Below w.heap.size w w' := by
  obtain ⟨g, hg⟩ : ∃ g, w.heap.size = g := ⟨_, rfl⟩
  have hba := (Below.refl w.heap.size w).alloc (Nat.le_refl _) (.cells e.cells 26)
  have HB := hide hba
  have HX := hide (Box.newAt hg 26 e.cells)
  have HE := hide (h.below hba)
  have hd := h.dn
  have HL := hide h.dr.len
  clear h hba
  unfold EnvH.v EnvH.cells
  unfold EnvH.cells at HB HX HE
  go_enter Tryd.func29, Tryd.ntmps29
  go_upto_region 1 with fail
  generalize w.alloc (.cells #[.slice (e.t 0).A (e.t 0).n (e.t 0).c, .slice (e.t 1).A (e.t 1).n (e.t 1).c, .slice (e.t 2).A (e.t 2).n (e.t 2).c, .slice (e.t 3).A (e.t 3).n (e.t 3).c, .slice (e.t 4).A (e.t 4).n (e.t 4).c, .slice (e.t 5).A (e.t 5).n (e.t 5).c, .int .i64 e.ix, .int .i64 (e.ck 0), .int .i64 (e.ck 1), .int .i64 (e.ck 2), .int .i64 (e.ck 3), .int .i64 (e.ck 4), .int .i64 (e.ck 5), .int .i64 (e.ck 6), .slice e.d.A e.d.n e.d.c] 26) = w1 at HB HX HE ⊢
  rw [hg] at HB
  obtain ⟨x0, x1, x2, x3, x4, x5, x6, x7, x8, x9, x10, x11, x12, x13, x14⟩ := EnvH.at_ HX.out
  clear x0 x1 x2 x3 x4 x5 x6 x7 x8 x9 x10 x11 x12 x13
  by_cases hlt : k < e.d.n
  · have i0 : (0 : Int) ≤ (k : Int) := by omega
    have i1 : (k : Int) < (e.d.n : Int) := by omega
    obtain ⟨b, o, hA, hc⟩ := HE.out.dr.at_ k hlt
    rw [hA] at x14 ⊢
    go_wp2_with fail
    go_ret
    refine ⟨?_, by rw [hg]; exact HB.out⟩
    unfold drawS
    rw [if_pos (by rw [HL.out]; exact hlt)]
    rfl
  · go_wp2_with fail
    go_ret
    refine ⟨?_, by rw [hg]; exact HB.out⟩
    unfold drawS
    rw [if_neg (by rw [HL.out]; exact hlt)]
    rfl
end Go.Proofs.YtfeflmpdbejhjaaDoor
