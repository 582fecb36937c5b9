/- The walk of standishlaw23's AbbrevBounds: it answers true. -/
import Derived.Test.YtkoieceifplphaaKnown23
import Derived.Test.YtkoieceifplphaaMake
import Derived.Test.YtkoieceifplphaaRowG
import Derived.Deep.CutBlock
import Derived.Deep.DeepCutAuto
namespace Go.Proofs.Ytkoieceifplphaa
open Go.RowKit
set_option linter.unusedVariables false

theorem snipInfo : (Try.prog.info? 36).map (fun i => (i.zero, i.size, i.bytes)) = some (some (.agg #[.slice none 0 0, .slice none 0 0]), 2, 48) := by kernel_rfl
theorem run_makeSnip (n : Nat) (hn : n ≤ 1000000) (W : World) :
    (Instr.makeSlice 22 (.int .i64 (n : Int)) (.int .i64 (n : Int))).run Try.prog W = .ok (.slice (some ⟨W.heap.size, 0, none⟩) n n) (W.alloc (.cells (Array.replicate (n * 2) (.slice none 0 0)) 36)) := by
  obtain ⟨i0, hi, hz0, hz1, hz2⟩ := info_parts snipInfo
  have h := run_make (P := Try.prog) W 22 36 i0 (.agg #[.slice none 0 0, .slice none 0 0]) Try.underlying22 hi hz0 .i64 .i64 n n (by omega) (by omega) (by rw [hz2]; omega) (by omega)
  rw [hz1, Int.toNat_natCast] at h
  rw [h]
  congr 2
  congr 1
  apply Array.ext
  · simp [madeCells]
  · intro i h1 h2
    have : i % 2 = 0 ∨ i % 2 = 1 := by omega
    rcases this with e | e <;> simp [madeCells, Value.cells, e]

/-- A table's cells. -/
def rowV (us : Nat → SNV) (n : Nat) : List (List Value) := (List.range n).map fun j => [.slice (us j).T (us j).n (us j).c, .slice (us j).B (us j).m (us j).d]
theorem rowV_at {us : Nat → SNV} {n j : Nat} (h : j < n) : (rowV us n)[j]? = some [.slice (us j).T (us j).n (us j).c, .slice (us j).B (us j).m (us j).d] := by
  simp [rowV, h]
def nilV : SNV := ⟨none, 0, 0, none, 0, 0⟩
def setV (us : Nat → SNV) (k b : Nat) (j : Nat) : SNV := if j = k then ⟨some ⟨b, 0, none⟩, 1, 1, none, 0, 0⟩ else us j
theorem rowV_set {us : Nat → SNV} {n k b : Nat} (h : k < n) (hu : us k = nilV) : (rowV us n).set k ([Value.slice (us k).T (us k).n (us k).c, .slice (us k).B (us k).m (us k).d].set 0 (.slice (some ⟨b, 0, none⟩) 1 1)) = rowV (setV us k b) n := by
  apply List.ext_getElem
  · simp [rowV]
  · intro j h1 h2
    simp only [rowV, List.length_set, List.length_map, List.length_range] at h1
    by_cases hj : j = k
    · subst hj
      simp [rowV, setV, hu, nilV]
    · rw [List.getElem_set_ne (fun e => hj e.symm)]
      simp [rowV, setV, hj]
theorem rowV_nil (n : Nat) : (Array.replicate (n * 2) (Value.slice none 0 0)).toList = (rowV (fun _ => nilV) n).flatten := by
  have e : rowV (fun _ => nilV) n = List.replicate n (List.replicate 2 (.slice none 0 0)) := by
    apply List.ext_getElem
    · simp [rowV]
    · intro j h1 h2
      simp [rowV, nilV, List.replicate]
  rw [e, List.flatten_replicate_replicate, Array.toList_replicate]
theorem rowV_each (us : Nat → SNV) (n : Nat) : Each 2 (rowV us n) := fun v hv => by
  obtain ⟨j, _, rfl⟩ := List.mem_map.1 hv
  exact ⟨rfl, fun u hu => by
    simp only [List.mem_cons, List.not_mem_nil, or_false] at hu
    rcases hu with rfl | rfl <;> rfl⟩

/-- The first k rows have their trigger. -/
structure Trigd (w : World) (B g n k : Nat) (us : Nat → SNV) : Prop where
  row : RowG w 36 2 B (some ⟨g, 0, none⟩) n n (rowV us n)
  old : ∀ j, k ≤ j → us j = nilV
  new : ∀ j, j < k → ∃ b, g < b ∧ us j = ⟨some ⟨b, 0, none⟩, 1, 1, none, 0, 0⟩ ∧ Runes w (some ⟨b, 0, none⟩) 1 [116]
theorem Trigd.start (w : World) (n : Nat) (hn : n ≤ 1000000) : Trigd (w.alloc (.cells (Array.replicate (n * 2) (.slice none 0 0)) 36)) w.heap.size w.heap.size n 0 (fun _ => nilV) :=
  ⟨RowG.ofBox (Box.new _ _ _) (Nat.le_refl _) (rowV_each _ _) (rowV_nil n) (by simp [rowV]) (by unfold maxLen; omega), fun _ _ => rfl, fun j h => absurd h (by omega)⟩
theorem Trigd.step {w : World} {B g n k : Nat} {us : Nat → SNV} (h : Trigd w B g n k us) (hk : k < n) : Trigd ((w.alloc (.cells #[.int .i32 116] 21)).setCell ⟨g, k * 2, none⟩ (.slice (some ⟨w.heap.size, 0, none⟩) 1 1)) B g n (k + 1) (setV us k w.heap.size) := by
  have hr := h.row.alloc (.cells #[.int .i32 116] 21)
  have hg := (h.row.blk_ge g rfl).2
  have hs := hr.set (i := 0) (u := .slice (some ⟨w.heap.size, 0, none⟩) 1 1) (rowV_at hk) (by omega) rfl
  rw [rowV_set hk (h.old k (Nat.le_refl _))] at hs
  refine ⟨hs, fun j hj => ?_, fun j hj => ?_⟩
  · unfold setV
    rw [if_neg (by omega)]
    exact h.old j (by omega)
  · have far : ∀ b, g < b → Runes (w.alloc (.cells #[.int .i32 116] 21)) (some ⟨b, 0, none⟩) 1 [116] → Runes ((w.alloc (.cells #[.int .i32 116] 21)).setCell ⟨g, k * 2, none⟩ (.slice (some ⟨w.heap.size, 0, none⟩) 1 1)) (some ⟨b, 0, none⟩) 1 [116] := fun b hb hR =>
      hR.keep fun b' o' e _ => Below.heap_setCell _ ⟨g, k * 2, none⟩ _ b' (fun e' => by
        injection e with e
        injection e with e1 e2
        have e3 : b' = g := e'
        omega)
    by_cases hjk : j = k
    · subst hjk
      exact ⟨w.heap.size, hg, by simp [setV], far _ hg (Runes.news w _ _ [116] rfl (W32.one (by omega)))⟩
    · obtain ⟨b, h1, h2, h3⟩ := h.new j (by omega)
      exact ⟨b, h1, by unfold setV; rw [if_neg hjk]; exact h2, far b h1 (h3.alloc _)⟩
theorem Trigd.snips {w : World} {B g n : Nat} {us : Nat → SNV} (h : Trigd w B g n n us) : Snips w (some ⟨g, 0, none⟩) n us (List.replicate n ⟨[116], []⟩) :=
  ⟨by simp, fun j hj => by
    obtain ⟨g', e, hc, _⟩ := h.row.cell (i := 0) (rowV_at hj) (by omega) rfl
    injection e with e
    injection e with e
    subst e
    obtain ⟨g', e, hc', _⟩ := h.row.cell (i := 1) (rowV_at hj) (by omega) rfl
    injection e with e
    injection e with e
    subst e
    exact ⟨g, 0, rfl, by rw [Nat.zero_add]; exact hc, by rw [Nat.zero_add]; exact hc'⟩, fun j hj => by
    obtain ⟨b, h1, h2, h3⟩ := h.new j hj
    exact ⟨⟨[116], []⟩, by simp [hj], by rw [h2]; exact ⟨h3, Runes.nil _ _, by simp, by simp⟩⟩⟩
theorem tab1 {w : World} {g : Nat} (hg : w.heap.size = g) {A B : Option Addr} {n c m d : Nat} {t b : List Int} (hA : Runes w A n t) (hB : Runes w B m b) (hc : n ≤ c ∧ c ≤ 9223372036854775807) (hd : m ≤ d ∧ d ≤ 9223372036854775807) :
    Snips (w.alloc (.cells #[.slice A n c, .slice B m d] 36)) (some ⟨g, 0, none⟩) 1 (fun _ => ⟨A, n, c, B, m, d⟩) [⟨t, b⟩] :=
  Snips.lit (Box.newAt hg _ _) rfl (fun j hj => by
    match j, hj with
    | 0, _ => exact ⟨rfl, rfl⟩) (fun j hj => by
    match j, hj with
    | 0, _ => exact ⟨_, rfl, ⟨hA.alloc _, hB.alloc _, hc, hd⟩⟩)
theorem tab2 {w : World} {g : Nat} (hg : w.heap.size = g) {A A' B' : Option Addr} {n c n' c' m' d' : Nat} {t t' b' : List Int} (hA : Runes w A n t) (hA' : Runes w A' n' t') (hB' : Runes w B' m' b') (hc : n ≤ c ∧ c ≤ 9223372036854775807) (hc' : n' ≤ c' ∧ c' ≤ 9223372036854775807) (hd' : m' ≤ d' ∧ d' ≤ 9223372036854775807) :
    Snips (w.alloc (.cells #[.slice A n c, .slice none 0 0, .slice A' n' c', .slice B' m' d'] 36)) (some ⟨g, 0, none⟩) 2 (fun j => match j with | 0 => ⟨A, n, c, none, 0, 0⟩ | _ => ⟨A', n', c', B', m', d'⟩) [⟨t, []⟩, ⟨t', b'⟩] :=
  Snips.lit (Box.newAt hg _ _) rfl (fun j hj => by
    match j, hj with
    | 0, _ => exact ⟨rfl, rfl⟩
    | 1, _ => exact ⟨rfl, rfl⟩) (fun j hj => by
    match j, hj with
    | 0, _ => exact ⟨_, rfl, ⟨hA.alloc _, Runes.nil _ _, hc, by simp⟩⟩
    | 1, _ => exact ⟨_, rfl, ⟨hA'.alloc _, hB'.alloc _, hc', hd'⟩⟩)
theorem Snips.alloc {w : World} {A : Option Addr} {n : Nat} {us : Nat → SNV} {l : List Snp} (h : Snips w A n us l) (o : Obj) : Snips (w.alloc o) A n us l := h.below ((Below.refl _ _).alloc (Nat.le_refl _) o)
/-- The first one of two; the second one. -/
theorem Snips.head {w : World} {A : Option Addr} {us : Nat → SNV} {x y : Snp} (h : Snips w A 2 us [x, y]) : Snips w A 1 us [x] :=
  ⟨rfl, fun j hj => h.at_ j (by omega), fun j hj => by
    obtain ⟨z, h1, h2⟩ := h.rd j (by omega)
    obtain rfl : j = 0 := by omega
    exact ⟨z, h1, h2⟩⟩
theorem Snips.tail {w : World} {b o : Nat} {us : Nat → SNV} {x y : Snp} (h : Snips w (some ⟨b, o, none⟩) 2 us [x, y]) : Snips w (some ⟨b, o + 2, none⟩) 1 (fun j => us (j + 1)) [y] :=
  ⟨rfl, fun j hj => by
    obtain ⟨b', o', h1, h2, h3⟩ := h.at_ (j + 1) (by omega)
    injection h1 with h1
    injection h1 with h1 h4
    subst h1 h4
    exact ⟨b, o + 2, rfl, by rw [show o + 2 + j * 2 = o + (j + 1) * 2 by omega]; exact h2, by rw [show o + 2 + j * 2 + 1 = o + (j + 1) * 2 + 1 by omega]; exact h3⟩, fun j hj => by
    obtain ⟨z, h1, h2⟩ := h.rd (j + 1) (by omega)
    obtain rfl : j = 0 := by omega
    exact ⟨z, h1, h2⟩⟩
theorem run_head2 (g : Nat) (W : World) : (Instr.slice 22 (.slice (some ⟨g, 0, none⟩) 2 2) none (some (.int .i64 1)) none).run Try.prog W = .ok (.slice (some ⟨g, 0, none⟩) 1 2) W := by
  have hz : (sizeOf (Try.prog.elem 22)).run Try.prog W = .ok 2 W := by kernel_rfl
  rw [run_slice_h (P := Try.prog) (t := 22) (ht := by kernel_rfl) (h0 := by omega) (h2 := by omega), hz]
  simp [Result.andThen, sliced, Addr.add]
theorem run_tail2 (g : Nat) (W : World) : (Instr.slice 22 (.slice (some ⟨g, 0, none⟩) 2 2) (some (.int .i64 1)) none none).run Try.prog W = .ok (.slice (some ⟨g, 2, none⟩) 1 1) W := by
  have hz : (sizeOf (Try.prog.elem 22)).run Try.prog W = .ok 2 W := by kernel_rfl
  rw [run_slice_l (P := Try.prog) (t := 22) (ht := by kernel_rfl) (h0 := by omega) (h1 := by omega), hz]
  simp [Result.andThen, sliced, Addr.add]
theorem bnd_t : rowT ⟨[116], []⟩ = true := by decide
theorem mayS_zeros (n : Nat) : mayS (List.replicate n 0) = true := by
  unfold mayS
  rw [List.all_eq_true]
  intro x hx
  rw [(List.mem_replicate.1 hx).2]
  decide
theorem bnd_trig (n : Nat) (h : 1 ≤ n) : tabT [⟨List.replicate n 0, []⟩] = decide (n ≤ 20) := by
  have e0 : mayS [] = true := rfl
  simp [tabT, rowT, mayS_zeros, e0, h]
theorem bnd_body (n : Nat) : tabT [⟨[116], List.replicate n 0⟩] = decide (n ≤ 600) := by
  have e1 : mayS [116] = true := by decide
  simp [tabT, rowT, mayS_zeros, e1]
theorem bnd_odd (r : Int) : tabT [⟨[r], []⟩] = isS r := by
  have e0 : mayS [] = true := rfl
  have e1 : mayS [r] = isS r := by simp [mayS]
  simp [tabT, rowT, e0, e1]
theorem bnd_odd2 (r : Int) : tabT [⟨[116], [r]⟩] = isS r := by
  have e0 : mayS [116] = true := by decide
  have e1 : mayS [r] = isS r := by simp [mayS]
  simp [tabT, rowT, e0, e1]

theorem tabs23 (w : World) (tl bl : Nat) (Z0 Z3 : Array Value) (e0 : Z0 = (cells32 (List.replicate tl 0)).toArray) (e3 : Z3 = (cells32 (List.replicate bl 0)).toArray) (r : Int) (hr : -2147483648 ≤ r ∧ r ≤ 2147483647) (ht : tl ≤ 1000) (hb : bl ≤ 1000) :
    ∃ u1 u2 u3, Snips (((((((((w.alloc (.cells Z0 21)).alloc (.cells #[.slice (some ⟨w.heap.size, 0, none⟩) tl tl, .slice none 0 0] 36)).alloc (.cells #[.int .i32 116] 21)).alloc (.cells Z3 21)).alloc (.cells #[.slice (some ⟨w.heap.size + 1 + 1, 0, none⟩) 1 1, .slice (some ⟨w.heap.size + 1 + 1 + 1, 0, none⟩) bl bl] 36)).alloc (.cells #[.int .i32 r] 21)).alloc (.cells #[.int .i32 116] 21)).alloc (.cells #[.int .i32 r] 21)).alloc (.cells #[.slice (some ⟨w.heap.size + 1 + 1 + 1 + 1 + 1, 0, none⟩) 1 1, .slice none 0 0, .slice (some ⟨w.heap.size + 1 + 1 + 1 + 1 + 1 + 1, 0, none⟩) 1 1, .slice (some ⟨w.heap.size + 1 + 1 + 1 + 1 + 1 + 1 + 1, 0, none⟩) 1 1] 36)) (some ⟨w.heap.size + 1, 0, none⟩) 1 u1 [⟨List.replicate tl 0, []⟩] ∧ Snips (((((((((w.alloc (.cells Z0 21)).alloc (.cells #[.slice (some ⟨w.heap.size, 0, none⟩) tl tl, .slice none 0 0] 36)).alloc (.cells #[.int .i32 116] 21)).alloc (.cells Z3 21)).alloc (.cells #[.slice (some ⟨w.heap.size + 1 + 1, 0, none⟩) 1 1, .slice (some ⟨w.heap.size + 1 + 1 + 1, 0, none⟩) bl bl] 36)).alloc (.cells #[.int .i32 r] 21)).alloc (.cells #[.int .i32 116] 21)).alloc (.cells #[.int .i32 r] 21)).alloc (.cells #[.slice (some ⟨w.heap.size + 1 + 1 + 1 + 1 + 1, 0, none⟩) 1 1, .slice none 0 0, .slice (some ⟨w.heap.size + 1 + 1 + 1 + 1 + 1 + 1, 0, none⟩) 1 1, .slice (some ⟨w.heap.size + 1 + 1 + 1 + 1 + 1 + 1 + 1, 0, none⟩) 1 1] 36)) (some ⟨w.heap.size + 1 + 1 + 1 + 1, 0, none⟩) 1 u2 [⟨[116], List.replicate bl 0⟩] ∧
      Snips (((((((((w.alloc (.cells Z0 21)).alloc (.cells #[.slice (some ⟨w.heap.size, 0, none⟩) tl tl, .slice none 0 0] 36)).alloc (.cells #[.int .i32 116] 21)).alloc (.cells Z3 21)).alloc (.cells #[.slice (some ⟨w.heap.size + 1 + 1, 0, none⟩) 1 1, .slice (some ⟨w.heap.size + 1 + 1 + 1, 0, none⟩) bl bl] 36)).alloc (.cells #[.int .i32 r] 21)).alloc (.cells #[.int .i32 116] 21)).alloc (.cells #[.int .i32 r] 21)).alloc (.cells #[.slice (some ⟨w.heap.size + 1 + 1 + 1 + 1 + 1, 0, none⟩) 1 1, .slice none 0 0, .slice (some ⟨w.heap.size + 1 + 1 + 1 + 1 + 1 + 1, 0, none⟩) 1 1, .slice (some ⟨w.heap.size + 1 + 1 + 1 + 1 + 1 + 1 + 1, 0, none⟩) 1 1] 36)) (some ⟨w.heap.size + 1 + 1 + 1 + 1 + 1 + 1 + 1 + 1, 0, none⟩) 2 u3 [⟨[r], []⟩, ⟨[116], [r]⟩] ∧ Below w.heap.size w (((((((((w.alloc (.cells Z0 21)).alloc (.cells #[.slice (some ⟨w.heap.size, 0, none⟩) tl tl, .slice none 0 0] 36)).alloc (.cells #[.int .i32 116] 21)).alloc (.cells Z3 21)).alloc (.cells #[.slice (some ⟨w.heap.size + 1 + 1, 0, none⟩) 1 1, .slice (some ⟨w.heap.size + 1 + 1 + 1, 0, none⟩) bl bl] 36)).alloc (.cells #[.int .i32 r] 21)).alloc (.cells #[.int .i32 116] 21)).alloc (.cells #[.int .i32 r] 21)).alloc (.cells #[.slice (some ⟨w.heap.size + 1 + 1 + 1 + 1 + 1, 0, none⟩) 1 1, .slice none 0 0, .slice (some ⟨w.heap.size + 1 + 1 + 1 + 1 + 1 + 1, 0, none⟩) 1 1, .slice (some ⟨w.heap.size + 1 + 1 + 1 + 1 + 1 + 1 + 1, 0, none⟩) 1 1] 36)) := by
  have z0 := made_runes tl w
  rw [← e0] at z0
  have h2 : Runes (((w.alloc (.cells Z0 21)).alloc (.cells #[.slice (some ⟨w.heap.size, 0, none⟩) tl tl, .slice none 0 0] 36)).alloc (.cells #[.int .i32 116] 21)) (some ⟨w.heap.size + 1 + 1, 0, none⟩) 1 [116] := Runes.newsAt (w := ((w.alloc (.cells Z0 21)).alloc (.cells #[.slice (some ⟨w.heap.size, 0, none⟩) tl tl, .slice none 0 0] 36))) (g := w.heap.size + 1 + 1) (by simp) #[.int .i32 116] 21 [116] rfl (W32.one (by omega))
  have z3 : Runes ((((w.alloc (.cells Z0 21)).alloc (.cells #[.slice (some ⟨w.heap.size, 0, none⟩) tl tl, .slice none 0 0] 36)).alloc (.cells #[.int .i32 116] 21)).alloc (.cells Z3 21)) (some ⟨w.heap.size + 1 + 1 + 1, 0, none⟩) bl (List.replicate bl 0) := by
    have := made_runes bl (((w.alloc (.cells Z0 21)).alloc (.cells #[.slice (some ⟨w.heap.size, 0, none⟩) tl tl, .slice none 0 0] 36)).alloc (.cells #[.int .i32 116] 21))
    rw [← e3] at this
    rwa [show (((w.alloc (.cells Z0 21)).alloc (.cells #[.slice (some ⟨w.heap.size, 0, none⟩) tl tl, .slice none 0 0] 36)).alloc (.cells #[.int .i32 116] 21)).heap.size = w.heap.size + 1 + 1 + 1 by simp] at this
  have h5 : Runes ((((((w.alloc (.cells Z0 21)).alloc (.cells #[.slice (some ⟨w.heap.size, 0, none⟩) tl tl, .slice none 0 0] 36)).alloc (.cells #[.int .i32 116] 21)).alloc (.cells Z3 21)).alloc (.cells #[.slice (some ⟨w.heap.size + 1 + 1, 0, none⟩) 1 1, .slice (some ⟨w.heap.size + 1 + 1 + 1, 0, none⟩) bl bl] 36)).alloc (.cells #[.int .i32 r] 21)) (some ⟨w.heap.size + 1 + 1 + 1 + 1 + 1, 0, none⟩) 1 [r] := Runes.newsAt (w := (((((w.alloc (.cells Z0 21)).alloc (.cells #[.slice (some ⟨w.heap.size, 0, none⟩) tl tl, .slice none 0 0] 36)).alloc (.cells #[.int .i32 116] 21)).alloc (.cells Z3 21)).alloc (.cells #[.slice (some ⟨w.heap.size + 1 + 1, 0, none⟩) 1 1, .slice (some ⟨w.heap.size + 1 + 1 + 1, 0, none⟩) bl bl] 36))) (g := w.heap.size + 1 + 1 + 1 + 1 + 1) (by simp) #[.int .i32 r] 21 [r] rfl (W32.one hr)
  have h6 : Runes (((((((w.alloc (.cells Z0 21)).alloc (.cells #[.slice (some ⟨w.heap.size, 0, none⟩) tl tl, .slice none 0 0] 36)).alloc (.cells #[.int .i32 116] 21)).alloc (.cells Z3 21)).alloc (.cells #[.slice (some ⟨w.heap.size + 1 + 1, 0, none⟩) 1 1, .slice (some ⟨w.heap.size + 1 + 1 + 1, 0, none⟩) bl bl] 36)).alloc (.cells #[.int .i32 r] 21)).alloc (.cells #[.int .i32 116] 21)) (some ⟨w.heap.size + 1 + 1 + 1 + 1 + 1 + 1, 0, none⟩) 1 [116] := Runes.newsAt (w := ((((((w.alloc (.cells Z0 21)).alloc (.cells #[.slice (some ⟨w.heap.size, 0, none⟩) tl tl, .slice none 0 0] 36)).alloc (.cells #[.int .i32 116] 21)).alloc (.cells Z3 21)).alloc (.cells #[.slice (some ⟨w.heap.size + 1 + 1, 0, none⟩) 1 1, .slice (some ⟨w.heap.size + 1 + 1 + 1, 0, none⟩) bl bl] 36)).alloc (.cells #[.int .i32 r] 21))) (g := w.heap.size + 1 + 1 + 1 + 1 + 1 + 1) (by simp) #[.int .i32 116] 21 [116] rfl (W32.one (by omega))
  have h7 : Runes ((((((((w.alloc (.cells Z0 21)).alloc (.cells #[.slice (some ⟨w.heap.size, 0, none⟩) tl tl, .slice none 0 0] 36)).alloc (.cells #[.int .i32 116] 21)).alloc (.cells Z3 21)).alloc (.cells #[.slice (some ⟨w.heap.size + 1 + 1, 0, none⟩) 1 1, .slice (some ⟨w.heap.size + 1 + 1 + 1, 0, none⟩) bl bl] 36)).alloc (.cells #[.int .i32 r] 21)).alloc (.cells #[.int .i32 116] 21)).alloc (.cells #[.int .i32 r] 21)) (some ⟨w.heap.size + 1 + 1 + 1 + 1 + 1 + 1 + 1, 0, none⟩) 1 [r] := Runes.newsAt (w := (((((((w.alloc (.cells Z0 21)).alloc (.cells #[.slice (some ⟨w.heap.size, 0, none⟩) tl tl, .slice none 0 0] 36)).alloc (.cells #[.int .i32 116] 21)).alloc (.cells Z3 21)).alloc (.cells #[.slice (some ⟨w.heap.size + 1 + 1, 0, none⟩) 1 1, .slice (some ⟨w.heap.size + 1 + 1 + 1, 0, none⟩) bl bl] 36)).alloc (.cells #[.int .i32 r] 21)).alloc (.cells #[.int .i32 116] 21))) (g := w.heap.size + 1 + 1 + 1 + 1 + 1 + 1 + 1) (by simp) #[.int .i32 r] 21 [r] rfl (W32.one hr)
  refine ⟨_, _, _, (((((((tab1 (by simp) z0 (Runes.nil _ none) (by omega) (by omega)).alloc _).alloc _).alloc _).alloc _).alloc _).alloc _).alloc _,
    ((((tab1 (by simp) (h2.alloc _) z3 (by omega) (by omega)).alloc _).alloc _).alloc _).alloc _,
    tab2 (by simp) ((h5.alloc _).alloc _) (h6.alloc _) h7 (by omega) (by omega) (by omega), ?_⟩
  exact ((((((((((Below.refl _ _).alloc (Nat.le_refl _) _).alloc (by simp) _).alloc (by simp; omega) _).alloc (by simp; omega) _).alloc (by simp; omega) _).alloc (by simp; omega) _).alloc (by simp; omega) _).alloc (by simp; omega) _).alloc (by simp; omega) _)


set_option maxRecDepth 100000 in
set_option maxHeartbeats 4000000 in
theorem bounds23a (k r : Int) (w : World) (hk : idxN k 3 = 0) (hr : -2147483648 ≤ r ∧ r ≤ 2147483647) :
    Calls Try.prog 4 #[.int .i64 k, .int .i32 r] w fun e w' => e = .returned (.bool true) ∧ Below w.heap.size w w' := by
  have HK := hide hk
  have HR := hide hr
  have hmk : ∀ W, (Instr.makeSlice 22 (.int .i64 19) (.int .i64 19)).run Try.prog W = .ok (.slice (some ⟨W.heap.size, 0, none⟩) 19 19) (W.alloc (.cells (Array.replicate (19 * 2) (.slice none 0 0)) 36)) := fun W => run_makeSnip 19 (by omega) W
  clear hk hr
  go_enter Try.func4, Try.ntmps4
  go_wp2_with fail
  refine (index_any k 3 _ (by omega) (by omega)).mono ?_
  rw [show (3 : Int).toNat = 3 from rfl, HK.out]
  rintro e w' ⟨rfl, rfl⟩
  have HT0 := hide (Trigd.start w 19 (by omega))
  have HB0 := hide ((Below.refl w.heap.size w).alloc (Nat.le_refl _) (.cells (Array.replicate (19 * 2) (.slice none 0 0)) 36))
  go_wp2_with fail
  go_loopw [7, 23] (fun _ i wx => ∃ (j : Nat) (us : Nat → SNV), j ≤ 19 ∧ i = .int .i64 j ∧ Hid (Trigd wx w.heap.size w.heap.size 19 j us) ∧ Below w.heap.size w wx) (fun _ i _ => 19 - (intOf i).toNat)
  case atStart => exact ⟨0, _, by omega, rfl, HT0.out, HB0.out⟩
  case round =>
    obtain ⟨j, us, hj, rfl, ht, hbel⟩ := hrel
    have HB := hide hbel
    have hsz := hbel.size
    clear hbel
    by_cases hlt : j < 19
    · have d1 : (j : Int) < 19 := by omega
      obtain ⟨g', e, hc, hf⟩ := (ht.out.row.alloc (.cells #[.int .i32 116] 21)).cell (i := 0) (rowV_at hlt) (by omega) rfl
      injection e with e
      injection e with e
      subst e
      rw [Nat.add_zero] at hc hf
      have HST := hide (ht.out.step hlt)
      go_wp2_with fail
      go_roundw
      case rel => exact ⟨j + 1, _, by omega, by go_num, HST.out, (HB.out.alloc hsz _).setCell (Nat.le_refl _) _⟩
      case measure => simp [intOf]; omega
    · obtain rfl : j = 19 := by omega
      have HS := hide ht.out.snips
      clear ht
      obtain ⟨Z0, e0⟩ : ∃ Z0 : Array Value, Z0 = (cells32 (List.replicate 19 0)).toArray := ⟨_, rfl⟩
      obtain ⟨Z3, e3⟩ : ∃ Z3 : Array Value, Z3 = (cells32 (List.replicate 599 0)).toArray := ⟨_, rfl⟩
      obtain ⟨u1, u2, u3, h1, h2, h3, hb⟩ := tabs23 wr 19 599 Z0 Z3 e0 e3 r HR.out (by omega) (by omega)
      have HX1 := hide h1
      have HX2 := hide h2
      have HX3 := hide h3
      have HBX := hide (HB.out.trans (hb.mono hsz))
      have HSX := hide (HS.out.below hb)
      have hm1 : ∀ W, (Instr.makeSlice 23 (.int .i64 19) (.int .i64 19)).run Try.prog W = .ok (.slice (some ⟨W.heap.size, 0, none⟩) 19 19) (W.alloc (.cells Z0 21)) := fun W => by rw [e0]; exact run_make32 19 (by omega) W
      have hm2 : ∀ W, (Instr.makeSlice 23 (.int .i64 599) (.int .i64 599)).run Try.prog W = .ok (.slice (some ⟨W.heap.size, 0, none⟩) 599 599) (W.alloc (.cells Z3 21)) := fun W => by rw [e3]; exact run_make32 599 (by omega) W
      have hsz9 := hb.size
      clear h1 h2 h3 hb HS HT0 HB0 hmk e0 e3
      go_wp2_with fail
      generalize hW : (((((((((wr.alloc (.cells Z0 21)).alloc (.cells #[.slice (some ⟨wr.heap.size, 0, none⟩) 19 19, .slice none 0 0] 36)).alloc (.cells #[.int .i32 116] 21)).alloc (.cells Z3 21)).alloc (.cells #[.slice (some ⟨wr.heap.size + 1 + 1, 0, none⟩) 1 1, .slice (some ⟨wr.heap.size + 1 + 1 + 1, 0, none⟩) 599 599] 36)).alloc (.cells #[.int .i32 r] 21)).alloc (.cells #[.int .i32 116] 21)).alloc (.cells #[.int .i32 r] 21)).alloc (.cells #[.slice (some ⟨wr.heap.size + 1 + 1 + 1 + 1 + 1, 0, none⟩) 1 1, .slice none 0 0, .slice (some ⟨wr.heap.size + 1 + 1 + 1 + 1 + 1 + 1, 0, none⟩) 1 1, .slice (some ⟨wr.heap.size + 1 + 1 + 1 + 1 + 1 + 1 + 1, 0, none⟩) 1 1] 36)) = w9 at HX1 HX2 HX3 HBX HSX hsz9 ⊢
      clear hW hm1 hm2
      have hrh := run_head2 (wr.heap.size + 1 + 1 + 1 + 1 + 1 + 1 + 1 + 1)
      have hrt := run_tail2 (wr.heap.size + 1 + 1 + 1 + 1 + 1 + 1 + 1 + 1)
      refine (amay_any _ 19 19 us _ w9 HSX.out (by omega)).mono ?_
      rw [show tabT (List.replicate 19 ⟨[116], []⟩) = true by decide +kernel]
      rintro e v1 ⟨rfl, hb1⟩
      have HV1 := hide hb1
      clear hb1
      go_wp2_with fail
      refine (amay_any _ 1 1 u1 _ v1 (HX1.out.below HV1.out) (by omega)).mono ?_
      rw [bnd_trig _ (by omega), show decide (19 ≤ 20) = true by decide]
      rintro e v2 ⟨rfl, hb2⟩
      have HV2 := hide (HV1.out.trans (hb2.mono HV1.out.size))
      clear hb2
      go_wp2_with fail
      refine (amay_any _ 1 1 u2 _ v2 (HX2.out.below HV2.out) (by omega)).mono ?_
      rw [bnd_body, show decide (599 ≤ 600) = true by decide]
      rintro e v3 ⟨rfl, hb3⟩
      have HV3 := hide (HV2.out.trans (hb3.mono HV2.out.size))
      clear hb3
      go_wp2_with fail
      refine (amay_any _ 1 2 u3 _ v3 (HX3.out.below HV3.out).head (by omega)).mono ?_
      rw [bnd_odd]
      rintro e v4 ⟨rfl, hb4⟩
      have HV4 := hide (HV3.out.trans (hb4.mono HV3.out.size))
      clear hb4
      go_wp2_with fail
      refine (sign_any r _).mono ?_
      rintro e w' ⟨rfl, rfl⟩
      have hbb : (isS r != isS r) = false := by simp
      go_wp2_with fail
      refine (amay_any _ 1 1 _ _ v4 (HX3.out.below HV4.out).tail (by omega)).mono ?_
      rw [bnd_odd2]
      rintro e v5 ⟨rfl, hb5⟩
      have HV5 := hide (HV4.out.trans (hb5.mono HV4.out.size))
      clear hb5
      go_wp2_with fail
      refine (sign_any r _).mono ?_
      rintro e w' ⟨rfl, rfl⟩
      have HL1 := hide (Runes.news v5 _ 21 [116] rfl (W32.one (by omega)))
      have HV6 := hide (HV5.out.alloc HV5.out.size (.cells #[.int .i32 116] 21))
      go_wp2_with fail
      refine (afind_any _ _ 19 19 1 1 1 us _ [116] _ (HSX.out.below HV6.out) HL1.out (by omega) (by omega) (by omega)).mono ?_
      rw [show findS (List.replicate 19 ⟨[116], []⟩) [116] 1 = 0 by decide +kernel]
      rintro e v7 ⟨rfl, hb7⟩
      have HV7 := hide (HV6.out.trans (hb7.mono HV6.out.size))
      clear hb7
      have HL2 := hide (Runes.news v7 _ 21 [116] rfl (W32.one (by omega)))
      have HV8 := hide (HV7.out.alloc HV7.out.size (.cells #[.int .i32 116] 21))
      go_wp2_with fail
      refine (anamed_any _ _ 19 19 1 1 1 us _ [116] _ (HSX.out.below HV8.out) HL2.out (by omega) (by omega) (by omega)).mono ?_
      rw [show namedS (List.replicate 19 ⟨[116], []⟩) [116] 1 = 0 by decide +kernel]
      rintro e v9 ⟨rfl, hb9⟩
      have HV9 := hide (HV8.out.trans (hb9.mono HV8.out.size))
      clear hb9
      go_wp2_with fail
      refine (known23_any _).mono ?_
      rintro e v10 ⟨rfl, hb10⟩
      have HV10 := hide (HV9.out.trans (hb10.mono HV9.out.size))
      clear hb10
      go_wp2_with fail
      go_ret
      exact ⟨rfl, HBX.out.trans (HV10.out.mono (by omega))⟩


set_option maxRecDepth 100000 in
set_option maxHeartbeats 4000000 in
theorem bounds23b (k r : Int) (w : World) (hk : idxN k 3 = 1) (hr : -2147483648 ≤ r ∧ r ≤ 2147483647) :
    Calls Try.prog 4 #[.int .i64 k, .int .i32 r] w fun e w' => e = .returned (.bool true) ∧ Below w.heap.size w w' := by
  have HK := hide hk
  have HR := hide hr
  have hmk : ∀ W, (Instr.makeSlice 22 (.int .i64 20) (.int .i64 20)).run Try.prog W = .ok (.slice (some ⟨W.heap.size, 0, none⟩) 20 20) (W.alloc (.cells (Array.replicate (20 * 2) (.slice none 0 0)) 36)) := fun W => run_makeSnip 20 (by omega) W
  clear hk hr
  go_enter Try.func4, Try.ntmps4
  go_wp2_with fail
  refine (index_any k 3 _ (by omega) (by omega)).mono ?_
  rw [show (3 : Int).toNat = 3 from rfl, HK.out]
  rintro e w' ⟨rfl, rfl⟩
  have HT0 := hide (Trigd.start w 20 (by omega))
  have HB0 := hide ((Below.refl w.heap.size w).alloc (Nat.le_refl _) (.cells (Array.replicate (20 * 2) (.slice none 0 0)) 36))
  go_wp2_with fail
  go_loopw [7, 23] (fun _ i wx => ∃ (j : Nat) (us : Nat → SNV), j ≤ 20 ∧ i = .int .i64 j ∧ Hid (Trigd wx w.heap.size w.heap.size 20 j us) ∧ Below w.heap.size w wx) (fun _ i _ => 20 - (intOf i).toNat)
  case atStart => exact ⟨0, _, by omega, rfl, HT0.out, HB0.out⟩
  case round =>
    obtain ⟨j, us, hj, rfl, ht, hbel⟩ := hrel
    have HB := hide hbel
    have hsz := hbel.size
    clear hbel
    by_cases hlt : j < 20
    · have d1 : (j : Int) < 20 := by omega
      obtain ⟨g', e, hc, hf⟩ := (ht.out.row.alloc (.cells #[.int .i32 116] 21)).cell (i := 0) (rowV_at hlt) (by omega) rfl
      injection e with e
      injection e with e
      subst e
      rw [Nat.add_zero] at hc hf
      have HST := hide (ht.out.step hlt)
      go_wp2_with fail
      go_roundw
      case rel => exact ⟨j + 1, _, by omega, by go_num, HST.out, (HB.out.alloc hsz _).setCell (Nat.le_refl _) _⟩
      case measure => simp [intOf]; omega
    · obtain rfl : j = 20 := by omega
      have HS := hide ht.out.snips
      clear ht
      obtain ⟨Z0, e0⟩ : ∃ Z0 : Array Value, Z0 = (cells32 (List.replicate 20 0)).toArray := ⟨_, rfl⟩
      obtain ⟨Z3, e3⟩ : ∃ Z3 : Array Value, Z3 = (cells32 (List.replicate 600 0)).toArray := ⟨_, rfl⟩
      obtain ⟨u1, u2, u3, h1, h2, h3, hb⟩ := tabs23 wr 20 600 Z0 Z3 e0 e3 r HR.out (by omega) (by omega)
      have HX1 := hide h1
      have HX2 := hide h2
      have HX3 := hide h3
      have HBX := hide (HB.out.trans (hb.mono hsz))
      have HSX := hide (HS.out.below hb)
      have hm1 : ∀ W, (Instr.makeSlice 23 (.int .i64 20) (.int .i64 20)).run Try.prog W = .ok (.slice (some ⟨W.heap.size, 0, none⟩) 20 20) (W.alloc (.cells Z0 21)) := fun W => by rw [e0]; exact run_make32 20 (by omega) W
      have hm2 : ∀ W, (Instr.makeSlice 23 (.int .i64 600) (.int .i64 600)).run Try.prog W = .ok (.slice (some ⟨W.heap.size, 0, none⟩) 600 600) (W.alloc (.cells Z3 21)) := fun W => by rw [e3]; exact run_make32 600 (by omega) W
      have hsz9 := hb.size
      clear h1 h2 h3 hb HS HT0 HB0 hmk e0 e3
      go_wp2_with fail
      generalize hW : (((((((((wr.alloc (.cells Z0 21)).alloc (.cells #[.slice (some ⟨wr.heap.size, 0, none⟩) 20 20, .slice none 0 0] 36)).alloc (.cells #[.int .i32 116] 21)).alloc (.cells Z3 21)).alloc (.cells #[.slice (some ⟨wr.heap.size + 1 + 1, 0, none⟩) 1 1, .slice (some ⟨wr.heap.size + 1 + 1 + 1, 0, none⟩) 600 600] 36)).alloc (.cells #[.int .i32 r] 21)).alloc (.cells #[.int .i32 116] 21)).alloc (.cells #[.int .i32 r] 21)).alloc (.cells #[.slice (some ⟨wr.heap.size + 1 + 1 + 1 + 1 + 1, 0, none⟩) 1 1, .slice none 0 0, .slice (some ⟨wr.heap.size + 1 + 1 + 1 + 1 + 1 + 1, 0, none⟩) 1 1, .slice (some ⟨wr.heap.size + 1 + 1 + 1 + 1 + 1 + 1 + 1, 0, none⟩) 1 1] 36)) = w9 at HX1 HX2 HX3 HBX HSX hsz9 ⊢
      clear hW hm1 hm2
      have hrh := run_head2 (wr.heap.size + 1 + 1 + 1 + 1 + 1 + 1 + 1 + 1)
      have hrt := run_tail2 (wr.heap.size + 1 + 1 + 1 + 1 + 1 + 1 + 1 + 1)
      refine (amay_any _ 20 20 us _ w9 HSX.out (by omega)).mono ?_
      rw [show tabT (List.replicate 20 ⟨[116], []⟩) = true by decide +kernel]
      rintro e v1 ⟨rfl, hb1⟩
      have HV1 := hide hb1
      clear hb1
      go_wp2_with fail
      refine (amay_any _ 1 1 u1 _ v1 (HX1.out.below HV1.out) (by omega)).mono ?_
      rw [bnd_trig _ (by omega), show decide (20 ≤ 20) = true by decide]
      rintro e v2 ⟨rfl, hb2⟩
      have HV2 := hide (HV1.out.trans (hb2.mono HV1.out.size))
      clear hb2
      go_wp2_with fail
      refine (amay_any _ 1 1 u2 _ v2 (HX2.out.below HV2.out) (by omega)).mono ?_
      rw [bnd_body, show decide (600 ≤ 600) = true by decide]
      rintro e v3 ⟨rfl, hb3⟩
      have HV3 := hide (HV2.out.trans (hb3.mono HV2.out.size))
      clear hb3
      go_wp2_with fail
      refine (amay_any _ 1 2 u3 _ v3 (HX3.out.below HV3.out).head (by omega)).mono ?_
      rw [bnd_odd]
      rintro e v4 ⟨rfl, hb4⟩
      have HV4 := hide (HV3.out.trans (hb4.mono HV3.out.size))
      clear hb4
      go_wp2_with fail
      refine (sign_any r _).mono ?_
      rintro e w' ⟨rfl, rfl⟩
      have hbb : (isS r != isS r) = false := by simp
      go_wp2_with fail
      refine (amay_any _ 1 1 _ _ v4 (HX3.out.below HV4.out).tail (by omega)).mono ?_
      rw [bnd_odd2]
      rintro e v5 ⟨rfl, hb5⟩
      have HV5 := hide (HV4.out.trans (hb5.mono HV4.out.size))
      clear hb5
      go_wp2_with fail
      refine (sign_any r _).mono ?_
      rintro e w' ⟨rfl, rfl⟩
      have HL1 := hide (Runes.news v5 _ 21 [116] rfl (W32.one (by omega)))
      have HV6 := hide (HV5.out.alloc HV5.out.size (.cells #[.int .i32 116] 21))
      go_wp2_with fail
      refine (afind_any _ _ 20 20 1 1 1 us _ [116] _ (HSX.out.below HV6.out) HL1.out (by omega) (by omega) (by omega)).mono ?_
      rw [show findS (List.replicate 20 ⟨[116], []⟩) [116] 1 = 0 by decide +kernel]
      rintro e v7 ⟨rfl, hb7⟩
      have HV7 := hide (HV6.out.trans (hb7.mono HV6.out.size))
      clear hb7
      have HL2 := hide (Runes.news v7 _ 21 [116] rfl (W32.one (by omega)))
      have HV8 := hide (HV7.out.alloc HV7.out.size (.cells #[.int .i32 116] 21))
      go_wp2_with fail
      refine (anamed_any _ _ 20 20 1 1 1 us _ [116] _ (HSX.out.below HV8.out) HL2.out (by omega) (by omega) (by omega)).mono ?_
      rw [show namedS (List.replicate 20 ⟨[116], []⟩) [116] 1 = 0 by decide +kernel]
      rintro e v9 ⟨rfl, hb9⟩
      have HV9 := hide (HV8.out.trans (hb9.mono HV8.out.size))
      clear hb9
      go_wp2_with fail
      refine (known23_any _).mono ?_
      rintro e v10 ⟨rfl, hb10⟩
      have HV10 := hide (HV9.out.trans (hb10.mono HV9.out.size))
      clear hb10
      go_wp2_with fail
      go_ret
      exact ⟨rfl, HBX.out.trans (HV10.out.mono (by omega))⟩


set_option maxRecDepth 100000 in
set_option maxHeartbeats 4000000 in
theorem bounds23c (k r : Int) (w : World) (hk : idxN k 3 = 2) (hr : -2147483648 ≤ r ∧ r ≤ 2147483647) :
    Calls Try.prog 4 #[.int .i64 k, .int .i32 r] w fun e w' => e = .returned (.bool true) ∧ Below w.heap.size w w' := by
  have HK := hide hk
  have HR := hide hr
  have hmk : ∀ W, (Instr.makeSlice 22 (.int .i64 21) (.int .i64 21)).run Try.prog W = .ok (.slice (some ⟨W.heap.size, 0, none⟩) 21 21) (W.alloc (.cells (Array.replicate (21 * 2) (.slice none 0 0)) 36)) := fun W => run_makeSnip 21 (by omega) W
  clear hk hr
  go_enter Try.func4, Try.ntmps4
  go_wp2_with fail
  refine (index_any k 3 _ (by omega) (by omega)).mono ?_
  rw [show (3 : Int).toNat = 3 from rfl, HK.out]
  rintro e w' ⟨rfl, rfl⟩
  have HT0 := hide (Trigd.start w 21 (by omega))
  have HB0 := hide ((Below.refl w.heap.size w).alloc (Nat.le_refl _) (.cells (Array.replicate (21 * 2) (.slice none 0 0)) 36))
  go_wp2_with fail
  go_loopw [7, 23] (fun _ i wx => ∃ (j : Nat) (us : Nat → SNV), j ≤ 21 ∧ i = .int .i64 j ∧ Hid (Trigd wx w.heap.size w.heap.size 21 j us) ∧ Below w.heap.size w wx) (fun _ i _ => 21 - (intOf i).toNat)
  case atStart => exact ⟨0, _, by omega, rfl, HT0.out, HB0.out⟩
  case round =>
    obtain ⟨j, us, hj, rfl, ht, hbel⟩ := hrel
    have HB := hide hbel
    have hsz := hbel.size
    clear hbel
    by_cases hlt : j < 21
    · have d1 : (j : Int) < 21 := by omega
      obtain ⟨g', e, hc, hf⟩ := (ht.out.row.alloc (.cells #[.int .i32 116] 21)).cell (i := 0) (rowV_at hlt) (by omega) rfl
      injection e with e
      injection e with e
      subst e
      rw [Nat.add_zero] at hc hf
      have HST := hide (ht.out.step hlt)
      go_wp2_with fail
      go_roundw
      case rel => exact ⟨j + 1, _, by omega, by go_num, HST.out, (HB.out.alloc hsz _).setCell (Nat.le_refl _) _⟩
      case measure => simp [intOf]; omega
    · obtain rfl : j = 21 := by omega
      have HS := hide ht.out.snips
      clear ht
      obtain ⟨Z0, e0⟩ : ∃ Z0 : Array Value, Z0 = (cells32 (List.replicate 21 0)).toArray := ⟨_, rfl⟩
      obtain ⟨Z3, e3⟩ : ∃ Z3 : Array Value, Z3 = (cells32 (List.replicate 601 0)).toArray := ⟨_, rfl⟩
      obtain ⟨u1, u2, u3, h1, h2, h3, hb⟩ := tabs23 wr 21 601 Z0 Z3 e0 e3 r HR.out (by omega) (by omega)
      have HX1 := hide h1
      have HX2 := hide h2
      have HX3 := hide h3
      have HBX := hide (HB.out.trans (hb.mono hsz))
      have HSX := hide (HS.out.below hb)
      have hm1 : ∀ W, (Instr.makeSlice 23 (.int .i64 21) (.int .i64 21)).run Try.prog W = .ok (.slice (some ⟨W.heap.size, 0, none⟩) 21 21) (W.alloc (.cells Z0 21)) := fun W => by rw [e0]; exact run_make32 21 (by omega) W
      have hm2 : ∀ W, (Instr.makeSlice 23 (.int .i64 601) (.int .i64 601)).run Try.prog W = .ok (.slice (some ⟨W.heap.size, 0, none⟩) 601 601) (W.alloc (.cells Z3 21)) := fun W => by rw [e3]; exact run_make32 601 (by omega) W
      have hsz9 := hb.size
      clear h1 h2 h3 hb HS HT0 HB0 hmk e0 e3
      go_wp2_with fail
      generalize hW : (((((((((wr.alloc (.cells Z0 21)).alloc (.cells #[.slice (some ⟨wr.heap.size, 0, none⟩) 21 21, .slice none 0 0] 36)).alloc (.cells #[.int .i32 116] 21)).alloc (.cells Z3 21)).alloc (.cells #[.slice (some ⟨wr.heap.size + 1 + 1, 0, none⟩) 1 1, .slice (some ⟨wr.heap.size + 1 + 1 + 1, 0, none⟩) 601 601] 36)).alloc (.cells #[.int .i32 r] 21)).alloc (.cells #[.int .i32 116] 21)).alloc (.cells #[.int .i32 r] 21)).alloc (.cells #[.slice (some ⟨wr.heap.size + 1 + 1 + 1 + 1 + 1, 0, none⟩) 1 1, .slice none 0 0, .slice (some ⟨wr.heap.size + 1 + 1 + 1 + 1 + 1 + 1, 0, none⟩) 1 1, .slice (some ⟨wr.heap.size + 1 + 1 + 1 + 1 + 1 + 1 + 1, 0, none⟩) 1 1] 36)) = w9 at HX1 HX2 HX3 HBX HSX hsz9 ⊢
      clear hW hm1 hm2
      have hrh := run_head2 (wr.heap.size + 1 + 1 + 1 + 1 + 1 + 1 + 1 + 1)
      have hrt := run_tail2 (wr.heap.size + 1 + 1 + 1 + 1 + 1 + 1 + 1 + 1)
      refine (amay_any _ 21 21 us _ w9 HSX.out (by omega)).mono ?_
      rw [show tabT (List.replicate 21 ⟨[116], []⟩) = false by decide +kernel]
      rintro e v1 ⟨rfl, hb1⟩
      have HV1 := hide hb1
      clear hb1
      go_wp2_with fail
      refine (amay_any _ 1 1 u1 _ v1 (HX1.out.below HV1.out) (by omega)).mono ?_
      rw [bnd_trig _ (by omega), show decide (21 ≤ 20) = false by decide]
      rintro e v2 ⟨rfl, hb2⟩
      have HV2 := hide (HV1.out.trans (hb2.mono HV1.out.size))
      clear hb2
      go_wp2_with fail
      refine (amay_any _ 1 1 u2 _ v2 (HX2.out.below HV2.out) (by omega)).mono ?_
      rw [bnd_body, show decide (601 ≤ 600) = false by decide]
      rintro e v3 ⟨rfl, hb3⟩
      have HV3 := hide (HV2.out.trans (hb3.mono HV2.out.size))
      clear hb3
      go_wp2_with fail
      refine (amay_any _ 1 2 u3 _ v3 (HX3.out.below HV3.out).head (by omega)).mono ?_
      rw [bnd_odd]
      rintro e v4 ⟨rfl, hb4⟩
      have HV4 := hide (HV3.out.trans (hb4.mono HV3.out.size))
      clear hb4
      go_wp2_with fail
      refine (sign_any r _).mono ?_
      rintro e w' ⟨rfl, rfl⟩
      have hbb : (isS r != isS r) = false := by simp
      go_wp2_with fail
      refine (amay_any _ 1 1 _ _ v4 (HX3.out.below HV4.out).tail (by omega)).mono ?_
      rw [bnd_odd2]
      rintro e v5 ⟨rfl, hb5⟩
      have HV5 := hide (HV4.out.trans (hb5.mono HV4.out.size))
      clear hb5
      go_wp2_with fail
      refine (sign_any r _).mono ?_
      rintro e w' ⟨rfl, rfl⟩
      have HL1 := hide (Runes.news v5 _ 21 [116] rfl (W32.one (by omega)))
      have HV6 := hide (HV5.out.alloc HV5.out.size (.cells #[.int .i32 116] 21))
      go_wp2_with fail
      refine (afind_any _ _ 21 21 1 1 1 us _ [116] _ (HSX.out.below HV6.out) HL1.out (by omega) (by omega) (by omega)).mono ?_
      rw [show findS (List.replicate 21 ⟨[116], []⟩) [116] 1 = -1 by decide +kernel]
      rintro e v7 ⟨rfl, hb7⟩
      have HV7 := hide (HV6.out.trans (hb7.mono HV6.out.size))
      clear hb7
      have HL2 := hide (Runes.news v7 _ 21 [116] rfl (W32.one (by omega)))
      have HV8 := hide (HV7.out.alloc HV7.out.size (.cells #[.int .i32 116] 21))
      go_wp2_with fail
      refine (anamed_any _ _ 21 21 1 1 1 us _ [116] _ (HSX.out.below HV8.out) HL2.out (by omega) (by omega) (by omega)).mono ?_
      rw [show namedS (List.replicate 21 ⟨[116], []⟩) [116] 1 = -1 by decide +kernel]
      rintro e v9 ⟨rfl, hb9⟩
      have HV9 := hide (HV8.out.trans (hb9.mono HV8.out.size))
      clear hb9
      go_wp2_with fail
      refine (known23_any _).mono ?_
      rintro e v10 ⟨rfl, hb10⟩
      have HV10 := hide (HV9.out.trans (hb10.mono HV9.out.size))
      clear hb10
      go_wp2_with fail
      go_ret
      exact ⟨rfl, HBX.out.trans (HV10.out.mono (by omega))⟩

theorem bounds23_any (k r : Int) (w : World) (hr : -2147483648 ≤ r ∧ r ≤ 2147483647) :
    Calls Try.prog 4 #[.int .i64 k, .int .i32 r] w fun e w' => e = .returned (.bool true) ∧ Below w.heap.size w w' := by
  have h : idxN k 3 < 3 := idxN_lt (by omega)
  have h3 : idxN k 3 = 0 ∨ idxN k 3 = 1 ∨ idxN k 3 = 2 := by omega
  rcases h3 with h | h | h
  · exact bounds23a k r w h hr
  · exact bounds23b k r w h hr
  · exact bounds23c k r w h hr
end Go.Proofs.Ytkoieceifplphaa
