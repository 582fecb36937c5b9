/- Law 21: plain laws of TrieWith's loops. -/
import Derived.Test.YtchcpeenpijekaaKnown21
namespace Go.Proofs.Ytchcpeenpijekaa
open Go.RowKit
set_option linter.unusedVariables false

section
variable {L : List Itm} {p : List Int} {i : Nat} {x : Itm}
theorem take_next (h : L[i]? = some x) : L.take (i + 1) = L.take i ++ [x] := by
  obtain ⟨hi, rfl⟩ := List.getElem?_eq_some_iff.1 h
  exact List.take_succ_eq_append_getElem hi
theorem withB_app (L M : List Itm) (p : List Int) : withB (L ++ M) p = withB L p ++ withB M p := List.filter_append ..
theorem withB_yes (h : L[i]? = some x) (hb : begS x.1 p = true) : withB (L.take (i + 1)) p = withB (L.take i) p ++ [x] := by
  rw [take_next h, withB_app]
  congr 1
  unfold withB
  rw [List.filter_cons, if_pos hb, List.filter_nil]
theorem withB_not (h : L[i]? = some x) (hb : begS x.1 p = false) : withB (L.take (i + 1)) p = withB (L.take i) p := by
  rw [take_next h, withB_app]
  unfold withB
  rw [List.filter_cons, if_neg (by rw [hb]; decide), List.filter_nil, List.append_nil]
/-- Where the next one that begins so stands among those that do. -/
theorem withB_at (h : L[i]? = some x) (hb : begS x.1 p = true) : (withB L p)[(withB (L.take i) p).length]? = some x := by
  have h1 : L = L.take (i + 1) ++ L.drop (i + 1) := (List.take_append_drop _ _).symm
  have h2 : withB L p = withB (L.take i) p ++ ([x] ++ withB (L.drop (i + 1)) p) := by
    conv => lhs; rw [h1, withB_app, withB_yes h hb, List.append_assoc]
  rw [h2, List.getElem?_append_right (Nat.le_refl _), Nat.sub_self]
  rfl
/-- The word ahead. -/
def prevW (L : List Itm) : Nat → List Int
  | 0 => []
  | i + 1 => match L[i]? with | some x => x.1 | none => []
theorem prevW_succ {y : Itm} (h : L[i]? = some y) : prevW L (i + 1) = y.1 := by simp [prevW, h]
theorem lastW_take (hi : i ≤ L.length) : lastW [] (L.take i) = prevW L i := by
  cases i with
  | zero => rfl
  | succ i =>
    have h : L[i]? = some (L[i]'(by omega)) := List.getElem?_eq_getElem (by omega)
    rw [take_next h, lastW_snoc, prevW_succ h]
theorem nodes_next (h : L[i]? = some x) : nodesGo [] (L.take (i + 1)) = nodesGo [] (L.take i) + (x.1.length - lcp (prevW L i) x.1) := by
  have hi := (List.getElem?_eq_some_iff.1 h).1
  rw [take_next h, nodesGo_snoc, lastW_take (by omega)]
/-- Is a beginning of this word no beginning of the word ahead? -/
theorem begin_new {n : Nat} {v : List Int} (hn : n ≤ x.1.length) : begS v (x.1.take n) = decide (n ≤ lcp v x.1) := by
  unfold begS
  rw [decide_eq_decide]
  exact take_pre hn
theorem asc_prev {y : Itm} (hb : BagW L) (hy : L[i]? = some y) (hx : L[i + 1]? = some x) : lessS y.1 x.1 = true := by
  obtain ⟨h1, rfl⟩ := List.getElem?_eq_some_iff.1 hy
  obtain ⟨h2, rfl⟩ := List.getElem?_eq_some_iff.1 hx
  exact List.pairwise_iff_getElem.1 hb.asc i (i + 1) h1 h2 (by omega)
theorem item_cnt (hb : BagW L) (h : L[i]? = some x) : 0 < x.2 ∧ cntB L x.1 = x.2 := ⟨hb.pos x (List.mem_of_getElem? h), cntB_mem hb (List.mem_of_getElem? h)⟩
end
end Go.Proofs.Ytchcpeenpijekaa
