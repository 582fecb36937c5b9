/- Law 21: plain laws of TrieBack: words taken out in a turned order; how often each is among the first of them. -/
import Derived.Test.YtchcpeenpijekaaTriP
namespace Go.Proofs.Ytchcpeenpijekaa
open Go.RowKit
set_option linter.unusedVariables false

/-- A row from place r on, round. -/
def rotW (W : List (List Int)) (r : Nat) : List (List Int) := W.drop r ++ W.take r
section
variable {W l : List (List Int)} {r i K : Nat} {x v : List Int}
theorem rot_len (hr : r ≤ W.length) : (rotW W r).length = W.length := by
  unfold rotW
  rw [List.length_append, List.length_drop, List.length_take]
  omega
theorem rot_get (hK : W.length = K) (hr : r < K) (hi : i < K) : (rotW W r)[i]? = W[(i + r) % K]? := by
  unfold rotW
  by_cases h : i < K - r
  · rw [List.getElem?_append_left (by rw [List.length_drop]; omega), List.getElem?_drop, Nat.mod_eq_of_lt (by omega), Nat.add_comm]
  · rw [List.getElem?_append_right (by rw [List.length_drop]; omega), List.length_drop, List.getElem?_take, if_pos (by omega), hK]
    congr 1
    rw [Nat.mod_eq_sub_mod (by omega), Nat.mod_eq_of_lt (by omega)]
    omega
theorem rot_count (W : List (List Int)) (r : Nat) (v : List Int) : (rotW W r).count v = W.count v := by
  have h := congrArg (List.count v) (List.take_append_drop r W)
  rw [List.count_append] at h
  unfold rotW
  rw [List.count_append]
  omega
theorem count_next (h : l[i]? = some x) (v : List Int) : (l.take (i + 1)).count v = (l.take i).count v + if v = x then 1 else 0 := by
  obtain ⟨hi, rfl⟩ := List.getElem?_eq_some_iff.1 h
  rw [List.take_succ_eq_append_getElem hi, List.count_append, List.count_singleton]
  congr 1
  by_cases e : v = l[i]
  · rw [if_pos e, if_pos (by rw [e]; exact beq_self_eq_true _)]
  · rw [if_neg e, if_neg (by simpa using fun h => e h.symm)]
theorem count_room (h : l[i]? = some x) : (l.take i).count x + 1 ≤ l.count x := by
  have h1 := count_next h x
  rw [if_pos rfl] at h1
  have h2 := (List.take_sublist (i + 1) l).count_le x
  omega
end
/-- The bag L is L0 with all of W but the first i, from place r on. -/
structure LeftW (L0 L : List Itm) (W : List (List Int)) (r i : Nat) : Prop where
  cnt : ∀ v, cntB L v + ((rotW W r).take i).count v = cntB L0 v + W.count v
section
variable {L0 L : List Itm} {W : List (List Int)} {r i K : Nat} {x : List Int}
theorem LeftW.start (h : ∀ v, cntB L v = cntB L0 v + W.count v) (r : Nat) : LeftW L0 L W r 0 := ⟨fun v => by rw [List.take_zero, h v]; simp⟩
theorem LeftW.there (h : LeftW L0 L W r i) (hK : W.length = K) (hr : r < K) (hi : i < K) (hx : W[(i + r) % K]? = some x) : 0 < cntB L x := by
  have h1 := h.cnt x
  have h2 := count_room (l := rotW W r) (i := i) (x := x) (by rw [rot_get hK hr hi]; exact hx)
  rw [rot_count] at h2
  omega
theorem LeftW.next (h : LeftW L0 L W r i) (hb : BagW L) (hK : W.length = K) (hr : r < K) (hi : i < K) (hx : W[(i + r) % K]? = some x) : LeftW L0 (dropB L x) W r (i + 1) := ⟨fun v => by
  have h0 := h.there hK hr hi hx
  have h1 := h.cnt v
  have h2 := count_next (l := rotW W r) (i := i) (x := x) (by rw [rot_get hK hr hi]; exact hx) v
  rw [cnt_dropB x v hb]
  by_cases e : v = x
  · rw [if_pos e] at h2
    rw [if_pos e]
    rw [e] at h1 h2 ⊢
    omega
  · rw [if_neg e] at h2
    rw [if_neg e]
    omega⟩
theorem LeftW.all (h : LeftW L0 L W r i) (hb : BagW L) (hb0 : BagW L0) (hr : r ≤ W.length) (hi : W.length ≤ i) : L = L0 := bag_ext hb hb0 fun v => by
  have h1 := h.cnt v
  rw [List.take_of_length_le (by rw [rot_len hr]; exact hi), rot_count] at h1
  omega
theorem adds_next (h : ∀ v, cntB L v = cntB L0 v + W.count v) (hb : BagW L) (x : List Int) : ∀ v, cntB (addB L x) v = cntB L0 v + (W ++ [x]).count v := fun v => by
  have h1 := h v
  rw [cnt_addB x v hb, List.count_append, List.count_singleton]
  by_cases e : v = x
  · rw [if_pos e, if_pos (by rw [e]; exact beq_self_eq_true _)]
    rw [e] at h1 ⊢
    omega
  · rw [if_neg e, if_neg (by simpa using fun h => e h.symm)]
    omega
end
end Go.Proofs.Ytchcpeenpijekaa
