/- Plain laws of a text of words by letters, a blank behind each. -/
import Derived.Test.YtchcpeenpijekaaQ21
namespace Go.Proofs.Ytchcpeenpijekaa
open Go.RowKit
set_option linter.unusedVariables false

structure GoodW (w : List Int) : Prop where
  pos : 0 < w.length
  le : w.length ≤ 4
  ab : ∀ x ∈ w, x = 97 ∨ x = 98
def txtL : List (List Int) → List Int
  | [] => []
  | w :: ws => w ++ 32 :: txtL ws
def spF : Nat → List (List Int) → List (Nat × Nat)
  | _, [] => []
  | b, w :: ws => (b, b + w.length) :: spF (b + w.length + 1) ws
theorem txtL_app : ∀ (xs ys : List (List Int)), txtL (xs ++ ys) = txtL xs ++ txtL ys
  | [], ys => rfl
  | x :: xs, ys => by
    show x ++ 32 :: txtL (xs ++ ys) = (x ++ 32 :: txtL xs) ++ txtL ys
    rw [txtL_app, List.append_assoc]
    rfl
theorem wrd_ab {x : Int} (h : x = 97 ∨ x = 98) : wrdS x = true := by rcases h with rfl | rfl <;> decide
theorem spG_word : ∀ (w : List Int) (f i : Nat) (r : List Int), (∀ x ∈ w, x = 97 ∨ x = 98) → spG i (some f) (w ++ 32 :: r) = (f, i + w.length) :: spG (i + w.length + 1) none r
  | [], f, i, r, _ => rfl
  | x :: w, f, i, r, h => by
    show (if wrdS x = true then spG (i + 1) (some f) (w ++ 32 :: r) else _) = _
    rw [if_pos (wrd_ab (h x List.mem_cons_self)), spG_word w f (i + 1) r fun y hy => h y (List.mem_cons_of_mem _ hy), List.length_cons]
    rw [show i + 1 + w.length = i + (w.length + 1) by omega]
theorem spG_txt : ∀ (ws : List (List Int)) (b : Nat), (∀ w ∈ ws, GoodW w) → spG b none (txtL ws) = spF b ws
  | [], b, _ => rfl
  | w :: ws, b, h => by
    have hw := h w List.mem_cons_self
    cases w with
    | nil => exact absurd hw.pos (by simp)
    | cons x v =>
      show (if wrdS x = true then spG (b + 1) (some b) (v ++ 32 :: txtL ws) else _) = _
      rw [if_pos (wrd_ab (hw.ab x List.mem_cons_self)), spG_word v b (b + 1) _ fun y hy => hw.ab y (List.mem_cons_of_mem _ hy), spG_txt ws _ fun u hu => h u (List.mem_cons_of_mem _ hu)]
      show (b, b + 1 + v.length) :: spF (b + 1 + v.length + 1) ws = (b, b + (v.length + 1)) :: spF (b + (v.length + 1) + 1) ws
      rw [show b + 1 + v.length = b + (v.length + 1) by omega]
theorem spans_txt {ws : List (List Int)} (h : ∀ w ∈ ws, GoodW w) : spansS (txtL ws) = spF 0 ws := spG_txt ws 0 h
theorem spF_len : ∀ (ws : List (List Int)) (b : Nat), (spF b ws).length = ws.length
  | [], _ => rfl
  | w :: ws, b => by rw [spF, List.length_cons, List.length_cons, spF_len]
theorem spF_app : ∀ (xs ys : List (List Int)) (b : Nat), spF b (xs ++ ys) = spF b xs ++ spF (b + (txtL xs).length) ys
  | [], ys, b => rfl
  | x :: xs, ys, b => by
    show (b, b + x.length) :: spF (b + x.length + 1) (xs ++ ys) = (b, b + x.length) :: (spF (b + x.length + 1) xs ++ spF (b + (x ++ 32 :: txtL xs).length) ys)
    rw [spF_app, List.length_append, List.length_cons]
    rw [show b + x.length + 1 + (txtL xs).length = b + (x.length + ((txtL xs).length + 1)) by omega]
/-- Where the words begin. -/
def bgL (ws : List (List Int)) : List Nat := (spF 0 ws).map Prod.fst
theorem bgL_snoc (ws : List (List Int)) (w : List Int) : bgL (ws ++ [w]) = bgL ws ++ [(txtL ws).length] := by
  unfold bgL
  rw [spF_app, List.map_append]
  simp [spF]
theorem bgL_len (ws : List (List Int)) : (bgL ws).length = ws.length := by unfold bgL; rw [List.length_map, spF_len]
theorem txt_len : ∀ {ws : List (List Int)}, (∀ w ∈ ws, GoodW w) → (txtL ws).length ≤ 5 * ws.length
  | [], _ => Nat.le_refl _
  | w :: ws, h => by
    have h1 := txt_len (ws := ws) fun u hu => h u (List.mem_cons_of_mem _ hu)
    have h2 := (h w List.mem_cons_self).le
    rw [txtL, List.length_append, List.length_cons, List.length_cons]
    omega
/-- A word's span, and the word there. -/
theorem spF_get {ws : List (List Int)} {i : Nat} {w : List Int} (h : ws[i]? = some w) : ∃ b, (spF 0 ws)[i]? = some (b, b + w.length) ∧ (bgL ws)[i]? = some b ∧ wdS (txtL ws) (b, b + w.length) = w ∧ b + w.length ≤ (txtL ws).length := by
  obtain ⟨hi, rfl⟩ := List.getElem?_eq_some_iff.1 h
  have e : ws = ws.take i ++ ws[i] :: ws.drop (i + 1) := by rw [← List.drop_eq_getElem_cons hi, List.take_append_drop]
  have hlen : (spF 0 (ws.take i)).length = i := by rw [spF_len, List.length_take]; omega
  have h1 : (spF 0 ws)[i]? = some ((txtL (ws.take i)).length, (txtL (ws.take i)).length + ws[i].length) := by
    conv => lhs; rw [e, spF_app, List.getElem?_append_right (by omega), hlen, Nat.sub_self]
    rw [spF, List.getElem?_cons_zero, Nat.zero_add]
  have h2 : txtL ws = txtL (ws.take i) ++ (ws[i] ++ 32 :: txtL (ws.drop (i + 1))) := by
    conv => lhs; rw [e, txtL_app]
    rfl
  refine ⟨_, h1, ?_, ?_, ?_⟩
  · unfold bgL
    rw [List.getElem?_map, h1]
    rfl
  · unfold wdS
    rw [h2, List.drop_left, Nat.add_sub_cancel_left, List.take_left]
  · rw [h2, List.length_append, List.length_append]
    omega
end Go.Proofs.Ytchcpeenpijekaa
