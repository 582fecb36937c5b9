/- Pieces, joined: TriP. -/
import Derived.Test.YtchcpeenpijekaaQ02

/- Plain laws of bags: words in their order, each so many times; what begins with a text; how many beginnings there are. No program in sight. -/
namespace Go.Proofs.Ytchcpeenpijekaa
open Go.RowKit
set_option linter.unusedVariables false

/-- Ascending rows of the same members are the same. -/
theorem asc_ext {α : Type} {R : α → α → Prop} (irr : ∀ a, ¬ R a a) (asym : ∀ a b, R a b → ¬ R b a) : ∀ {l l' : List α}, l.Pairwise R → l'.Pairwise R → (∀ x, x ∈ l ↔ x ∈ l') → l = l'
  | [], [], _, _, _ => rfl
  | [], y :: _, _, _, h => absurd ((h y).2 List.mem_cons_self) (by simp)
  | x :: _, [], _, _, h => absurd ((h x).1 List.mem_cons_self) (by simp)
  | x :: l, y :: l', h1, h2, h => by
    rw [List.pairwise_cons] at h1 h2
    have e : x = y := by
      have hx := (h x).1 List.mem_cons_self
      have hy := (h y).2 List.mem_cons_self
      rw [List.mem_cons] at hx hy
      rcases hx with e | hx
      · exact e
      · rcases hy with e | hy
        · exact e.symm
        · exact absurd (h2.1 x hx) (asym _ _ (h1.1 y hy))
    subst e
    rw [asc_ext irr asym h1.2 h2.2 fun z => by
      have hz := h z
      rw [List.mem_cons, List.mem_cons] at hz
      constructor
      · intro hm
        rcases hz.1 (.inr hm) with e | e
        · subst e; exact absurd (h1.1 z hm) (irr z)
        · exact e
      · intro hm
        rcases hz.2 (.inr hm) with e | e
        · subst e; exact absurd (h2.1 z hm) (irr z)
        · exact e]
theorem nodup_sub {α : Type} [DecidableEq α] : ∀ {l k : List α}, l.Nodup → (∀ x, x ∈ l → x ∈ k) → l.length ≤ k.length
  | [], _, _, _ => Nat.zero_le _
  | x :: l, k, h, hk => by
    rw [List.nodup_cons] at h
    have hx := hk x List.mem_cons_self
    have := nodup_sub (k := k.erase x) h.2 fun y hy => (List.mem_erase_of_ne (fun e => h.1 (by rw [← e]; exact hy))).2 (hk y (List.mem_cons_of_mem _ hy))
    have h3 := List.length_erase_of_mem hx
    have h4 := List.length_pos_of_mem hx
    simp only [List.length_cons]
    omega

theorem less_asym {a b : List Int} (h : lessS a b = true) : lessS b a = false := by
  rcases less_three a b with ⟨_, h2, _⟩ | ⟨h1, _, _⟩ | ⟨h1, _, _⟩
  · exact h2
  · rw [h1] at h; cases h
  · rw [h1] at h; cases h
theorem less_ne {a b : List Int} (h : lessS a b = true) : a ≠ b := fun e => by
  rw [e, less_irr] at h; cases h
theorem less_not {a b : List Int} (h : lessS a b = false) : a = b ∨ lessS b a = true := by
  rcases less_three a b with ⟨h1, _, _⟩ | ⟨_, h2, _⟩ | ⟨_, _, h3⟩
  · rw [h1] at h; cases h
  · exact .inr h2
  · exact .inl h3
theorem less_pre : ∀ (p : List Int) (r : Int) (t : List Int), lessS p (p ++ r :: t) = true
  | [], r, t => rfl
  | x :: p, r, t => by rw [List.cons_append, lessS, if_pos rfl]; exact less_pre p r t
theorem less_two : ∀ (p : List Int) {r s : Int} (t u : List Int), r < s → lessS (p ++ r :: t) (p ++ s :: u) = true
  | [], r, s, t, u, h => by rw [List.nil_append, List.nil_append, lessS, if_neg (by omega)]; exact decide_eq_true h
  | x :: p, r, s, t, u, h => by rw [List.cons_append, List.cons_append, lessS, if_pos rfl]; exact less_two p t u h

/-- A word, how often it is there. -/
abbrev Itm : Type := List Int × Nat
/-- A bag: words ascending, each at least once. -/
structure BagW (L : List Itm) : Prop where
  asc : L.Pairwise fun x y => lessS x.1 y.1 = true
  pos : ∀ x ∈ L, 0 < x.2
theorem BagW.nil : BagW [] := ⟨List.Pairwise.nil, fun x h => by cases h⟩
theorem BagW.tail {x : Itm} {L : List Itm} (h : BagW (x :: L)) : BagW L := ⟨(List.pairwise_cons.1 h.asc).2, fun y hy => h.pos y (List.mem_cons_of_mem _ hy)⟩
theorem BagW.head {x : Itm} {L : List Itm} (h : BagW (x :: L)) : ∀ y ∈ L, lessS x.1 y.1 = true := (List.pairwise_cons.1 h.asc).1
def cntB : List Itm → List Int → Nat
  | [], _ => 0
  | x :: L, w => if x.1 = w then x.2 else cntB L w
theorem cntB_out : ∀ {L : List Itm} {w : List Int}, (∀ x ∈ L, x.1 ≠ w) → cntB L w = 0
  | [], w, h => rfl
  | x :: L, w, h => by rw [cntB, if_neg (h x List.mem_cons_self)]; exact cntB_out fun y hy => h y (List.mem_cons_of_mem _ hy)
theorem cntB_mem : ∀ {L : List Itm}, BagW L → ∀ {x : Itm}, x ∈ L → cntB L x.1 = x.2
  | [], _, x, hx => by cases hx
  | y :: L, h, x, hx => by
    rw [cntB]
    rcases List.mem_cons.1 hx with rfl | hx
    · rw [if_pos rfl]
    · rw [if_neg (less_ne (h.head x hx))]
      exact cntB_mem h.tail hx
theorem cntB_pos : ∀ {L : List Itm} {w : List Int}, 0 < cntB L w → (w, cntB L w) ∈ L
  | [], w, h => by simp [cntB] at h
  | x :: L, w, h => by
    rw [cntB] at h ⊢
    by_cases e : x.1 = w
    · rw [if_pos e]
      rw [← e]
      exact List.mem_cons_self
    · rw [if_neg e] at h ⊢
      exact List.mem_cons_of_mem _ (cntB_pos h)
theorem mem_cntB {L : List Itm} (h : BagW L) (x : Itm) : x ∈ L ↔ 0 < x.2 ∧ cntB L x.1 = x.2 := by
  constructor
  · intro hx
    exact ⟨h.pos x hx, cntB_mem h hx⟩
  · rintro ⟨h1, h2⟩
    have := cntB_pos (L := L) (w := x.1) (by omega)
    rw [h2] at this
    exact this
theorem bagAsc_ext {L L' : List Itm} (h : L.Pairwise fun x y => lessS x.1 y.1 = true) (h' : L'.Pairwise fun x y => lessS x.1 y.1 = true) (e : ∀ x, x ∈ L ↔ x ∈ L') : L = L' :=
  asc_ext (R := fun x y : Itm => lessS x.1 y.1 = true) (fun a h => by rw [less_irr] at h; cases h) (fun a b h k => by rw [less_asym h] at k; cases k) h h' e
theorem bag_ext {L L' : List Itm} (h : BagW L) (h' : BagW L') (e : ∀ w, cntB L w = cntB L' w) : L = L' :=
  bagAsc_ext h.asc h'.asc fun x => by rw [mem_cntB h, mem_cntB h', e]

/-- Where a word stands, or would. -/
def posB : List Itm → List Int → Nat
  | [], _ => 0
  | x :: L, w => if lessS x.1 w then posB L w + 1 else 0
theorem posB_le : ∀ (L : List Itm) (w : List Int), posB L w ≤ L.length
  | [], w => Nat.le_refl _
  | x :: L, w => by
    rw [posB]
    have := posB_le L w
    split
    · simp; omega
    · omega
theorem posB_drop {L : List Itm} {w : List Int} {k : Nat} {x : Itm} (hx : L[k]? = some x) (hl : lessS x.1 w = true) : posB (L.drop k) w = posB (L.drop (k + 1)) w + 1 := by
  obtain ⟨hk, rfl⟩ := List.getElem?_eq_some_iff.1 hx
  rw [List.drop_eq_getElem_cons hk, posB, if_pos hl]
theorem posB_stop {L : List Itm} {w : List Int} {k : Nat} {x : Itm} (hx : L[k]? = some x) (hl : lessS x.1 w = false) : posB (L.drop k) w = 0 := by
  obtain ⟨hk, rfl⟩ := List.getElem?_eq_some_iff.1 hx
  rw [List.drop_eq_getElem_cons hk, posB, if_neg (by rw [hl]; simp)]
/-- It is there just if it stands there. -/
theorem posB_at : ∀ {L : List Itm} {w : List Int} {x : Itm}, BagW L → L[posB L w]? = some x → (x.1 = w ↔ 0 < cntB L w) ∧ (x.1 = w → cntB L w = x.2)
  | [], w, x, _, hx => by simp at hx
  | y :: L, w, x, h, hx => by
    rw [posB] at hx
    rw [cntB]
    by_cases hl : lessS y.1 w = true
    · rw [if_pos hl, List.getElem?_cons_succ] at hx
      rw [if_neg (less_ne hl)]
      exact posB_at h.tail hx
    · rw [if_neg hl, List.getElem?_cons_zero] at hx
      obtain rfl : y = x := by injection hx
      by_cases e : y.1 = w
      · rw [if_pos e]
        exact ⟨⟨fun _ => h.pos y List.mem_cons_self, fun _ => e⟩, fun _ => rfl⟩
      · rw [if_neg e]
        have hw : lessS w y.1 = true := by
          rcases less_not (by simpa using hl : lessS y.1 w = false) with h1 | h1
          · exact absurd h1 e
          · exact h1
        have h0 : cntB L w = 0 := cntB_out fun z hz e2 => by
          have := less_trans hw (h.head z hz)
          rw [e2, less_irr] at this
          cases this
        rw [h0]
        exact ⟨⟨fun h => absurd h e, fun h => absurd h (by omega)⟩, fun h => absurd h e⟩
theorem posB_end : ∀ {L : List Itm} {w : List Int}, posB L w = L.length → cntB L w = 0
  | [], w, _ => rfl
  | x :: L, w, h => by
    rw [posB] at h
    by_cases hl : lessS x.1 w = true
    · rw [if_pos hl] at h
      rw [cntB, if_neg (less_ne hl)]
      exact posB_end (by simpa using h)
    · rw [if_neg hl] at h
      simp at h

def addB : List Itm → List Int → List Itm
  | [], w => [(w, 1)]
  | x :: L, w => if lessS x.1 w then x :: addB L w else if x.1 = w then (w, x.2 + 1) :: L else (w, 1) :: x :: L
def dropB : List Itm → List Int → List Itm
  | [], _ => []
  | x :: L, w => if lessS x.1 w then x :: dropB L w else if x.1 = w then (if x.2 = 1 then L else (w, x.2 - 1) :: L) else x :: L
def allB (L : List Itm) : Nat := (L.map (·.2)).sum
theorem less_of_not {a b : List Int} (h : ¬ lessS a b = true) (e : a ≠ b) : lessS b a = true := by
  rcases less_not (by simpa using h : lessS a b = false) with h1 | h1
  · exact absurd h1 e
  · exact h1
theorem BagW.low {x : Itm} {L : List Itm} {w : List Int} (h : BagW (x :: L)) (hw : lessS w x.1 = true) : ∀ y ∈ x :: L, lessS w y.1 = true := fun y hy => by
  rcases List.mem_cons.1 hy with rfl | hy
  · exact hw
  · exact less_trans hw (h.head y hy)
theorem cntB_low {L : List Itm} {w : List Int} (h : ∀ y ∈ L, lessS w y.1 = true) : cntB L w = 0 := cntB_out fun y hy e => by
  have := h y hy
  rw [e, less_irr] at this
  cases this
theorem mem_addB : ∀ {L : List Itm} {w : List Int} {x : Itm}, x ∈ addB L w → x.1 = w ∨ x ∈ L
  | [], w, x, h => by rw [addB, List.mem_singleton] at h; exact .inl (by rw [h])
  | y :: L, w, x, h => by
    rw [addB] at h
    split at h
    · rcases List.mem_cons.1 h with h | h
      · exact .inr (by rw [h]; exact List.mem_cons_self)
      · rcases mem_addB h with h | h
        · exact .inl h
        · exact .inr (List.mem_cons_of_mem _ h)
    · split at h
      · rcases List.mem_cons.1 h with h | h
        · exact .inl (by rw [h])
        · exact .inr (List.mem_cons_of_mem _ h)
      · rcases List.mem_cons.1 h with h | h
        · exact .inl (by rw [h])
        · exact .inr h
theorem addB_bag : ∀ {L : List Itm} (w : List Int), BagW L → BagW (addB L w)
  | [], w, h => ⟨List.pairwise_singleton _ _, fun x hx => by rw [addB, List.mem_singleton] at hx; rw [hx]; exact Nat.one_pos⟩
  | y :: L, w, h => by
    rw [addB]
    by_cases hl : lessS y.1 w = true
    · rw [if_pos hl]
      have ih := addB_bag w h.tail
      refine ⟨List.pairwise_cons.2 ⟨fun z hz => ?_, ih.asc⟩, fun z hz => ?_⟩
      · rcases mem_addB hz with e | hz
        · rw [e]; exact hl
        · exact h.head z hz
      · rcases List.mem_cons.1 hz with rfl | hz
        · exact h.pos _ List.mem_cons_self
        · exact ih.pos z hz
    · rw [if_neg hl]
      by_cases e : y.1 = w
      · rw [if_pos e]
        refine ⟨List.pairwise_cons.2 ⟨fun z hz => by have := h.head z hz; rw [e] at this; exact this, h.tail.asc⟩, fun z hz => ?_⟩
        rcases List.mem_cons.1 hz with rfl | hz
        · exact Nat.succ_pos _
        · exact h.tail.pos z hz
      · rw [if_neg e]
        refine ⟨List.pairwise_cons.2 ⟨h.low (less_of_not hl e), h.asc⟩, fun z hz => ?_⟩
        rcases List.mem_cons.1 hz with rfl | hz
        · exact Nat.one_pos
        · exact h.pos z hz
theorem cnt_addB : ∀ {L : List Itm} (w x : List Int), BagW L → cntB (addB L w) x = if x = w then cntB L w + 1 else cntB L x
  | [], w, x, h => by
    show (if w = x then 1 else 0) = if x = w then 0 + 1 else 0
    by_cases e : x = w
    · rw [if_pos e.symm, if_pos e]
    · rw [if_neg fun k => e k.symm, if_neg e]
  | y :: L, w, x, h => by
    rw [addB]
    by_cases hl : lessS y.1 w = true
    · rw [if_pos hl, cntB, cnt_addB w x h.tail, cntB, cntB, if_neg (less_ne hl)]
      by_cases e : x = w
      · rw [if_pos e, if_pos e, if_neg (by rw [e]; exact less_ne hl)]
      · rw [if_neg e, if_neg e]
    · rw [if_neg hl]
      by_cases e : y.1 = w
      · rw [if_pos e, cntB, cntB, cntB, if_pos e]
        by_cases e2 : x = w
        · rw [if_pos e2.symm, if_pos e2]
        · rw [if_neg fun k => e2 k.symm, if_neg e2, if_neg (by rw [e]; exact fun k => e2 k.symm)]
      · rw [if_neg e, cntB, cntB_low (h.low (less_of_not hl e))]
        by_cases e2 : x = w
        · rw [if_pos e2.symm, if_pos e2]
        · rw [if_neg fun k => e2 k.symm, if_neg e2]
theorem addB_no : ∀ {L : List Itm} {w : List Int}, cntB L w = 0 → BagW L → addB L w = L.take (posB L w) ++ (w, 1) :: L.drop (posB L w)
  | [], w, _, _ => rfl
  | y :: L, w, h, hb => by
    rw [addB, posB]
    by_cases hl : lessS y.1 w = true
    · rw [if_pos hl, if_pos hl, List.take_succ_cons, List.drop_succ_cons, List.cons_append, addB_no (by rw [cntB, if_neg (less_ne hl)] at h; exact h) hb.tail]
    · rw [if_neg hl, if_neg hl, if_neg (fun e => by rw [cntB, if_pos e] at h; have := hb.pos y List.mem_cons_self; omega)]
      rfl
theorem addB_yes : ∀ {L : List Itm} {w : List Int}, 0 < cntB L w → BagW L → addB L w = L.set (posB L w) (w, cntB L w + 1)
  | [], w, h, _ => by simp [cntB] at h
  | y :: L, w, h, hb => by
    rw [addB, posB, cntB]
    rw [cntB] at h
    by_cases hl : lessS y.1 w = true
    · rw [if_neg (less_ne hl)] at h
      rw [if_pos hl, if_pos hl, if_neg (less_ne hl), List.set_cons_succ, addB_yes h hb.tail]
    · rw [if_neg hl, if_neg hl]
      by_cases e : y.1 = w
      · rw [if_pos e, if_pos e]
        rfl
      · rw [if_neg e] at h
        have := cntB_low (w := w) (L := y :: L) (hb.low (less_of_not hl e))
        rw [cntB, if_neg e] at this
        omega
theorem mem_dropB : ∀ {L : List Itm} {w : List Int} {x : Itm}, x ∈ dropB L w → x.1 = w ∧ 0 < cntB L w ∨ x ∈ L
  | [], w, x, h => .inr h
  | y :: L, w, x, h => by
    rw [dropB] at h
    rw [cntB]
    split at h
    · rename_i hl
      rw [if_neg (less_ne hl)]
      rcases List.mem_cons.1 h with h | h
      · exact .inr (by rw [h]; exact List.mem_cons_self)
      · rcases mem_dropB h with h | h
        · exact .inl h
        · exact .inr (List.mem_cons_of_mem _ h)
    · split at h
      · rename_i e
        split at h
        · exact .inr (List.mem_cons_of_mem _ h)
        · rename_i e1
          rcases List.mem_cons.1 h with h | h
          · rw [if_pos e]
            by_cases hy : y.2 = 0
            · right
              rw [h, hy, ← e]
              have : y = (y.1, 0) := by rw [← hy]
              rw [this]
              exact List.mem_cons_self
            · exact .inl ⟨by rw [h], by omega⟩
          · exact .inr (List.mem_cons_of_mem _ h)
      · exact .inr h
theorem dropB_sub : ∀ {L : List Itm} {w : List Int} {x : Itm}, x ∈ dropB L w → ∃ y ∈ L, y.1 = x.1
  | [], w, x, h => by cases h
  | y :: L, w, x, h => by
    rw [dropB] at h
    split at h
    · rcases List.mem_cons.1 h with h | h
      · exact ⟨y, List.mem_cons_self, by rw [h]⟩
      · obtain ⟨z, hz, e⟩ := dropB_sub h
        exact ⟨z, List.mem_cons_of_mem _ hz, e⟩
    · split at h
      · rename_i e
        split at h
        · exact ⟨x, List.mem_cons_of_mem _ h, rfl⟩
        · rcases List.mem_cons.1 h with h | h
          · exact ⟨y, List.mem_cons_self, by rw [h, e]⟩
          · exact ⟨x, List.mem_cons_of_mem _ h, rfl⟩
      · exact ⟨x, h, rfl⟩
theorem dropB_bag : ∀ {L : List Itm} (w : List Int), BagW L → BagW (dropB L w)
  | [], w, h => h
  | y :: L, w, h => by
    rw [dropB]
    by_cases hl : lessS y.1 w = true
    · rw [if_pos hl]
      have ih := dropB_bag w h.tail
      refine ⟨List.pairwise_cons.2 ⟨fun z hz => ?_, ih.asc⟩, fun z hz => ?_⟩
      · obtain ⟨u, hu, e⟩ := dropB_sub hz
        rw [← e]
        exact h.head u hu
      · rcases List.mem_cons.1 hz with rfl | hz
        · exact h.pos _ List.mem_cons_self
        · exact ih.pos z hz
    · rw [if_neg hl]
      by_cases e : y.1 = w
      · rw [if_pos e]
        by_cases e1 : y.2 = 1
        · rw [if_pos e1]; exact h.tail
        · rw [if_neg e1]
          refine ⟨List.pairwise_cons.2 ⟨fun z hz => by have := h.head z hz; rw [e] at this; exact this, h.tail.asc⟩, fun z hz => ?_⟩
          rcases List.mem_cons.1 hz with rfl | hz
          · have := h.pos y List.mem_cons_self
            show 0 < y.2 - 1
            omega
          · exact h.tail.pos z hz
      · rw [if_neg e]
        exact h
theorem cnt_dropB : ∀ {L : List Itm} (w x : List Int), BagW L → cntB (dropB L w) x = if x = w then cntB L w - 1 else cntB L x
  | [], w, x, h => by rw [dropB, cntB]; split <;> rfl
  | y :: L, w, x, h => by
    rw [dropB]
    by_cases hl : lessS y.1 w = true
    · rw [if_pos hl, cntB, cnt_dropB w x h.tail, cntB, cntB, if_neg (less_ne hl)]
      by_cases e : x = w
      · rw [if_pos e, if_pos e, if_neg (by rw [e]; exact less_ne hl)]
      · rw [if_neg e, if_neg e]
    · rw [if_neg hl]
      by_cases e : y.1 = w
      · rw [if_pos e]
        have h0 : cntB L w = 0 := cntB_low fun z hz => by have := h.head z hz; rw [e] at this; exact this
        by_cases e1 : y.2 = 1
        · rw [if_pos e1, cntB, cntB, if_pos e]
          by_cases e2 : x = w
          · rw [if_pos e2, e2, h0, e1]
          · rw [if_neg e2, if_neg (by rw [e]; exact fun k => e2 k.symm)]
        · rw [if_neg e1, cntB, cntB, cntB, if_pos e]
          by_cases e2 : x = w
          · rw [if_pos e2.symm, if_pos e2]
          · rw [if_neg fun k => e2 k.symm, if_neg e2, if_neg (by rw [e]; exact fun k => e2 k.symm)]
      · rw [if_neg e]
        by_cases e2 : x = w
        · rw [if_pos e2, e2, cntB_low (h.low (less_of_not hl e))]
        · rw [if_neg e2]
theorem dropB_no : ∀ {L : List Itm} {w : List Int}, cntB L w = 0 → BagW L → dropB L w = L := fun {L w} h hb =>
  bag_ext (dropB_bag w hb) hb fun x => by
    rw [cnt_dropB w x hb]
    by_cases e : x = w
    · rw [if_pos e, e, h]
    · rw [if_neg e]
theorem dropB_one : ∀ {L : List Itm} {w : List Int}, cntB L w = 1 → BagW L → dropB L w = L.take (posB L w) ++ L.drop (posB L w + 1)
  | [], w, h, _ => by simp [cntB] at h
  | y :: L, w, h, hb => by
    rw [dropB, posB]
    rw [cntB] at h
    by_cases hl : lessS y.1 w = true
    · rw [if_neg (less_ne hl)] at h
      rw [if_pos hl, if_pos hl, List.take_succ_cons, List.drop_succ_cons, List.cons_append, dropB_one h hb.tail]
    · rw [if_neg hl, if_neg hl]
      by_cases e : y.1 = w
      · rw [if_pos e] at h
        rw [if_pos e, if_pos h]
        rfl
      · rw [if_neg e] at h
        have := cntB_low (w := w) (L := y :: L) (hb.low (less_of_not hl e))
        rw [cntB, if_neg e] at this
        omega
theorem dropB_more : ∀ {L : List Itm} {w : List Int}, 1 < cntB L w → BagW L → dropB L w = L.set (posB L w) (w, cntB L w - 1)
  | [], w, h, _ => by simp [cntB] at h
  | y :: L, w, h, hb => by
    rw [dropB, posB, cntB]
    rw [cntB] at h
    by_cases hl : lessS y.1 w = true
    · rw [if_neg (less_ne hl)] at h
      rw [if_pos hl, if_pos hl, if_neg (less_ne hl), List.set_cons_succ, dropB_more h hb.tail]
    · rw [if_neg hl, if_neg hl]
      by_cases e : y.1 = w
      · rw [if_pos e] at h
        rw [if_pos e, if_pos e, if_neg (by omega)]
        rfl
      · rw [if_neg e] at h
        have := cntB_low (w := w) (L := y :: L) (hb.low (less_of_not hl e))
        rw [cntB, if_neg e] at this
        omega
theorem all_addB : ∀ (L : List Itm) (w : List Int), allB (addB L w) = allB L + 1
  | [], w => rfl
  | y :: L, w => by
    rw [addB]
    have ih := all_addB L w
    unfold allB at ih ⊢
    split
    · simp only [List.map_cons, List.sum_cons]; omega
    · split
      · simp only [List.map_cons, List.sum_cons]; omega
      · simp only [List.map_cons, List.sum_cons]; omega
theorem all_dropB : ∀ {L : List Itm} {w : List Int}, 0 < cntB L w → BagW L → allB (dropB L w) + 1 = allB L
  | [], w, h, _ => by simp [cntB] at h
  | y :: L, w, h, hb => by
    have hy := hb.pos y List.mem_cons_self
    rw [dropB]
    rw [cntB] at h
    by_cases hl : lessS y.1 w = true
    · rw [if_neg (less_ne hl)] at h
      have ih := all_dropB h hb.tail
      rw [if_pos hl]
      unfold allB at ih ⊢
      simp only [List.map_cons, List.sum_cons]; omega
    · rw [if_neg hl]
      by_cases e : y.1 = w
      · rw [if_pos e]
        unfold allB
        split
        · simp only [List.map_cons, List.sum_cons]; omega
        · simp only [List.map_cons, List.sum_cons]; omega
      · rw [if_neg e] at h
        have := cntB_low (w := w) (L := y :: L) (hb.low (less_of_not hl e))
        rw [cntB, if_neg e] at this
        omega
theorem len_addB : ∀ {L : List Itm} {w : List Int}, BagW L → (addB L w).length = if 0 < cntB L w then L.length else L.length + 1 := fun {L w} hb => by
  by_cases h : 0 < cntB L w
  · rw [if_pos h, addB_yes h hb, List.length_set]
  · have := posB_le L w
    rw [if_neg h, addB_no (by omega) hb, List.length_append, List.length_cons, List.length_take, List.length_drop]
    omega
theorem posB_lt {L : List Itm} {w : List Int} (h : 0 < cntB L w) : posB L w < L.length := by
  have := posB_le L w
  by_cases e : posB L w = L.length
  · have := posB_end e; omega
  · omega
theorem len_dropB : ∀ {L : List Itm} {w : List Int}, 0 < cntB L w → BagW L → (dropB L w).length = if cntB L w = 1 then L.length - 1 else L.length := fun {L w} h hb => by
  by_cases h1 : cntB L w = 1
  · have := posB_lt h
    rw [if_pos h1, dropB_one h1 hb, List.length_append, List.length_take, List.length_drop]
    omega
  · rw [if_neg h1, dropB_more (by omega) hb, List.length_set]
theorem cnt_le_all : ∀ (L : List Itm) (w : List Int), cntB L w ≤ allB L
  | [], w => Nat.zero_le _
  | y :: L, w => by
    have := cnt_le_all L w
    rw [cntB]
    unfold allB at this ⊢
    simp only [List.map_cons, List.sum_cons]
    split <;> omega
theorem len_le_all : ∀ {L : List Itm}, BagW L → L.length ≤ allB L
  | [], _ => Nat.zero_le _
  | y :: L, h => by
    have := len_le_all h.tail
    have := h.pos y List.mem_cons_self
    unfold allB at *
    simp only [List.map_cons, List.sum_cons, List.length_cons]
    omega

/-- Those that begin with a text. -/
def begS (s p : List Int) : Bool := decide (p <+: s)
def withB (L : List Itm) (p : List Int) : List Itm := L.filter fun x => begS x.1 p
theorem begS_iff {s p : List Int} : begS s p = true ↔ p <+: s := decide_eq_true_iff
theorem mem_withB {L : List Itm} {p : List Int} {x : Itm} : x ∈ withB L p ↔ x ∈ L ∧ p <+: x.1 := by
  unfold withB
  rw [List.mem_filter, begS_iff]
theorem withB_nil (L : List Itm) : withB L [] = L := List.filter_eq_self.2 fun x _ => begS_iff.2 (List.nil_prefix)
theorem BagW.with_ {L : List Itm} (h : BagW L) (p : List Int) : BagW (withB L p) := ⟨h.asc.filter _, fun x hx => h.pos x (mem_withB.1 hx).1⟩

/-- What lies between two texts that begin with p begins so. -/
theorem pre_mid : ∀ {p a b c : List Int}, p <+: a → p <+: c → (a = b ∨ lessS a b = true) → (b = c ∨ lessS b c = true) → p <+: b
  | [], _, _, _, _, _, _, _ => List.nil_prefix
  | r :: p, [], _, _, h, _, _, _ => by simp at h
  | r :: p, _ :: _, _, [], _, h, _, _ => by simp at h
  | r :: p, x :: a, [], z :: c, h1, h2, h3, h4 => by
    rcases h3 with h | h
    · cases h
    · cases h
  | r :: p, x :: a, y :: b, z :: c, h1, h2, h3, h4 => by
    rw [List.cons_prefix_cons] at h1 h2 ⊢
    obtain ⟨rfl, h1⟩ := h1
    obtain ⟨rfl, h2⟩ := h2
    rw [lessS, List.cons.injEq] at h3 h4
    have hy : r = y := by
      by_cases e : r = y
      · exact e
      · rw [if_neg e] at h3
        rw [if_neg (fun k => e k.symm)] at h4
        rcases h3 with h3 | h3
        · exact h3.1
        · rcases h4 with h4 | h4
          · exact h4.1.symm
          · have := of_decide_eq_true h3
            have := of_decide_eq_true h4
            omega
    subst hy
    rw [if_pos rfl] at h3 h4
    exact ⟨rfl, pre_mid h1 h2 (h3.imp (·.2) id) (h4.imp (·.2) id)⟩

/-- Those that begin with p: p itself, and behind it those that go on with each sign. -/
theorem withB_parts {L : List Itm} (h : BagW L) (p : List Int) {rs : List Int} (hr : rs.Pairwise (· < ·)) (hm : ∀ r, r ∈ rs ↔ ∃ x ∈ L, p ++ [r] <+: x.1) :
    withB L p = (if 0 < cntB L p then [(p, cntB L p)] else []) ++ rs.flatMap fun r => withB L (p ++ [r]) := by
  refine bagAsc_ext (h.with_ p).asc (List.pairwise_append.2 ⟨?_, ?_, fun x hx y hy => ?_⟩) fun x => ?_
  · split
    · exact List.pairwise_singleton _ _
    · exact List.Pairwise.nil
  · clear hm
    induction rs with
    | nil => exact List.Pairwise.nil
    | cons r rs ih =>
      rw [List.pairwise_cons] at hr
      rw [List.flatMap_cons]
      refine List.pairwise_append.2 ⟨(h.with_ _).asc, ih hr.2, fun x hx y hy => ?_⟩
      obtain ⟨s, hs, hy⟩ := List.mem_flatMap.1 hy
      obtain ⟨t, ht⟩ := (mem_withB.1 hx).2
      obtain ⟨u, hu⟩ := (mem_withB.1 hy).2
      rw [← ht, ← hu, List.append_assoc, List.append_assoc]
      exact less_two p t u (hr.1 s hs)
  · split at hx
    · rw [List.mem_singleton] at hx
      obtain ⟨s, hs, hy⟩ := List.mem_flatMap.1 hy
      obtain ⟨u, hu⟩ := (mem_withB.1 hy).2
      rw [hx, ← hu, List.append_assoc]
      exact less_pre p s u
    · cases hx
  · rw [mem_withB, List.mem_append, List.mem_flatMap]
    constructor
    · rintro ⟨hx, t, ht⟩
      cases t with
      | nil =>
        left
        rw [List.append_nil] at ht
        have h1 := cntB_mem h hx
        have h2 := h.pos x hx
        rw [← ht] at h1
        rw [if_pos (by omega), List.mem_singleton, h1, ht]
      | cons r t =>
        right
        have h3 : p ++ [r] <+: x.1 := ⟨t, by rw [← ht, List.append_assoc]; rfl⟩
        exact ⟨r, (hm r).2 ⟨x, hx, h3⟩, mem_withB.2 ⟨hx, h3⟩⟩
    · rintro (hx | ⟨r, hr, hx⟩)
      · split at hx
        · rename_i hc
          rw [List.mem_singleton] at hx
          rw [hx]
          exact ⟨cntB_pos hc, List.prefix_refl _⟩
        · cases hx
      · obtain ⟨h1, h2⟩ := mem_withB.1 hx
        exact ⟨h1, (List.prefix_append p [r]).trans h2⟩

/-- How long two texts are alike. -/
def lcp : List Int → List Int → Nat
  | a :: x, b :: y => if a = b then lcp x y + 1 else 0
  | _, _ => 0
theorem lcp_le : ∀ (v x : List Int), lcp v x ≤ v.length ∧ lcp v x ≤ x.length
  | [], x => by simp [lcp]
  | _ :: _, [] => by simp [lcp]
  | a :: v, b :: x => by
    rw [lcp]
    have := lcp_le v x
    split
    · simp only [List.length_cons]; omega
    · exact ⟨Nat.zero_le _, Nat.zero_le _⟩
theorem take_pre : ∀ {v x : List Int} {m : Nat}, m ≤ x.length → (x.take m <+: v ↔ m ≤ lcp v x)
  | v, x, 0, _ => by simp
  | [], [], m + 1, h => by simp at h
  | _ :: _, [], m + 1, h => by simp at h
  | [], b :: x, m + 1, h => by simp [lcp]
  | a :: v, b :: x, m + 1, h => by
    rw [List.take_succ_cons, List.cons_prefix_cons, lcp]
    by_cases e : a = b
    · rw [if_pos e, take_pre (by simpa using h)]
      constructor
      · rintro ⟨_, h⟩; omega
      · intro h; exact ⟨e.symm, by omega⟩
    · rw [if_neg e]
      constructor
      · rintro ⟨h, _⟩; exact absurd h.symm e
      · intro h; omega
def nodesGo : List Int → List Itm → Nat
  | _, [] => 0
  | v, x :: L => (x.1.length - lcp v x.1) + nodesGo x.1 L
/-- How many beginnings there are. -/
def nodesB (L : List Itm) : Nat := 1 + nodesGo [] L
def newP (v x : List Int) : List (List Int) := (List.range (x.length - lcp v x)).map fun j => x.take (lcp v x + 1 + j)
def pathsGo : List Int → List Itm → List (List Int)
  | _, [] => []
  | v, x :: L => newP v x.1 ++ pathsGo x.1 L
theorem mem_newP {v x p : List Int} : p ∈ newP v x ↔ p <+: x ∧ ¬ p <+: v := by
  unfold newP
  rw [List.mem_map]
  constructor
  · rintro ⟨j, hj, rfl⟩
    rw [List.mem_range] at hj
    refine ⟨List.take_prefix _ _, fun h => ?_⟩
    rw [take_pre (by omega)] at h
    omega
  · rintro ⟨h1, h2⟩
    have h3 := List.prefix_iff_eq_take.1 h1
    have h4 := h1.length_le
    rw [h3, take_pre h4] at h2
    refine ⟨p.length - (lcp v x + 1), List.mem_range.2 (by omega), ?_⟩
    rw [show lcp v x + 1 + (p.length - (lcp v x + 1)) = p.length by omega]
    exact h3.symm
theorem newP_nodup (v x : List Int) : (newP v x).Nodup := by
  have := lcp_le v x
  refine List.pairwise_map.2 ?_
  refine (List.pairwise_lt_range (n := x.length - lcp v x)).imp_of_mem ?_
  intro a b ha hb hab e
  rw [List.mem_range] at ha hb
  have := congrArg List.length e
  rw [List.length_take, List.length_take] at this
  omega
theorem paths_len : ∀ (v : List Int) (L : List Itm), (pathsGo v L).length = nodesGo v L
  | _, [] => rfl
  | v, x :: L => by rw [pathsGo, nodesGo, List.length_append, paths_len x.1 L, newP, List.length_map, List.length_range]
theorem mem_paths : ∀ {v : List Int} {L : List Itm}, BagW L → (∀ x ∈ L, v = x.1 ∨ lessS v x.1 = true) → ∀ p, p ∈ pathsGo v L ↔ (∃ x ∈ L, p <+: x.1) ∧ ¬ p <+: v
  | v, [], _, _, p => by simp [pathsGo]
  | v, x :: L, hb, hv, p => by
    rw [pathsGo, List.mem_append, mem_newP, mem_paths hb.tail (fun y hy => .inr (hb.head y hy))]
    constructor
    · rintro (⟨h1, h2⟩ | ⟨⟨y, hy, h1⟩, h2⟩)
      · exact ⟨⟨x, List.mem_cons_self, h1⟩, h2⟩
      · exact ⟨⟨y, List.mem_cons_of_mem _ hy, h1⟩, fun h3 => h2 (pre_mid h3 h1 (hv x List.mem_cons_self) (.inr (hb.head y hy)))⟩
    · rintro ⟨⟨y, hy, h1⟩, h2⟩
      by_cases h3 : p <+: x.1
      · exact .inl ⟨h3, h2⟩
      · rcases List.mem_cons.1 hy with rfl | hy
        · exact absurd h1 h3
        · exact .inr ⟨⟨y, hy, h1⟩, h3⟩
theorem paths_nodup : ∀ {v : List Int} {L : List Itm}, BagW L → (pathsGo v L).Nodup
  | _, [], _ => List.Pairwise.nil
  | v, x :: L, hb => by
    rw [pathsGo]
    refine List.nodup_append.2 ⟨newP_nodup _ _, paths_nodup hb.tail, fun a ha b hc e => ?_⟩
    subst e
    exact ((mem_paths hb.tail (fun y hy => .inr (hb.head y hy)) a).1 hc).2 (mem_newP.1 ha).1
/-- A row of all beginnings, each once, is as long as the document tells. -/
theorem nodes_card {L : List Itm} (hb : BagW L) {Q : List (List Int)} (hQ : Q.Nodup) (hm : ∀ p, p ∈ Q ↔ p = [] ∨ ∃ x ∈ L, p <+: x.1) : Q.length = nodesB L := by
  have h0 : ∀ x ∈ L, ([] : List Int) = x.1 ∨ lessS [] x.1 = true := fun x _ => by
    cases x.1 with
    | nil => exact .inl rfl
    | cons a l => exact .inr rfl
  have hn : ([] :: pathsGo [] L).Nodup := List.nodup_cons.2 ⟨fun h => ((mem_paths hb h0 []).1 h).2 (List.prefix_refl _), paths_nodup hb⟩
  have hmm : ∀ p, p ∈ Q ↔ p ∈ [] :: pathsGo [] L := fun p => by
    rw [hm, List.mem_cons, mem_paths hb h0]
    constructor
    · rintro (h | h)
      · exact .inl h
      · by_cases e : p = []
        · exact .inl e
        · exact .inr ⟨h, fun k => e (List.prefix_nil.1 k)⟩
    · rintro (h | h)
      · exact .inl h
      · exact .inr h.1
  have h1 := nodup_sub hQ fun x hx => (hmm x).1 hx
  have h2 := nodup_sub hn fun x hx => (hmm x).2 hx
  rw [List.length_cons, paths_len] at h1 h2
  unfold nodesB
  omega
end Go.Proofs.Ytchcpeenpijekaa
