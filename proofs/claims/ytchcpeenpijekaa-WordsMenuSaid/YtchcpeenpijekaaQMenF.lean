/- Plain laws of WordsMenu: the items of a text of words by letters. -/
import Derived.Test.YtchcpeenpijekaaQTxtP
namespace Go.Proofs.Ytchcpeenpijekaa
open Go.RowKit
set_option linter.unusedVariables false

theorem touch_one {s : List Int} {a : Int} {p : Nat × Nat} (hp : p ∈ spansS s) (h1 : (p.1 : Int) ≤ a) (h2 : a ≤ (p.2 : Int)) : touchL (spansS s) a = some p := by
  cases ho : touchL (spansS s) a with
  | none =>
    unfold touchL at ho
    rw [List.find?_eq_none] at ho
    exact absurd (by simp; exact ⟨h1, h2⟩) (ho p hp)
  | some q =>
    have hq : q ∈ spansS s := List.mem_of_find?_eq_some ho
    have h3 := List.find?_some ho
    simp at h3
    obtain ⟨i, hi⟩ := List.getElem?_of_mem hp
    obtain ⟨j, hj⟩ := List.getElem?_of_mem hq
    obtain ⟨hi1, hi2⟩ := List.getElem?_eq_some_iff.1 hi
    obtain ⟨hj1, hj2⟩ := List.getElem?_eq_some_iff.1 hj
    have hasc := List.pairwise_iff_getElem.1 (spans_ok s).asc
    rcases Nat.lt_trichotomy i j with h | h | h
    · have := hasc i j hi1 hj1 h
      rw [hi2, hj2] at this
      omega
    · subst h
      rw [← hi2, ← hj2]
    · have := hasc j i hj1 hi1 h
      rw [hi2, hj2] at this
      omega
theorem ahead_in {s : List Int} {f t : Nat} (h : IsWord s f t) : ∀ c, c ≤ t - f → aheadN s (f + c) = c
  | 0, _ => by
    cases f with
    | zero => rfl
    | succ f =>
      show (if wrdS (nth s f) = true then _ else _) = 0
      rw [if_neg (by have := h.lo (by omega); rw [Nat.add_sub_cancel] at this; rw [this]; decide)]
  | c + 1, hc => by
    show (if wrdS (nth s (f + c)) = true then aheadN s (f + c) + 1 else 0) = c + 1
    rw [if_pos (h.in_ (f + c) (by omega) (by omega)), ahead_in h c (by omega)]
theorem ahead_at {s : List Int} {f t c : Nat} (h : IsWord s f t) (hc : c ≤ t - f) : aheadS s ((f + c : Nat) : Int) = c := by
  have h1 := h.le
  have h2 := h.lt
  unfold aheadS
  rw [if_pos (by omega)]
  exact ahead_in h c hc

def okB (s : List Int) (own : Nat × Nat) (pre : List Int) (p : Nat × Nat) : Bool := decide (p ≠ own) && begS (wdS s p) pre
theorem may_good {w : List Int} (h : GoodW w) : mayS w = true := by
  unfold mayS
  rw [List.all_eq_true]
  intro x hx
  rcases h.ab x hx with rfl | rfl <;> decide
theorem add_good {w : List Int} {L : List Itm} (h : GoodW w) (hl : allB L < 1000) : addE L w = 0 := by
  unfold addE
  have h1 := h.pos
  have h2 := h.le
  rw [if_neg, if_neg]
  · omega
  · rw [may_good h]; simp; intro e; rw [e] at h1; simp at h1
theorem step_ok {s : List Int} {own : Nat × Nat} {pre : List Int} {L : List Itm} {p : Nat × Nat} (hg : GoodW (wdS s p)) (hl : allB L < 1000) : stepR s own pre L p = if okB s own pre p = true then addB L (wdS s p) else L := by
  unfold stepR okB
  by_cases e : p = own
  · rw [if_pos e, decide_eq_false (by simpa using e), Bool.false_and, if_neg (by decide)]
  · rw [if_neg e, decide_eq_true (by simpa using e), Bool.true_and]
    by_cases hb : begS (wdS s p) pre = true
    · rw [if_pos hb, if_pos hb]
      unfold addL
      rw [if_pos (add_good hg hl)]
    · rw [if_neg hb, if_neg hb]
/-- What the bag of the words that begin so is. -/
theorem some_facts (s : List Int) (own : Nat × Nat) (pre : List Int) : ∀ (ps : List (Nat × Nat)) (L : List Itm), BagW L → allB L + ps.length ≤ 1000 → (∀ p ∈ ps, GoodW (wdS s p)) → (∀ x ∈ L, GoodW x.1) →
    BagW (ps.foldl (stepR s own pre) L) ∧ allB (ps.foldl (stepR s own pre) L) = allB L + ps.countP (okB s own pre) ∧ (∀ x ∈ ps.foldl (stepR s own pre) L, GoodW x.1) ∧ (∀ v, cntB L v ≤ cntB (ps.foldl (stepR s own pre) L) v) ∧ (∀ p ∈ ps, okB s own pre p = true → 0 < cntB (ps.foldl (stepR s own pre) L) (wdS s p))
  | [], L, h, _, _, hg => ⟨h, rfl, hg, (fun v => Nat.le_refl _), fun p hp => by cases hp⟩
  | p :: ps, L, h, hl, hw, hg => by
    rw [List.length_cons] at hl
    have hgp := hw p List.mem_cons_self
    rw [List.foldl_cons, step_ok hgp (by omega)]
    by_cases hok : okB s own pre p = true
    · rw [if_pos hok]
      have hb2 := addB_bag (wdS s p) h
      obtain ⟨q1, q2, q3, q4, q5⟩ := some_facts s own pre ps (addB L (wdS s p)) hb2 (by rw [all_addB]; omega) (fun q hq => hw q (List.mem_cons_of_mem _ hq)) (fun x hx => by
        rcases mem_addB hx with e | hx
        · rw [e]; exact hgp
        · exact hg x hx)
      refine ⟨q1, ?_, q3, fun v => ?_, fun q hq hq2 => ?_⟩
      · rw [q2, all_addB, List.countP_cons_of_pos hok]; omega
      · have h1 := q4 v
        rw [cnt_addB (wdS s p) v h] at h1
        by_cases e : v = wdS s p
        · rw [if_pos e, ← e] at h1
          rw [← e]
          omega
        · rw [if_neg e] at h1; exact h1
      · rcases List.mem_cons.1 hq with rfl | hq
        · have h1 := q4 (wdS s q)
          rw [cnt_addB (wdS s q) _ h, if_pos rfl] at h1
          omega
        · exact q5 q hq hq2
    · rw [if_neg hok]
      obtain ⟨q1, q2, q3, q4, q5⟩ := some_facts s own pre ps L h (by omega) (fun q hq => hw q (List.mem_cons_of_mem _ hq)) hg
      refine ⟨q1, ?_, q3, q4, fun q hq hq2 => ?_⟩
      · rw [q2, List.countP_cons_of_neg hok]
      · rcases List.mem_cons.1 hq with rfl | hq
        · exact absurd hq2 hok
        · exact q5 q hq hq2

/-- All words of at most four letters. -/
def words4 : List (List Int) := [[97], [98], [97, 97], [97, 98], [98, 97], [98, 98],
  [97, 97, 97], [97, 97, 98], [97, 98, 97], [97, 98, 98], [98, 97, 97], [98, 97, 98], [98, 98, 97], [98, 98, 98],
  [97, 97, 97, 97], [97, 97, 97, 98], [97, 97, 98, 97], [97, 97, 98, 98], [97, 98, 97, 97], [97, 98, 97, 98], [97, 98, 98, 97], [97, 98, 98, 98],
  [98, 97, 97, 97], [98, 97, 97, 98], [98, 97, 98, 97], [98, 97, 98, 98], [98, 98, 97, 97], [98, 98, 97, 98], [98, 98, 98, 97], [98, 98, 98, 98]]
theorem good_in {w : List Int} (h : GoodW w) : w ∈ words4 := by
  match w, h with
  | [], h => exact absurd h.pos (by simp)
  | [a], h => rcases h.ab a (by simp) with rfl | rfl <;> decide
  | [a, b], h => rcases h.ab a (by simp) with rfl | rfl <;> rcases h.ab b (by simp) with rfl | rfl <;> decide
  | [a, b, c], h => rcases h.ab a (by simp) with rfl | rfl <;> rcases h.ab b (by simp) with rfl | rfl <;> rcases h.ab c (by simp) with rfl | rfl <;> decide
  | [a, b, c, d], h => rcases h.ab a (by simp) with rfl | rfl <;> rcases h.ab b (by simp) with rfl | rfl <;> rcases h.ab c (by simp) with rfl | rfl <;> rcases h.ab d (by simp) with rfl | rfl <;> decide
  | a :: b :: c :: d :: e :: r, h => exact absurd h.le (by simp)
theorem few_words {M : List Itm} (h : BagW M) (hg : ∀ x ∈ M, GoodW x.1) : M.length ≤ 30 := by
  have hnd : (M.map Prod.fst).Nodup := by
    unfold List.Nodup
    rw [List.pairwise_map]
    exact h.asc.imp fun hl => less_ne hl
  have h1 := nodup_sub hnd (k := words4) fun w hw => by
    obtain ⟨x, hx, rfl⟩ := List.mem_map.1 hw
    exact good_in (hg x hx)
  rw [List.length_map] at h1
  exact h1
theorem all_ins (l : List Itm) (x : Itm) : allB (insI l x) = allB l + x.2 := by
  unfold insI
  generalize keepN x l l.length = k
  have h := congrArg allB (List.take_append_drop k l)
  unfold allB at h ⊢
  rw [List.map_append, List.sum_append] at h
  rw [List.map_append, List.map_append, List.sum_append, List.sum_append, List.map_singleton, List.sum_singleton]
  omega
theorem all_fold : ∀ (L l : List Itm), allB (L.foldl insI l) = allB l + allB L
  | [], l => by simp [allB]
  | x :: L, l => by
    rw [List.foldl_cons, all_fold L, all_ins]
    unfold allB
    rw [List.map_cons, List.sum_cons]
    omega
theorem all_top (L : List Itm) : allB (topL L) = allB L := by
  unfold topL
  rw [all_fold]
  simp [allB]
/-- The menu of a text of words by letters, in the midst or at the end of one of them. -/
structure MenF (ws : List (List Int)) (own : Nat × Nat) (pre : List Int) (I : List Itm) : Prop where
  pos : ∀ x ∈ I, 0 < x.2
  top : I.Pairwise fun x y => betB x y = true
  all : allB I = (spF 0 ws).countP (okB (txtL ws) own pre)
  has : ∀ p ∈ spF 0 ws, okB (txtL ws) own pre p = true → ∃ x ∈ I, x.1 = wdS (txtL ws) p
theorem menu_facts {ws : List (List Int)} (hg : ∀ w ∈ ws, GoodW w) (hn : ws.length ≤ 60) {own : Nat × Nat} (ho : own ∈ spF 0 ws) {c : Nat} (hc0 : 0 < c) (hc : c ≤ own.2 - own.1) :
    aheadS (txtL ws) ((own.1 + c : Nat) : Int) = c ∧ preS (txtL ws) ((own.1 + c : Nat) : Int) = ((txtL ws).drop own.1).take c ∧ MenF ws own (((txtL ws).drop own.1).take c) (menuS (txtL ws) ((own.1 + c : Nat) : Int)) := by
  have hsp := spans_txt hg
  have hom : own ∈ spansS (txtL ws) := by rw [hsp]; exact ho
  have hiw := ((spans_ok (txtL ws)).word own hom).1
  have hlen := txt_len hg
  have ha := ahead_at hiw hc
  have hpre : preS (txtL ws) ((own.1 + c : Nat) : Int) = ((txtL ws).drop own.1).take c := by
    unfold preS
    rw [ha, Int.toNat_natCast, Nat.add_sub_cancel]
  have hlt := hiw.lt
  have hto : touchL (spansS (txtL ws)) ((own.1 + c : Nat) : Int) = some own := touch_one hom (by omega) (by omega)
  have how : ownS (txtL ws) ((own.1 + c : Nat) : Int) = own := by
    unfold ownS
    rw [hto]
    rfl
  have hgw : ∀ p ∈ spF 0 ws, GoodW (wdS (txtL ws) p) := fun p hp => by
    obtain ⟨i, hi⟩ := List.getElem?_of_mem hp
    have hil : i < ws.length := by
      have := (List.getElem?_eq_some_iff.1 hi).1
      rwa [spF_len] at this
    obtain ⟨b, h1, _, h2, _⟩ := spF_get (List.getElem?_eq_getElem hil)
    rw [hi] at h1
    injection h1 with h1
    rw [h1, h2]
    exact hg _ (List.getElem_mem hil)
  obtain ⟨q1, q2, q3, q4, q5⟩ := some_facts (txtL ws) own (((txtL ws).drop own.1).take c) (spF 0 ws) [] BagW.nil (by rw [spF_len]; simp [allB]; omega) hgw (fun x hx => by cases hx)
  have hme : menuS (txtL ws) ((own.1 + c : Nat) : Int) = topL ((spF 0 ws).foldl (stepR (txtL ws) own (((txtL ws).drop own.1).take c)) []) := by
    rw [menuS_some (by rw [ha]; omega) (by omega), how, hpre, words_agree _ _ (by omega)]
    unfold someW
    rw [hsp]
    refine List.take_of_length_le ?_
    rw [(top_ok q1).2.2]
    have := few_words q1 q3
    omega
  refine ⟨ha, hpre, ?_⟩
  rw [hme]
  obtain ⟨t1, t2, t3⟩ := top_ok q1
  refine ⟨fun x hx => q1.pos x ((t2 x).1 hx), t1, by rw [all_top, q2]; simp [allB], fun p hp hok => ?_⟩
  have h1 := cntB_pos (q5 p hp hok)
  exact ⟨_, (t2 _).2 h1, rfl⟩
end Go.Proofs.Ytchcpeenpijekaa
