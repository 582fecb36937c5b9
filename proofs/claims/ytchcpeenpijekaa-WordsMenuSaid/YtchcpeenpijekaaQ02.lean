/- Pieces, joined: SgnP, SgnE. -/
import Derived.Test.YtchcpeenpijekaaQ01

/- Plain words and laws of layer 1: classes, great and small letters, cases, order. No program in sight. -/
namespace Go.Proofs.Ytchcpeenpijekaa
open Go.RowKit
set_option linter.unusedVariables false

def clsS (r : Int) : Int :=
  if ¬ (0 ≤ r ∧ r ≤ 1114111 ∧ (r < 55296 ∨ 57343 < r)) then 0 else if r = 32 ∨ r = 9 then 1 else if r = 10 then 2
  else if (97 ≤ r ∧ r ≤ 122) ∨ (65 ≤ r ∧ r ≤ 90) ∨ (48 ≤ r ∧ r ≤ 57) ∨ r = 95 ∨ (192 ≤ r ∧ r ≤ 255 ∧ r ≠ 215 ∧ r ≠ 247) then 3 else 4
def upS (r : Int) : Int := if (97 ≤ r ∧ r ≤ 122) ∨ (224 ≤ r ∧ r ≤ 254 ∧ r ≠ 247) then r - 32 else r
def loS (r : Int) : Int := if (65 ≤ r ∧ r ≤ 90) ∨ (192 ≤ r ∧ r ≤ 222 ∧ r ≠ 215) then r + 32 else r
def partS (r : Int) : Bool := decide (clsS r = 3 ∧ r ≠ 95)

theorem up_lo (r : Int) : upS (loS r) = upS r := by unfold upS loS; repeat' split; all_goals omega
theorem lo_up (r : Int) : loS (upS r) = loS r := by unfold upS loS; repeat' split; all_goals omega
theorem up_up (r : Int) : upS (upS r) = upS r := by unfold upS; repeat' split; all_goals omega
theorem lo_lo (r : Int) : loS (loS r) = loS r := by unfold loS; repeat' split; all_goals omega
theorem cls_up (r : Int) : clsS (upS r) = clsS r := by unfold upS clsS; repeat' split; all_goals omega
theorem cls_lo (r : Int) : clsS (loS r) = clsS r := by unfold loS clsS; repeat' split; all_goals omega
theorem part_up (r : Int) : partS (upS r) = partS r := by
  unfold partS
  rw [cls_up, decide_eq_decide]
  refine and_congr_right fun h => not_congr ?_
  unfold upS
  split <;> omega
theorem part_lo (r : Int) : partS (loS r) = partS r := by
  unfold partS
  rw [cls_lo, decide_eq_decide]
  refine and_congr_right fun h => not_congr ?_
  unfold loS
  split <;> omega
theorem up_bd {r : Int} (h : -2147483648 ≤ r ∧ r ≤ 2147483647) : -2147483648 ≤ upS r ∧ upS r ≤ 2147483647 := by unfold upS; split <;> omega
theorem lo_bd {r : Int} (h : -2147483648 ≤ r ∧ r ≤ 2147483647) : -2147483648 ≤ loS r ∧ loS r ≤ 2147483647 := by unfold loS; split <;> omega
theorem cls_bd (r : Int) : 0 ≤ clsS r ∧ clsS r ≤ 4 := by unfold clsS; repeat' split; all_goals omega

/-- What comes of the runs of a text. -/
def runStep (f : Int → Int) (i : Bool) (out : List Int) (r : Int) : List Int := if partS r then (if i then out ++ [r] else if out.length = 0 then out ++ [f r] else out ++ [upS r]) else out
def runGo (f : Int → Int) (i : Bool) (out : List Int) : List Int → List Int
  | [] => out
  | r :: s => runGo f (partS r) (runStep f i out r) s
def runS (f : Int → Int) (s : List Int) : List Int := runGo f false [] s
/-- Was the last one a part of a run? -/
def lastP (i : Bool) : List Int → Bool
  | [] => i
  | r :: s => lastP (partS r) s

theorem runGo_app (f : Int → Int) : ∀ (a b : List Int) (i : Bool) (out : List Int), runGo f i out (a ++ b) = runGo f (lastP i a) (runGo f i out a) b
  | [], b, i, out => rfl
  | r :: a, b, i, out => by
    rw [List.cons_append, runGo, runGo, lastP]
    exact runGo_app f a b _ _
theorem runGo_drop {f : Int → Int} {s : List Int} {k : Nat} {i : Bool} {out : List Int} (h : k < s.length) : runGo f i out (s.drop k) = runGo f (partS (nth s k)) (runStep f i out (nth s k)) (s.drop (k + 1)) := by
  rw [List.drop_eq_getElem_cons h, nth_eq h]
  rfl
theorem runStep_len (f : Int → Int) (i : Bool) (out : List Int) (r : Int) : (runStep f i out r).length = out.length + (if partS r then 1 else 0) := by
  unfold runStep
  repeat' split
  all_goals simp
/-- How many parts. -/
def cntP (s : List Int) : Nat := (s.filter partS).length
theorem runGo_len (f : Int → Int) : ∀ (s : List Int) (i : Bool) (out : List Int), (runGo f i out s).length = out.length + cntP s
  | [], i, out => rfl
  | r :: s, i, out => by
    rw [runGo, runGo_len f s, runStep_len]
    unfold cntP
    rw [List.filter_cons]
    split <;> simp <;> omega
theorem runS_len (f : Int → Int) (s : List Int) : (runS f s).length = cntP s := by
  unfold runS
  rw [runGo_len]
  simp

/-- Behind the first element the function plays no part. -/
def tailS (i : Bool) : List Int → List Int
  | [] => []
  | r :: s => if partS r then (if i then r else upS r) :: tailS true s else tailS false s
theorem runGo_tail (f : Int → Int) : ∀ (s : List Int) (i : Bool) (out : List Int), 0 < out.length → runGo f i out s = out ++ tailS i s
  | [], i, out, h => by simp [runGo, tailS]
  | r :: s, i, out, h => by
    have hl := runStep_len f i out r
    rw [runGo, runGo_tail f s _ _ (by rw [hl]; omega), tailS]
    unfold runStep
    cases hp : partS r
    · simp
    · cases i
      · simp [Nat.ne_of_gt h, show ¬ out = [] from fun e => by rw [e] at h; simp at h]
      · simp
/-- The first part, and what follows. -/
def firstS : List Int → Option (Int × List Int)
  | [] => none
  | r :: s => if partS r then some (r, tailS true s) else firstS s
theorem runS_first (f : Int → Int) : ∀ s : List Int, runS f s = match firstS s with | none => [] | some (r, l) => f r :: l
  | [] => rfl
  | r :: s => by
    unfold runS
    rw [runGo, firstS]
    cases hp : partS r
    · have : runStep f false [] r = [] := by simp [runStep, hp]
      rw [this]
      exact runS_first f s
    · have : runStep f false [] r = [f r] := by simp [runStep, hp]
      rw [this, runGo_tail f s true [f r] (by simp)]
      simp
theorem tailS_part : ∀ (s : List Int) (i : Bool), ∀ x ∈ tailS i s, partS x = true
  | [], i, x, h => by cases h
  | r :: s, i, x, h => by
    rw [tailS] at h
    cases hp : partS r
    · rw [hp] at h
      exact tailS_part s false x h
    · rw [hp] at h
      rcases List.mem_cons.1 h with rfl | h
      · cases i
        · show partS (upS r) = true
          rw [part_up, hp]
        · exact hp
      · exact tailS_part s true x h
theorem firstS_part : ∀ {s : List Int} {r : Int} {l : List Int}, firstS s = some (r, l) → partS r = true ∧ ∀ x ∈ l, partS x = true
  | [], r, l, h => by cases h
  | q :: s, r, l, h => by
    rw [firstS] at h
    cases hp : partS q
    · rw [hp] at h
      exact firstS_part h
    · rw [hp] at h
      injection h with h
      injection h with h1 h2
      subst h1
      subst h2
      exact ⟨hp, tailS_part s true⟩
theorem tailS_id : ∀ (s : List Int), (∀ x ∈ s, partS x = true) → tailS true s = s
  | [], _ => rfl
  | r :: s, h => by
    rw [tailS, if_pos (h r (List.mem_cons_self ..)), if_pos rfl, tailS_id s fun x hx => h x (List.mem_cons_of_mem _ hx)]
/-- Runs put together, and together again. -/
theorem runS_twice (s : List Int) : runS upS (runS upS s) = runS upS s := by
  rw [runS_first upS s]
  cases h : firstS s with
  | none => rfl
  | some p =>
    obtain ⟨r, l⟩ := p
    obtain ⟨h1, h2⟩ := firstS_part h
    show runS upS (upS r :: l) = upS r :: l
    rw [runS_first]
    have : firstS (upS r :: l) = some (upS r, tailS true l) := by rw [firstS, part_up, if_pos h1]
    rw [this, tailS_id l h2]
    show upS (upS r) :: l = _
    rw [up_up]
/-- The two cases' texts, place for place. -/
theorem runS_two (s : List Int) : (0 < (runS upS s).length → upS (nth (runS loS s) 0) = nth (runS upS s) 0 ∧ loS (nth (runS upS s) 0) = nth (runS loS s) 0) ∧ ∀ j, 0 < j → nth (runS loS s) j = nth (runS upS s) j := by
  rw [runS_first upS s, runS_first loS s]
  cases h : firstS s with
  | none => exact ⟨fun h => by simp at h, fun j _ => rfl⟩
  | some p =>
    obtain ⟨r, l⟩ := p
    refine ⟨fun _ => ⟨up_lo r, lo_up r⟩, fun j hj => ?_⟩
    obtain ⟨j, rfl⟩ : ∃ i, j = i + 1 := ⟨j - 1, by omega⟩
    rfl
theorem lastP_snoc : ∀ (s : List Int) (i : Bool) (x : Int), lastP i (s ++ [x]) = partS x
  | [], i, x => rfl
  | r :: s, i, x => by rw [List.cons_append, lastP]; exact lastP_snoc s _ x
theorem runGo_out : ∀ (s out : List Int), runGo upS false out s = out ++ runS upS s
  | [], out => by simp [runGo, runS]
  | r :: s, out => by
    by_cases h : 0 < out.length
    · rw [runGo_tail upS _ _ _ h]
      congr 1
      clear h
      suffices ∀ s : List Int, tailS false s = runS upS s from this _
      intro s
      induction s with
      | nil => rfl
      | cons r s ih =>
        rw [runS_first, tailS, firstS]
        cases hp : partS r
        · simp only [Bool.false_eq_true, if_false]
          rw [ih, runS_first]
        · rfl
    · have : out = [] := List.eq_nil_of_length_eq_zero (by omega)
      subst this
      rfl
/-- Two texts with no part between them. -/
theorem runS_sep (s : List Int) {x y z : Int} (hx : partS x = false) (hy : partS y = false) (hz : partS z = false) : runS upS (s ++ [x, y, z] ++ s) = runS upS s ++ runS upS s := by
  have e : s ++ [x, y, z] ++ s = s ++ ([x, y, z] ++ s) := by rw [List.append_assoc]
  unfold runS
  rw [e, runGo_app, List.cons_append, runGo, List.cons_append, runGo, List.cons_append, runGo, hx, hy, hz]
  have st : ∀ (i : Bool) (out : List Int) (r : Int), partS r = false → runStep upS i out r = out := fun i out r h => by simp [runStep, h]
  rw [st _ _ _ hx, st _ _ _ hy, st _ _ _ hz]
  exact runGo_out s _

def capS : List Int → List Int
  | [] => []
  | x :: l => upS x :: l
def caseS (s : List Int) (how : Int) : List Int :=
  if how = 1 then s.map upS else if how = 2 then s.map loS else if how = 3 then capS s else if how = 4 then runS upS s else if how = 5 then runS loS s else s
theorem capS_len (s : List Int) : (capS s).length = s.length := by cases s <;> rfl
theorem cntP_le (s : List Int) : cntP s ≤ s.length := List.length_filter_le _ _
theorem caseS_len (s : List Int) (how : Int) : (caseS s how).length ≤ s.length := by
  have := cntP_le s
  unfold caseS
  repeat' split
  · simp
  · simp
  · rw [capS_len]; exact Nat.le_refl _
  · rw [runS_len]; exact this
  · rw [runS_len]; exact this
  · exact Nat.le_refl _
theorem caseS_app (a b : List Int) {how : Int} (h : how = 0 ∨ how = 1 ∨ how = 2) : caseS (a ++ b) how = caseS a how ++ caseS b how := by
  rcases h with rfl | rfl | rfl <;> simp [caseS]
theorem caseS_cap (a b : List Int) (h : 0 < a.length) : caseS (a ++ b) 3 = caseS a 3 ++ b := by
  cases a with
  | nil => simp at h
  | cons x a => rfl

/-- Is a text ahead of another one? -/
def lessS : List Int → List Int → Bool
  | [], [] => false
  | [], _ :: _ => true
  | _ :: _, [] => false
  | a :: x, b :: y => if a = b then lessS x y else decide (a < b)
theorem less_drop {a b : List Int} {k : Nat} (h1 : k < a.length) (h2 : k < b.length) : lessS (a.drop k) (b.drop k) = if nth a k = nth b k then lessS (a.drop (k + 1)) (b.drop (k + 1)) else decide (nth a k < nth b k) := by
  rw [List.drop_eq_getElem_cons h1, List.drop_eq_getElem_cons h2, nth_eq h1, nth_eq h2]
  rfl
theorem less_end {a b : List Int} {k : Nat} (h1 : k ≤ a.length) (h2 : k ≤ b.length) (h : k = a.length ∨ k = b.length) : lessS (a.drop k) (b.drop k) = decide (a.length < b.length) := by
  have e1 : (a.drop k).length = a.length - k := List.length_drop ..
  have e2 : (b.drop k).length = b.length - k := List.length_drop ..
  cases ha : a.drop k with
  | nil =>
    rw [ha, List.length_nil] at e1
    cases hb : b.drop k with
    | nil =>
      rw [hb, List.length_nil] at e2
      exact (decide_eq_false (by omega)).symm
    | cons y l =>
      rw [hb, List.length_cons] at e2
      exact (decide_eq_true (by omega)).symm
  | cons x l =>
    rw [ha, List.length_cons] at e1
    cases hb : b.drop k with
    | nil =>
      rw [hb, List.length_nil] at e2
      exact (decide_eq_false (by omega)).symm
    | cons y l' =>
      rw [hb, List.length_cons] at e2
      omega
theorem less_irr : ∀ a : List Int, lessS a a = false
  | [] => rfl
  | x :: a => by rw [lessS, if_pos rfl]; exact less_irr a
/-- Of two texts one is ahead, or they are alike: one of these alone. -/
theorem less_three : ∀ a b : List Int, (lessS a b = true ∧ lessS b a = false ∧ a ≠ b) ∨ (lessS a b = false ∧ lessS b a = true ∧ a ≠ b) ∨ (lessS a b = false ∧ lessS b a = false ∧ a = b)
  | [], [] => .inr (.inr ⟨rfl, rfl, rfl⟩)
  | [], _ :: _ => .inl ⟨rfl, rfl, by simp⟩
  | _ :: _, [] => .inr (.inl ⟨rfl, rfl, by simp⟩)
  | x :: a, y :: b => by
    rw [lessS, lessS]
    by_cases h : x = y
    · subst h
      rw [if_pos rfl, if_pos rfl]
      rcases less_three a b with ⟨h1, h2, h3⟩ | ⟨h1, h2, h3⟩ | ⟨h1, h2, h3⟩
      · exact .inl ⟨h1, h2, fun e => h3 (by injection e)⟩
      · exact .inr (.inl ⟨h1, h2, fun e => h3 (by injection e)⟩)
      · exact .inr (.inr ⟨h1, h2, by rw [h3]⟩)
    · rw [if_neg h, if_neg (fun e => h e.symm)]
      by_cases hl : x < y
      · exact .inl ⟨decide_eq_true hl, decide_eq_false (by omega), fun e => h (by injection e)⟩
      · exact .inr (.inl ⟨decide_eq_false hl, decide_eq_true (by omega), fun e => h (by injection e)⟩)
theorem less_trans : ∀ {a b c : List Int}, lessS a b = true → lessS b c = true → lessS a c = true
  | [], [], _, h, _ => by cases h
  | [], _ :: _, [], _, h => by cases h
  | [], _ :: _, _ :: _, _, _ => rfl
  | _ :: _, [], _, h, _ => by cases h
  | _ :: _, _ :: _, [], _, h => by cases h
  | x :: a, y :: b, z :: c, h1, h2 => by
    rw [lessS] at h1 h2 ⊢
    by_cases e1 : x = y
    · rw [if_pos e1] at h1
      by_cases e2 : y = z
      · rw [if_pos e2] at h2
        rw [if_pos (e1.trans e2)]
        exact less_trans h1 h2
      · rw [if_neg e2, decide_eq_true_eq] at h2
        rw [if_neg (by omega), decide_eq_true_eq]
        omega
    · rw [if_neg e1, decide_eq_true_eq] at h1
      by_cases e2 : y = z
      · rw [if_neg (by omega), decide_eq_true_eq]
        omega
      · rw [if_neg e2, decide_eq_true_eq] at h2
        rw [if_neg (by omega), decide_eq_true_eq]
        omega
theorem less_more : ∀ (a : List Int) (m : Int), lessS a (a ++ [m]) = true
  | [], m => rfl
  | x :: a, m => by rw [List.cons_append, lessS, if_pos rfl]; exact less_more a m
end Go.Proofs.Ytchcpeenpijekaa

/- Contracts of the functions of layer 1 on one element: Class, Upper, Lower, and the document's own. -/
namespace Go.Proofs.Ytchcpeenpijekaa
open Go.RowKit
set_option linter.unusedVariables false

theorem within_any (r a b : Int) (w : World) :
    Calls Try.prog 81 #[.int .i32 r, .int .i32 a, .int .i32 b] w fun e w' => e = .returned (.bool (decide (a ≤ r ∧ r ≤ b))) ∧ w = w' := by
  go_enter Try.func81, Try.ntmps81
  go_wp2
  all_goals go_ret
  all_goals refine ⟨retB ?_, rfl⟩
  all_goals rw [Bool.eq_iff_iff]; simp; try omega
theorem within_yes (r a b : Int) (w : World) (h : a ≤ r ∧ r ≤ b) :
    Calls Try.prog 81 #[.int .i32 r, .int .i32 a, .int .i32 b] w fun e w' => e = .returned (.bool true) ∧ w = w' := by
  have := within_any r a b w
  rwa [decide_eq_true h] at this
theorem within_no (r a b : Int) (w : World) (h : ¬ (a ≤ r ∧ r ≤ b)) :
    Calls Try.prog 81 #[.int .i32 r, .int .i32 a, .int .i32 b] w fun e w' => e = .returned (.bool false) ∧ w = w' := by
  have := within_any r a b w
  rwa [decide_eq_false h] at this
theorem isS_yes {r : Int} (h : 0 ≤ r ∧ r ≤ 1114111 ∧ (r < 55296 ∨ 57343 < r)) : isS r = true := by simp [isS]; omega
theorem isS_no {r : Int} (h : ¬ (0 ≤ r ∧ r ≤ 1114111 ∧ (r < 55296 ∨ 57343 < r))) : isS r = false := by
  rw [Bool.eq_false_iff]; intro h2; simp [isS] at h2; omega
theorem is_yes (r : Int) (w : World) (h : 0 ≤ r ∧ r ≤ 1114111 ∧ (r < 55296 ∨ 57343 < r)) :
    Calls Try.prog 67 #[.int .i32 r] w fun e w' => e = .returned (.bool true) ∧ w = w' := by
  have := is_any r w
  rwa [isS_yes h] at this
theorem is_no (r : Int) (w : World) (h : ¬ (0 ≤ r ∧ r ≤ 1114111 ∧ (r < 55296 ∨ 57343 < r))) :
    Calls Try.prog 67 #[.int .i32 r] w fun e w' => e = .returned (.bool false) ∧ w = w' := by
  have := is_any r w
  rwa [isS_no h] at this
theorem sign_yes (r : Int) (w : World) (h : 0 ≤ r ∧ r ≤ 1114111 ∧ (r < 55296 ∨ 57343 < r)) :
    Calls Try.prog 68 #[.int .i32 r] w fun e w' => e = .returned (.bool true) ∧ w = w' := by
  have := sign_any r w
  rwa [isS_yes h] at this
theorem sign_no (r : Int) (w : World) (h : ¬ (0 ≤ r ∧ r ≤ 1114111 ∧ (r < 55296 ∨ 57343 < r))) :
    Calls Try.prog 68 #[.int .i32 r] w fun e w' => e = .returned (.bool false) ∧ w = w' := by
  have := sign_any r w
  rwa [isS_no h] at this

/-- The ways through a class. -/
theorem cls_ways (r : Int) : ¬ (0 ≤ r ∧ r ≤ 1114111 ∧ (r < 55296 ∨ 57343 < r)) ∨ r = 9 ∨ r = 32 ∨ r = 10 ∨ r = 215 ∨ r = 247 ∨ r = 95 ∨
    ((0 ≤ r ∧ r ≤ 1114111 ∧ (r < 55296 ∨ 57343 < r)) ∧ (r ≠ 9 ∧ r ≠ 32 ∧ r ≠ 10 ∧ r ≠ 215 ∧ r ≠ 247 ∧ r ≠ 95) ∧
      ((97 ≤ r ∧ r ≤ 122) ∨ (65 ≤ r ∧ r ≤ 90) ∨ (48 ≤ r ∧ r ≤ 57) ∨ (192 ≤ r ∧ r ≤ 255) ∨ (¬ (97 ≤ r ∧ r ≤ 122) ∧ ¬ (65 ≤ r ∧ r ≤ 90) ∧ ¬ (48 ≤ r ∧ r ≤ 57) ∧ ¬ (192 ≤ r ∧ r ≤ 255)))) := by omega

set_option maxHeartbeats 1000000 in
theorem class_any (r : Int) (w : World) :
    Calls Try.prog 71 #[.int .i32 r] w fun e w' => e = .returned (.int .i64 (clsS r)) ∧ w = w' := by
  rcases cls_ways r with h | rfl | rfl | rfl | rfl | rfl | rfl | ⟨hs, ⟨n1, n2, n3, n4, n5, n6⟩, h⟩
  case' inl =>
    have hc : clsS r = 0 := by unfold clsS; repeat' split
                               all_goals omega
  case' inr.inl => have hc : clsS 9 = 1 := by decide
  case' inr.inr.inl => have hc : clsS 32 = 1 := by decide
  case' inr.inr.inr.inl => have hc : clsS 10 = 2 := by decide
  case' inr.inr.inr.inr.inl => have hc : clsS 215 = 4 := by decide
  case' inr.inr.inr.inr.inr.inl => have hc : clsS 247 = 4 := by decide
  case' inr.inr.inr.inr.inr.inr.inl => have hc : clsS 95 = 3 := by decide
  case' inr.inr.inr.inr.inr.inr.inr =>
    have e1 : (r == 9) = false := by simpa using n1
    have e2 : (r == 32) = false := by simpa using n2
    have e3 : (r == 10) = false := by simpa using n3
    have e4 : (r == 215) = false := by simpa using n4
    have e5 : (r == 247) = false := by simpa using n5
    have e6 : (r == 95) = false := by simpa using n6
    rcases h with h | h | h | h | ⟨m1, m2, m3, m4⟩
  case' inr.inr.inr.inr.inr.inr.inr.inr.inr.inr.inr =>
    have hc : clsS r = 4 := by unfold clsS; repeat' split
                               all_goals omega
  case' inr.inr.inr.inr.inr.inr.inr.inl =>
    have hc : clsS r = 3 := by unfold clsS; repeat' split
                               all_goals omega
  case' inr.inr.inr.inr.inr.inr.inr.inr.inl =>
    have hc : clsS r = 3 := by unfold clsS; repeat' split
                               all_goals omega
  case' inr.inr.inr.inr.inr.inr.inr.inr.inr.inl =>
    have hc : clsS r = 3 := by unfold clsS; repeat' split
                               all_goals omega
  case' inr.inr.inr.inr.inr.inr.inr.inr.inr.inr.inl =>
    have hc : clsS r = 3 := by unfold clsS; repeat' split
                               all_goals omega
  all_goals have HC := hide hc
  all_goals clear hc
  all_goals go_enter Try.func71, Try.ntmps71
  all_goals go_wp2_with (first
    | (go_at_call 67; (first | refine (is_yes _ _ (by omega)).mono ?_ | refine (is_no _ _ (by omega)).mono ?_); rintro e w' ⟨rfl, rfl⟩)
    | (go_at_call 81; (first | refine (within_yes _ _ _ _ (by omega)).mono ?_ | refine (within_no _ _ _ _ (by omega)).mono ?_); rintro e w' ⟨rfl, rfl⟩))
  all_goals go_ret
  all_goals exact ⟨retI HC.out.symm, rfl⟩

theorem letter_any (r : Int) (w : World) :
    Calls Try.prog 75 #[.int .i32 r] w fun e w' => e = .returned (.bool (decide ((97 ≤ r ∧ r ≤ 122) ∨ (65 ≤ r ∧ r ≤ 90)))) ∧ w = w' := by
  go_enter Try.func75, Try.ntmps75
  go_wp2
  all_goals go_ret
  all_goals refine ⟨retB ?_, rfl⟩
  all_goals first | (rw [Bool.eq_iff_iff]; simp; done) | (rw [Bool.eq_iff_iff]; simp; omega) | (rw [Bool.eq_iff_iff]; done)
theorem digit_any (r : Int) (w : World) :
    Calls Try.prog 76 #[.int .i32 r] w fun e w' => e = .returned (.bool (decide (48 ≤ r ∧ r ≤ 57))) ∧ w = w' := by
  go_enter Try.func76, Try.ntmps76
  go_wp2
  all_goals go_ret
  all_goals refine ⟨retB ?_, rfl⟩
  all_goals rw [Bool.eq_iff_iff]; simp; try omega
theorem letter_yes (r : Int) (w : World) (h : (97 ≤ r ∧ r ≤ 122) ∨ (65 ≤ r ∧ r ≤ 90)) :
    Calls Try.prog 75 #[.int .i32 r] w fun e w' => e = .returned (.bool true) ∧ w = w' := by
  have := letter_any r w
  rwa [decide_eq_true h] at this
theorem letter_no (r : Int) (w : World) (h : ¬ ((97 ≤ r ∧ r ≤ 122) ∨ (65 ≤ r ∧ r ≤ 90))) :
    Calls Try.prog 75 #[.int .i32 r] w fun e w' => e = .returned (.bool false) ∧ w = w' := by
  have := letter_any r w
  rwa [decide_eq_false h] at this
theorem digit_yes (r : Int) (w : World) (h : 48 ≤ r ∧ r ≤ 57) :
    Calls Try.prog 76 #[.int .i32 r] w fun e w' => e = .returned (.bool true) ∧ w = w' := by
  have := digit_any r w
  rwa [decide_eq_true h] at this
theorem digit_no (r : Int) (w : World) (h : ¬ (48 ≤ r ∧ r ≤ 57)) :
    Calls Try.prog 76 #[.int .i32 r] w fun e w' => e = .returned (.bool false) ∧ w = w' := by
  have := digit_any r w
  rwa [decide_eq_false h] at this

set_option maxHeartbeats 1000000 in
theorem rclass_any (r : Int) (w : World) :
    Calls Try.prog 64 #[.int .i32 r] w fun e w' => e = .returned (.int .i64 (clsS r)) ∧ w = w' := by
  rcases cls_ways r with h | rfl | rfl | rfl | rfl | rfl | rfl | ⟨hs, ⟨n1, n2, n3, n4, n5, n6⟩, h⟩
  case' inl =>
    have hc : clsS r = 0 := by unfold clsS; repeat' split
                               all_goals omega
  case' inr.inl => have hc : clsS 9 = 1 := by decide
  case' inr.inr.inl => have hc : clsS 32 = 1 := by decide
  case' inr.inr.inr.inl => have hc : clsS 10 = 2 := by decide
  case' inr.inr.inr.inr.inl => have hc : clsS 215 = 4 := by decide
  case' inr.inr.inr.inr.inr.inl => have hc : clsS 247 = 4 := by decide
  case' inr.inr.inr.inr.inr.inr.inl => have hc : clsS 95 = 3 := by decide
  case' inr.inr.inr.inr.inr.inr.inr =>
    have e1 : (r == 9) = false := by simpa using n1
    have e2 : (r == 32) = false := by simpa using n2
    have e3 : (r == 10) = false := by simpa using n3
    have e4 : (r != 215) = true := by simpa using n4
    have e5 : (r != 247) = true := by simpa using n5
    have e6 : (r == 95) = false := by simpa using n6
    rcases h with h | h | h | h | ⟨m1, m2, m3, m4⟩
  case' inr.inr.inr.inr.inr.inr.inr.inr.inr.inr.inr =>
    have hc : clsS r = 4 := by unfold clsS; repeat' split
                               all_goals omega
    have hm4 : r < 192 ∨ 255 < r := by omega
    rcases hm4 with hm4 | hm4
  case' inr.inr.inr.inr.inr.inr.inr.inl =>
    have hc : clsS r = 3 := by unfold clsS; repeat' split
                               all_goals omega
  case' inr.inr.inr.inr.inr.inr.inr.inr.inl =>
    have hc : clsS r = 3 := by unfold clsS; repeat' split
                               all_goals omega
  case' inr.inr.inr.inr.inr.inr.inr.inr.inr.inl =>
    have hc : clsS r = 3 := by unfold clsS; repeat' split
                               all_goals omega
  case' inr.inr.inr.inr.inr.inr.inr.inr.inr.inr.inl =>
    have hc : clsS r = 3 := by unfold clsS; repeat' split
                               all_goals omega
  all_goals have HC := hide hc
  all_goals clear hc
  all_goals go_enter Try.func64, Try.ntmps64
  all_goals go_wp2_with (first
    | (go_at_call 68; (first | refine (sign_yes _ _ (by omega)).mono ?_ | refine (sign_no _ _ (by omega)).mono ?_); rintro e w' ⟨rfl, rfl⟩)
    | (go_at_call 75; (first | refine (letter_yes _ _ (by omega)).mono ?_ | refine (letter_no _ _ (by omega)).mono ?_); rintro e w' ⟨rfl, rfl⟩)
    | (go_at_call 76; (first | refine (digit_yes _ _ (by omega)).mono ?_ | refine (digit_no _ _ (by omega)).mono ?_); rintro e w' ⟨rfl, rfl⟩))
  all_goals go_ret
  all_goals exact ⟨retI HC.out.symm, rfl⟩

end Go.Proofs.Ytchcpeenpijekaa
