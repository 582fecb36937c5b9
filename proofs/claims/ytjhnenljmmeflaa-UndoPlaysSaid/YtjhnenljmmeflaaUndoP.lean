/- Plain words and laws of layer 28: a tree of groups of changes. No program in sight. -/
import Derived.Test.YtjhnenljmmeflaaChgs
namespace Go.Proofs.Ytjhnenljmmeflaa
open Go.RowKit
set_option linter.unusedVariables false

/-- A group: its changes, the place ahead of them, the group above, those below by age, which of these is picked. -/
structure Grp where
  l : List Chg
  before : Int
  above : Nat
  kids : List Nat
  picked : Nat
def root0 : Grp := ⟨[], 0, 0, [], 0⟩

/-- The groups may be a tree, and one of them is now. -/
structure WF (gs : List Grp) (now : Nat) : Prop where
  nw : now < gs.length
  size : gs.length ≤ 101
  up : ∀ (j : Nat) (x : Grp), gs[j]? = some x → 0 < j → x.above < j
  kid : ∀ (j : Nat) (x : Grp), gs[j]? = some x → ∀ k ∈ x.kids, 0 < k ∧ k < gs.length
  pick : ∀ (j : Nat) (x : Grp), gs[j]? = some x → x.kids ≠ [] → x.picked < x.kids.length
  few : ∀ (j : Nat) (x : Grp), gs[j]? = some x → x.kids.length < gs.length
  bnd : ∀ (j : Nat) (x : Grp), gs[j]? = some x → -9223372036854775808 ≤ x.before ∧ x.before ≤ 9223372036854775807
  ok : ∀ (j : Nat) (x : Grp), gs[j]? = some x → ∀ c ∈ x.l, ChgOk c
  len : ∀ (j : Nat) (x : Grp), gs[j]? = some x → x.l.length ≤ 1000000
  top : ∀ (x : Grp), gs[0]? = some x → x.above = 0
theorem WF.root : WF [root0] 0 := by
  have key : ∀ j x, [root0][j]? = some x → j = 0 ∧ x = root0 := fun j x h => by
    match j, h with
    | 0, h => exact ⟨rfl, by simpa using h.symm⟩
    | j + 1, h => simp at h
  refine ⟨by simp, by simp, ?_, ?_, ?_, ?_, ?_, ?_, ?_, ?_⟩
  · intro j x h hj
    obtain ⟨rfl, rfl⟩ := key j x h
    omega
  all_goals intro j
  · intro x h k hk
    obtain ⟨rfl, rfl⟩ := key j x h
    simp [root0] at hk
  · intro x h hk
    obtain ⟨rfl, rfl⟩ := key j x h
    simp [root0] at hk
  · intro x h
    obtain ⟨rfl, rfl⟩ := key j x h
    simp [root0]
  · intro x h
    obtain ⟨rfl, rfl⟩ := key j x h
    simp [root0]
  · intro x h c hc
    obtain ⟨rfl, rfl⟩ := key j x h
    simp [root0] at hc
  · intro x h
    obtain ⟨rfl, rfl⟩ := key j x h
    simp [root0]
  · intro h
    obtain ⟨_, rfl⟩ := key 0 j h
    rfl

/-- Where a group goes when one more stands below it. -/
def kidded (x : Grp) (k : Nat) : Grp := { x with kids := x.kids ++ [k], picked := x.kids.length }
/-- The groups with one more below the one that is now. -/
def addG (gs : List Grp) (now : Nat) (l : List Chg) (before : Int) : List Grp :=
  match gs[now]? with
  | some x => gs.set now (kidded x gs.length) ++ [⟨l, before, now, [], 0⟩]
  | none => gs
theorem addG_at {gs : List Grp} {now : Nat} {l : List Chg} {before : Int} {x : Grp} (h : gs[now]? = some x) : addG gs now l before = gs.set now (kidded x gs.length) ++ [⟨l, before, now, [], 0⟩] := by
  unfold addG
  rw [h]
/-- Each group of the new ones. -/
theorem addG_get {gs : List Grp} {now : Nat} {l : List Chg} {before : Int} {x y : Grp} {j : Nat} (h : gs[now]? = some x) (hy : (addG gs now l before)[j]? = some y) :
    (j = now ∧ y = kidded x gs.length) ∨ (j ≠ now ∧ gs[j]? = some y) ∨ (j = gs.length ∧ y = ⟨l, before, now, [], 0⟩) := by
  have hn := (List.getElem?_eq_some_iff.1 h).1
  rw [addG_at h] at hy
  by_cases hj : j < gs.length
  · rw [List.getElem?_append_left (by simpa using hj)] at hy
    by_cases hjn : j = now
    · subst hjn
      rw [List.getElem?_set_self hj] at hy
      exact .inl ⟨rfl, (Option.some.inj hy).symm⟩
    · rw [List.getElem?_set_ne (fun e => hjn e.symm)] at hy
      exact .inr (.inl ⟨hjn, hy⟩)
  · rw [List.getElem?_append_right (by simpa using hj)] at hy
    obtain ⟨h1, h2⟩ := List.getElem?_eq_some_iff.1 hy
    simp at h1
    have : j = gs.length := by omega
    exact .inr (.inr ⟨this, by simpa [this] using h2.symm⟩)
theorem addG_len {gs : List Grp} {now : Nat} {l : List Chg} {before : Int} {x : Grp} (h : gs[now]? = some x) : (addG gs now l before).length = gs.length + 1 := by
  rw [addG_at h]
  simp
theorem WF.add {gs : List Grp} {now : Nat} {l : List Chg} {before : Int} (h : WF gs now) (hs : gs.length ≤ 100) (hb : -9223372036854775808 ≤ before ∧ before ≤ 9223372036854775807) (hl : ∀ c ∈ l, ChgOk c) (hll : l.length ≤ 1000000) : WF (addG gs now l before) gs.length := by
  obtain ⟨x, hx⟩ : ∃ x, gs[now]? = some x := ⟨_, List.getElem?_eq_getElem h.nw⟩
  have hn := h.nw
  have hlen := addG_len (l := l) (before := before) hx
  refine ⟨by omega, by omega, ?_, ?_, ?_, ?_, ?_, ?_, ?_, ?_⟩
  · intro j y hy hj
    rcases addG_get hx hy with ⟨rfl, rfl⟩ | ⟨_, hy⟩ | ⟨rfl, rfl⟩
    · exact h.up _ x hx hj
    · exact h.up _ _ hy hj
    · exact hn
  · intro j y hy k hk
    rw [hlen]
    rcases addG_get hx hy with ⟨rfl, rfl⟩ | ⟨_, hy⟩ | ⟨rfl, rfl⟩
    · rcases List.mem_append.1 hk with h1 | h1
      · have := h.kid _ x hx k h1; omega
      · rw [List.mem_singleton.1 h1]; omega
    · have := h.kid _ _ hy k hk; omega
    · simp at hk
  · intro j y hy hk
    rcases addG_get hx hy with ⟨rfl, rfl⟩ | ⟨_, hy⟩ | ⟨rfl, rfl⟩
    · simp [kidded]
    · exact h.pick _ _ hy hk
    · simp at hk
  · intro j y hy
    rw [hlen]
    rcases addG_get hx hy with ⟨rfl, rfl⟩ | ⟨_, hy⟩ | ⟨rfl, rfl⟩
    · have := h.few _ x hx
      simp [kidded]
      omega
    · have := h.few _ _ hy; omega
    · simp
  · intro j y hy
    rcases addG_get hx hy with ⟨rfl, rfl⟩ | ⟨_, hy⟩ | ⟨rfl, rfl⟩
    · exact h.bnd _ x hx
    · exact h.bnd _ _ hy
    · exact hb
  · intro j y hy
    rcases addG_get hx hy with ⟨rfl, rfl⟩ | ⟨_, hy⟩ | ⟨rfl, rfl⟩
    · exact h.ok _ x hx
    · exact h.ok _ _ hy
    · exact hl
  · intro j y hy
    rcases addG_get hx hy with ⟨rfl, rfl⟩ | ⟨_, hy⟩ | ⟨rfl, rfl⟩
    · exact h.len _ x hx
    · exact h.len _ _ hy
    · exact hll
  · intro y hy
    rcases addG_get hx hy with ⟨h0, rfl⟩ | ⟨_, hy⟩ | ⟨h0, rfl⟩
    · rw [← h0] at hx
      exact h.top x hx
    · exact h.top _ hy
    · omega
theorem WF.move {gs : List Grp} {now now' : Nat} (h : WF gs now) (hn : now' < gs.length) : WF gs now' := ⟨hn, h.size, h.up, h.kid, h.pick, h.few, h.bnd, h.ok, h.len, h.top⟩
/-- One of these is picked. -/
def pickG (gs : List Grp) (now i : Nat) : List Grp :=
  match gs[now]? with
  | some x => gs.set now { x with picked := i }
  | none => gs
theorem pickG_at {gs : List Grp} {now i : Nat} {x : Grp} (h : gs[now]? = some x) : pickG gs now i = gs.set now { x with picked := i } := by
  unfold pickG
  rw [h]
theorem pickG_get {gs : List Grp} {now i : Nat} {x y : Grp} {j : Nat} (h : gs[now]? = some x) (hy : (pickG gs now i)[j]? = some y) : (j = now ∧ y = { x with picked := i }) ∨ (j ≠ now ∧ gs[j]? = some y) := by
  have hn := (List.getElem?_eq_some_iff.1 h).1
  rw [pickG_at h] at hy
  by_cases hjn : j = now
  · subst hjn
    rw [List.getElem?_set_self hn] at hy
    exact .inl ⟨rfl, (Option.some.inj hy).symm⟩
  · rw [List.getElem?_set_ne (fun e => hjn e.symm)] at hy
    exact .inr ⟨hjn, hy⟩
theorem WF.pickG {gs : List Grp} {now i : Nat} {x : Grp} (h : WF gs now) (hx : gs[now]? = some x) (hi : i < x.kids.length) : WF (pickG gs now i) now := by
  have hlen : (Go.Proofs.Ytjhnenljmmeflaa.pickG gs now i).length = gs.length := by rw [pickG_at hx]; simp
  refine ⟨by rw [hlen]; exact h.nw, by rw [hlen]; exact h.size, ?_, ?_, ?_, ?_, ?_, ?_, ?_, ?_⟩
  · intro j y hy hj
    rcases pickG_get hx hy with ⟨rfl, rfl⟩ | ⟨_, hy⟩
    · exact h.up _ x hx hj
    · exact h.up _ _ hy hj
  · intro j y hy
    rw [hlen]
    rcases pickG_get hx hy with ⟨rfl, rfl⟩ | ⟨_, hy⟩
    · exact h.kid _ x hx
    · exact h.kid _ _ hy
  · intro j y hy hk
    rcases pickG_get hx hy with ⟨rfl, rfl⟩ | ⟨_, hy⟩
    · exact hi
    · exact h.pick _ _ hy hk
  · intro j y hy
    rw [hlen]
    rcases pickG_get hx hy with ⟨rfl, rfl⟩ | ⟨_, hy⟩
    · exact h.few _ x hx
    · exact h.few _ _ hy
  · intro j y hy
    rcases pickG_get hx hy with ⟨rfl, rfl⟩ | ⟨_, hy⟩
    · exact h.bnd _ x hx
    · exact h.bnd _ _ hy
  · intro j y hy
    rcases pickG_get hx hy with ⟨rfl, rfl⟩ | ⟨_, hy⟩
    · exact h.ok _ x hx
    · exact h.ok _ _ hy
  · intro j y hy
    rcases pickG_get hx hy with ⟨rfl, rfl⟩ | ⟨_, hy⟩
    · exact h.len _ x hx
    · exact h.len _ _ hy
  · intro y hy
    rcases pickG_get hx hy with ⟨h0, rfl⟩ | ⟨_, hy⟩
    · rw [← h0] at hx
      exact h.top x hx
    · exact h.top _ hy

/-- How many groups lead to one: by so many steps at most. -/
def undosN (gs : List Grp) : Nat → Nat → Nat
  | 0, _ => 0
  | f + 1, 0 => 0
  | f + 1, k + 1 => match gs[k + 1]? with
    | some x => undosN gs f x.above + 1
    | none => 0
theorem undosN_fuel {gs : List Grp} {now : Nat} (h : WF gs now) : ∀ (f k : Nat), k ≤ f → undosN gs (f + 1) k = undosN gs (k + 1) k
  | f, 0, _ => by simp [undosN]
  | f, k + 1, hk => by
    obtain ⟨f, rfl⟩ : ∃ f', f = f' + 1 := ⟨f - 1, by omega⟩
    rw [undosN]
    conv => rhs; rw [undosN]
    cases hx : gs[k + 1]? with
    | none => rfl
    | some x =>
      have hup := h.up _ x hx (by omega)
      show undosN gs (f + 1) x.above + 1 = undosN gs (k + 1) x.above + 1
      rw [undosN_fuel h f x.above (by omega), undosN_fuel h k x.above (by omega)]
def undosG (gs : List Grp) (now : Nat) : Nat := undosN gs (now + 1) now
theorem undosG_zero (gs : List Grp) : undosG gs 0 = 0 := rfl
theorem undosG_up {gs : List Grp} {now k : Nat} {x : Grp} (h : WF gs now) (hk : 0 < k) (hx : gs[k]? = some x) : undosG gs k = undosG gs x.above + 1 := by
  obtain ⟨k, rfl⟩ : ∃ k', k = k' + 1 := ⟨k - 1, by omega⟩
  have hup := h.up _ x hx (by omega)
  unfold undosG
  rw [undosN, hx]
  show undosN gs (k + 1) x.above + 1 = _
  rw [undosN_fuel h k x.above (by omega)]
theorem undosG_le {gs : List Grp} {now : Nat} (h : WF gs now) : ∀ k, undosG gs k ≤ k := by
  intro k
  induction k using Nat.strongRecOn with
  | _ k ih =>
    rcases Nat.eq_zero_or_pos k with rfl | hk
    · exact Nat.le_refl _
    · cases hx : gs[k]? with
      | none =>
        obtain ⟨k, rfl⟩ : ∃ k', k = k' + 1 := ⟨k - 1, by omega⟩
        unfold undosG
        rw [undosN, hx]
        exact Nat.zero_le _
      | some x =>
        have hup := h.up _ x hx hk
        rw [undosG_up h hk hx]
        have := ih x.above hup
        omega
end Go.Proofs.Ytjhnenljmmeflaa
