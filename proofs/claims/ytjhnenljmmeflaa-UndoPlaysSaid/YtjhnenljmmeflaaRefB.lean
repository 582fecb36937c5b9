/- Undo and Redo of both trees, in one plain word each. -/
import Derived.Test.YtjhnenljmmeflaaRefR
namespace Go.Proofs.Ytjhnenljmmeflaa
open Go.RowKit
set_option linter.unusedVariables false

set_option maxRecDepth 100000 in
set_option maxHeartbeats 4000000 in
theorem rundo_root (w : World) (P : Nat → Prop) (t : Nat) (gs : List Grp) (h : TreeR w P t gs 0) :
    Calls Try.prog 52 #[.pointer (some ⟨t, 0, none⟩)] w (RMoveR w P t gs 0 [] 0 false) := by
  have H := hide h
  obtain ⟨g, n, c, v, x', hx', hgm, hn, hnc, hcc, hPg, ⟨t0, t1⟩, _⟩ := h.at_now h.wf.nw
  clear h hx' hgm hn
  have t1' : w.cell? ⟨t, 1, none⟩ = some (.int .i64 0) := t1
  clear t1
  go_enter Try.func52, Try.ntmps52
  go_wp2_with fail
  go_ret3
  exact ⟨none, 0, 0, [], rfl, RowC.nil _ _, Elts.nil _ _, H.out, Keeps.refl _ _⟩

/-- What a move answers: which group is now then, the changes, the place, whether. -/
structure Mv where
  now : Nat
  l : List Chg
  before : Int
  ok : Bool
def upG (gs : List Grp) (now : Nat) : Mv := if now = 0 then ⟨0, [], 0, false⟩ else ⟨(gs.getD now root0).above, backC (gs.getD now root0).l, (gs.getD now root0).before, true⟩
def downG (gs : List Grp) (now : Nat) : Mv :=
  match (gs.getD now root0).kids[(gs.getD now root0).picked]? with
  | some k => ⟨k, (gs.getD k root0).l, (gs.getD k root0).before, true⟩
  | none => ⟨now, [], 0, false⟩
theorem getD_of {gs : List Grp} {j : Nat} {x : Grp} (h : gs[j]? = some x) : gs.getD j root0 = x := by simp [List.getD_eq_getElem?_getD, h]
theorem up_ok {gs : List Grp} {now : Nat} (h : WF gs now) : (upG gs now).now < gs.length ∧ (upG gs now).l.length ≤ 1000000 := by
  unfold upG
  by_cases h0 : now = 0
  · subst h0
    rw [if_pos rfl]
    exact ⟨h.nw, by simp⟩
  · rw [if_neg h0]
    obtain ⟨x, hx⟩ : ∃ x, gs[now]? = some x := ⟨_, List.getElem?_eq_getElem h.nw⟩
    rw [getD_of hx]
    have h1 := h.up _ _ hx (by omega)
    have h2 := h.len _ _ hx
    have h3 := h.nw
    exact ⟨by show x.above < _; omega, by show (backC x.l).length ≤ _; simpa [backC] using h2⟩
theorem down_ok {gs : List Grp} {now : Nat} (h : WF gs now) : (downG gs now).now < gs.length ∧ (downG gs now).l.length ≤ 1000000 := by
  obtain ⟨x, hx⟩ : ∃ x, gs[now]? = some x := ⟨_, List.getElem?_eq_getElem h.nw⟩
  unfold downG
  rw [getD_of hx]
  cases hk : x.kids[x.picked]? with
  | none => exact ⟨h.nw, by simp⟩
  | some k =>
    have h1 := (h.kid _ _ hx k (List.mem_of_getElem? hk)).2
    obtain ⟨y, hy⟩ : ∃ y, gs[k]? = some y := ⟨_, List.getElem?_eq_getElem h1⟩
    show k < _ ∧ (gs.getD k root0).l.length ≤ _
    rw [getD_of hy]
    exact ⟨h1, h.len _ _ hy⟩
theorem no_kids {gs : List Grp} {now : Nat} {x : Grp} (h : WF gs now) (hx : gs[now]? = some x) (hk : x.kids[x.picked]? = none) : x.kids = [] := by
  by_cases he : x.kids = []
  · exact he
  · have := h.pick _ _ hx he
    rw [List.getElem?_eq_getElem this] at hk
    cases hk

theorem undo_all (w : World) (P : Nat → Prop) (t : Nat) (gs : List Grp) (now : Nat) (h : TreeM w P t gs now) :
    Calls Try.prog 20 #[.pointer (some ⟨t, 0, none⟩)] w (MoveR w P t gs (upG gs now).now (upG gs now).l (upG gs now).before (upG gs now).ok) := by
  by_cases h0 : now = 0
  · subst h0
    exact undo_root w P t gs h
  · obtain ⟨x, hx⟩ : ∃ x, gs[now]? = some x := ⟨_, List.getElem?_eq_getElem h.wf.nw⟩
    have := undo_any w P t gs now x h hx (by omega)
    unfold upG
    rw [if_neg h0, getD_of hx]
    exact this
theorem rundo_all (w : World) (P : Nat → Prop) (t : Nat) (gs : List Grp) (now : Nat) (h : TreeR w P t gs now) :
    Calls Try.prog 52 #[.pointer (some ⟨t, 0, none⟩)] w (RMoveR w P t gs (upG gs now).now (upG gs now).l (upG gs now).before (upG gs now).ok) := by
  by_cases h0 : now = 0
  · subst h0
    exact rundo_root w P t gs h
  · obtain ⟨x, hx⟩ : ∃ x, gs[now]? = some x := ⟨_, List.getElem?_eq_getElem h.wf.nw⟩
    have := rundo_any w P t gs now x h hx (by omega)
    unfold upG
    rw [if_neg h0, getD_of hx]
    exact this
theorem redo_all (w : World) (P : Nat → Prop) (t : Nat) (gs : List Grp) (now : Nat) (h : TreeM w P t gs now) :
    Calls Try.prog 23 #[.pointer (some ⟨t, 0, none⟩)] w (MoveR w P t gs (downG gs now).now (downG gs now).l (downG gs now).before (downG gs now).ok) := by
  obtain ⟨x, hx⟩ : ∃ x, gs[now]? = some x := ⟨_, List.getElem?_eq_getElem h.wf.nw⟩
  unfold downG
  rw [getD_of hx]
  cases hk : x.kids[x.picked]? with
  | none => exact redo_none w P t gs now x h hx (no_kids h.wf hx hk)
  | some k =>
    obtain ⟨y, hy⟩ : ∃ y, gs[k]? = some y := ⟨_, List.getElem?_eq_getElem (h.wf.kid _ _ hx k (List.mem_of_getElem? hk)).2⟩
    show Calls _ _ _ _ (MoveR w P t gs k (gs.getD k root0).l (gs.getD k root0).before true)
    rw [getD_of hy]
    exact redo_any w P t gs now k x y h hx hk hy
theorem rredo_all (w : World) (P : Nat → Prop) (t : Nat) (gs : List Grp) (now : Nat) (h : TreeR w P t gs now) :
    Calls Try.prog 53 #[.pointer (some ⟨t, 0, none⟩)] w (RMoveR w P t gs (downG gs now).now (downG gs now).l (downG gs now).before (downG gs now).ok) := by
  obtain ⟨x, hx⟩ : ∃ x, gs[now]? = some x := ⟨_, List.getElem?_eq_getElem h.wf.nw⟩
  unfold downG
  rw [getD_of hx]
  cases hk : x.kids[x.picked]? with
  | none => exact rredo_none w P t gs now x h hx (no_kids h.wf hx hk)
  | some k =>
    obtain ⟨y, hy⟩ : ∃ y, gs[k]? = some y := ⟨_, List.getElem?_eq_getElem (h.wf.kid _ _ hx k (List.mem_of_getElem? hk)).2⟩
    show Calls _ _ _ _ (RMoveR w P t gs k (gs.getD k root0).l (gs.getD k root0).before true)
    rw [getD_of hy]
    exact rredo_any w P t gs now k x y h hx hk hy
end Go.Proofs.Ytjhnenljmmeflaa
