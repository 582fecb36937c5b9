/- slices.Clone at ints: the kids of a group, copied. -/
import Derived.Test.YtjhnenljmmeflaaUndoK
namespace Go.Proofs.Ytjhnenljmmeflaa
open Go.RowKit
set_option linter.unusedVariables false

section
variable {w : World} {st et : TypeId} {sz by_ : Nat}
/-- append of a whole row onto a row of the call's own. -/
theorem run_appGG (ht : RowT st et sz by_) (ty : TypeId) {B B' n c : Nat} {A : Option Addr} {vs us : List (List Value)} (hown : RowG w et sz B A n c vs) {x m d : Nat} (hr : RowG w et sz B' (some ⟨x, 0, none⟩) m d us)
    (hsz : n + m ≤ 35184372088832) (hby : (n + m) * by_ ≤ 140737488355328) (hB : B ≤ w.heap.size) :
    ∃ A' c' w', (Builtin.append_ #[st, st] ty #[.slice A n c, .slice (some ⟨x, 0, none⟩) m d]).run Try.prog w = .ok (.slice A' (n + m) c') w' ∧ RowG w' et sz B A' (n + m) c' (vs ++ us) ∧
      w.grownBy w' (blk A) ∧ (blk A' = blk A ∨ blk A' = some w.heap.size) := by
  obtain ⟨z, hzs, hinfo⟩ := ht.info
  obtain ⟨i0, hi, hz0, hz1, hz2⟩ := info_parts hinfo
  obtain ⟨v', w', hrun, h2, h3, h4, h5⟩ := run_append_own_at (P := Try.prog) w B st ty et i0 z sz by_ ht.und hi hz0 hz1 hz2 hzs ht.pos
    (.slice A n c) n vs.flatten hown.row ⟨x, 0, none⟩ m d us.flatten (by rw [flat_len hr.each.len, hr.cnt]) (fun j u hu => hr.row.cells (g := x) rfl j u hu) hr.each.cells (by unfold maxLen; omega) hby hB
  rw [← List.flatten_append] at h2
  rw [own_blk] at h3 h5
  have hc : (vs ++ us).length = n + m := by rw [List.length_append, hown.cnt, hr.cnt]
  rcases h2.2 with ⟨rfl, h0⟩ | ⟨g', cap, cur, rfl, _⟩
  · exact ⟨none, 0, w', by rw [h0]; exact hrun, ⟨by rw [h0] at h2 ⊢; exact h2, hown.each.app hr.each, hc⟩, h3, by rw [← own_blk none 0 0]; exact h5⟩
  · exact ⟨some ⟨g', 0, none⟩, cap, w', hrun, ⟨h2, hown.each.app hr.each, hc⟩, h3, by rw [← own_blk (some ⟨g', 0, none⟩) (n + m) cap]; exact h5⟩
theorem wpList_appGG (ht : RowT st et sz by_) {ops : Array Oper} {rest : List Oper} {o : Oper} {a : Act} {Q : Exit → Act → World → Prop} (hgd : o.guard = none) (s x : Operand)
    (ho : o.op = .call { callee := .builtin .append, args := #[s, x], argTypes := #[st, st] })
    (B : Nat) {B' n c : Nat} {A : Option Addr} {vs us : List (List Value)} (hs : a.eval s = .slice A n c) (hown : RowG w et sz B A n c vs) {y m d : Nat}
    (hx : a.eval x = .slice (some ⟨y, 0, none⟩) m d) (hr : RowG w et sz B' (some ⟨y, 0, none⟩) m d us) (hsz : n + m ≤ 35184372088832) (hby : (n + m) * by_ ≤ 140737488355328) (hB : B ≤ w.heap.size)
    (h : ∀ A' c' w', RowG w' et sz B A' (n + m) c' (vs ++ us) → w.grownBy w' (blk A) → Below B w w' → wpList Try.prog ops Q rest (a.put o.dst (.slice A' (n + m) c')) w') : wpList Try.prog ops Q (o :: rest) a w :=
  wpList_plain hgd fun _ hK => by
    obtain ⟨A', c', w', hrun, h2, h3, h4⟩ := run_appGG ht o.type hown hr hsz hby hB
    unfold Oper.wp execOp
    simp only [ho, resolve, invoke, builtin, Sem.run_bind, Sem.run_pure, Result.andThen_ok, List.map_toArray, List.map_cons, List.map_nil, hs, hx, hrun]
    exact hK _ _ (h A' c' w' h2 h3 ((Below.refl _ _).grown h3 hB fun g hg => (hown.blk_ge g hg).1))
end

set_option maxHeartbeats 1000000 in
theorem cloneK_any (K : Option Addr) (n c B : Nat) (ks : List Nat) (w : World) (h : RowG w 3 1 B K n c (kidC ks)) (hn : n ≤ 1000000) :
    Calls Try.prog 67 #[.slice K n c] w fun e w' => ∃ K' c', e = .returned (.slice K' n c') ∧ RowG w' 3 1 w.heap.size K' n c' (kidC ks) ∧ Below w.heap.size w w' := by
  have he := Lib.run_eql_slice_nil w 23 3 K n c 0 0 Try.underlying23
  have hw0 := RowG.ofBox (sz := 1) (vs := []) (Box.new w 3 #[]) (Nat.le_refl _) (Each.nil 1) rfl rfl (Nat.zero_le _)
  rcases h.form with ⟨rfl, rfl, rfl⟩ | ⟨g, rfl, _⟩
  · have hk : kidC ks = [] := List.eq_nil_of_length_eq_zero h.cnt
    rw [hk]
    have HN := hide hk
    clear h hk
    go_enter Try.func67, Try.ntmps67
    go_wp2_with fail
    go_ret
    exact ⟨none, 0, rfl, RowG.nil _ _ _ _, Below.refl _ _⟩
  · have HW := hide hw0
    have H := hide h
    clear hw0 h
    go_enter Try.func67, Try.ntmps67
    go_wp2_with (first
      | (at_builtin
         refine wpList_appGG intT rfl (.tmp 5) (.tmp 6) rfl w.heap.size rfl HW.out rfl (H.out.alloc _) (by omega) (by omega) (by simp) ?_
         intro A' c' w' h2 h3 h4
         have H2 := hide h2
         have H4 := hide h4
         clear h2 h3 h4))
    go_ret
    refine ⟨A', c', rfl, ?_, ((Below.refl w.heap.size w).alloc (Nat.le_refl _) _).trans H4.out⟩
    have := H2.out
    rw [Nat.zero_add, List.nil_append] at this
    exact this
end Go.Proofs.Ytjhnenljmmeflaa
