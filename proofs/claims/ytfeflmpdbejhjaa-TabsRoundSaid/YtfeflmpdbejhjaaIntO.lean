/- Ints: slices that are read; rows of the call's own: appended, cut; standishkeep.SameInts; slices.Index at ints. -/
import Derived.Test.YtfeflmpdbejhjaaOrdP
namespace Go.Proofs.Ytfeflmpdbejhjaa
open Go.RowKit
set_option linter.unusedVariables false

/-- The slice at A, n long, reads as the ints l. -/
structure IntV (w : World) (A : Option Addr) (n : Nat) (l : List Int) : Prop where
  len : l.length = n
  at_ : ∀ j, j < n → ∃ b o, A = some ⟨b, o, none⟩ ∧ w.cell? ⟨b, o + j, none⟩ = some (.int .i64 (nth l j))
section
variable {w w' : World} {A : Option Addr} {n c B : Nat} {l : List Int}
theorem IntV.nil (w : World) (A : Option Addr) : IntV w A 0 [] := ⟨rfl, fun j h => absurd h (by omega)⟩
theorem IntV.keep (h : IntV w A n l) (hk : ∀ b o, A = some ⟨b, o, none⟩ → 0 < n → w'.heap[b]? = w.heap[b]?) : IntV w' A n l :=
  ⟨h.len, fun j hj => by
    obtain ⟨b, o, rfl, hc⟩ := h.at_ j hj
    exact ⟨b, o, rfl, (World.cell?_of_block (hk b o rfl (by omega))).trans hc⟩⟩
theorem IntV.lt (h : IntV w A n l) (hn : 0 < n) {b o : Nat} (ha : A = some ⟨b, o, none⟩) : b < w.heap.size := by
  obtain ⟨b', o', h1, hc⟩ := h.at_ 0 hn
  rw [ha] at h1
  injection h1 with h1
  injection h1 with h1
  subst h1
  exact World.block_lt_of_cell? w _ hc
theorem IntV.below (h : IntV w A n l) (hb : Below w.heap.size w w') : IntV w' A n l := h.keep fun _ _ ha hn => hb.block _ (h.lt hn ha)
theorem IntV.grown {row : Option Nat} (h : IntV w A n l) (hg : w.grownBy w' row) (hne : ∀ b, blk A = some b → row ≠ some b) : IntV w' A n l := h.keep fun b o ha hn => hg.block b (h.lt hn ha) (fun e => hne b (by rw [ha]; rfl) e.symm)
theorem IntV.alloc (h : IntV w A n l) (o : Obj) : IntV (w.alloc o) A n l := h.below ((Below.refl _ _).alloc (Nat.le_refl _) _)
theorem IntV.drewN (h : IntV w A n l) (k : Nat) : IntV (w.drewN k) A n l := h.keep fun _ _ _ _ => rfl
theorem IntV.none_ (h : IntV w none n l) : n = 0 ∧ l = [] := by
  have h0 : n = 0 := by
    rcases Nat.eq_zero_or_pos n with e | e
    · exact e
    · obtain ⟨_, _, e2, _⟩ := h.at_ 0 e
      cases e2
  exact ⟨h0, List.eq_nil_of_length_eq_zero (by rw [h.len, h0])⟩
theorem IntV.take (h : IntV w A n l) {m : Nat} (hm : m ≤ n) : IntV w A m (l.take m) :=
  ⟨by rw [List.length_take, h.len]; omega, fun j hj => by
    obtain ⟨b, o, h1, hc⟩ := h.at_ j (by omega)
    exact ⟨b, o, h1, by rw [nth_take hj]; exact hc⟩⟩
theorem IntV.sub {a : Nat} (h : IntV w A n l) (ha : a ≤ n) (hc : n ≤ c) : IntV w (Go.Proofs.Ytfeflmpdbejhjaa.sub A c a) (n - a) (l.drop a) := by
  refine ⟨by rw [List.length_drop, h.len], fun j hj => ?_⟩
  obtain ⟨b, o, rfl, h1⟩ := h.at_ (a + j) (by omega)
  have e : Go.Proofs.Ytfeflmpdbejhjaa.sub (some ⟨b, o, none⟩) c a = some ⟨b, o + a, none⟩ := by
    unfold Go.Proofs.Ytfeflmpdbejhjaa.sub
    rw [if_neg (by omega), Option.map_some, addr_lit]
  exact ⟨b, o + a, e, by rw [nth_drop, Nat.add_assoc]; exact h1⟩
theorem RowI.read (h : RowI w B A n c l) : IntV w A n l := by
  refine ⟨RowI.len h, fun j hj => ?_⟩
  obtain ⟨g', e, h1, h2⟩ := h.cell (i := 0) (ints_at (by rw [RowI.len h]; exact hj)) (by omega) rfl
  exact ⟨g', 0, e, by rw [Nat.zero_add]; rwa [Nat.mul_one, Nat.add_zero] at h1⟩
theorem RowI.nil (w : World) (B : Nat) : RowI w B none 0 0 [] := RowG.nil w _ _ _
theorem IntV.box {g : Nat} {x : Int} (h : Box w g 3 #[.int .i64 x]) : IntV w (some ⟨g, 0, none⟩) 1 [x] :=
  ⟨rfl, fun j hj => by
    obtain rfl : j = 0 := by omega
    exact ⟨g, 0, rfl, h.cell 0⟩⟩
end
theorem sub_blk {A : Option Addr} {c a b : Nat} (h : blk (sub A c a) = some b) : blk A = some b := by
  unfold sub at h
  split at h
  · exact h
  · cases A with
    | none => cases h
    | some p =>
      have e : (p.add a).block = p.block := by unfold Addr.add; split <;> rfl
      have h2 : some (p.add a).block = some b := h
      rw [e] at h2
      exact h2

theorem intInfo : (Try.prog.info? 3).map (fun i => (i.zero, i.size, i.bytes)) = some (some (.int .i64 0), 1, 8) := by kernel_rfl
theorem ints_app (l r : List Int) : ints (l ++ r) = ints l ++ ints r := by simp [ints]
theorem ints_each (l : List Int) : Each 1 (ints l) := fun v hv => by
  obtain ⟨x, _, rfl⟩ := List.mem_map.1 hv
  exact ⟨rfl, fun u hu => by rw [List.mem_singleton.1 hu]; rfl⟩
theorem ints_flat {l : List Int} {j : Nat} {u : Value} (h : (ints l).flatten[j]? = some u) : j < l.length ∧ u = .int .i64 (nth l j) := by
  have e : (ints l).flatten = l.map (Value.int .i64) := by
    unfold ints
    induction l with
    | nil => rfl
    | cons a l ih =>
      rw [List.map_cons, List.flatten_cons, List.map_cons]
      by_cases hl : True
      · have : (List.map (fun x => [Value.int IntKind.i64 x]) l).flatten = l.map (Value.int .i64) := by
          clear h ih
          induction l with
          | nil => rfl
          | cons b l ih => rw [List.map_cons, List.flatten_cons, List.map_cons, ih]; rfl
        rw [this]; rfl
      · exact absurd trivial hl
  rw [e, List.getElem?_map] at h
  cases hx : l[j]? with
  | none => rw [hx] at h; cases h
  | some x =>
    rw [hx] at h
    injection h with h
    obtain ⟨hj, hv⟩ := List.getElem?_eq_some_iff.1 hx
    exact ⟨hj, by rw [nth_eq hj, hv, h]⟩

/-- l[a :] of ints -/
theorem run_subI_l (A : Option Addr) (n c a : Nat) (h1 : a ≤ n) (W : World) :
    (Instr.slice 27 (.slice A n c) (some (.int .i64 (a : Int))) none none).run Try.prog W = .ok (.slice (sub A c a) (n - a) (c - a)) W := by
  have hz : (sizeOf (Try.prog.elem 27)).run Try.prog W = .ok 1 W := by kernel_rfl
  rw [run_slice_l (P := Try.prog) (t := 27) (ht := by kernel_rfl) (h0 := by omega) (h1 := by omega), hz]
  simp [Result.andThen, sliced, sub]
/-- l[: m] of ints -/
theorem run_subI_h (A : Option Addr) (n c m : Nat) (h1 : m ≤ c) (W : World) :
    (Instr.slice 27 (.slice A n c) none (some (.int .i64 (m : Int))) none).run Try.prog W = .ok (.slice A m c) W := by
  have hz : (sizeOf (Try.prog.elem 27)).run Try.prog W = .ok 1 W := by kernel_rfl
  rw [run_slice_h (P := Try.prog) (t := 27) (ht := by kernel_rfl) (h0 := by omega) (h2 := by omega), hz]
  cases A <;> simp [Result.andThen, sliced, Addr.add]

section
variable {w : World}
/-- append onto ints of the call's own, from any slice of ints. -/
theorem run_appI (ty : TypeId) {B n c : Nat} {A : Option Addr} {l : List Int} (hown : RowI w B A n c l) {X : Option Addr} {m d : Nat} {r : List Int} (hr : IntV w X m r)
    (hsz : n + m ≤ 1099511627776) (hB : B ≤ w.heap.size) :
    ∃ A' c' w', (Builtin.append_ #[27, 27] ty #[.slice A n c, .slice X m d]).run Try.prog w = .ok (.slice A' (n + m) c') w' ∧ RowI w' B A' (n + m) c' (l ++ r) ∧
      w.grownBy w' (blk A) ∧ (blk A' = blk A ∨ blk A' = some w.heap.size) := by
  obtain ⟨i0, hi, hz0, hz1, hz2⟩ := info_parts intInfo
  have hln := RowI.len hown
  have fin : ∀ v' w', w'.ownsRow B 3 1 v' (n + m) (ints (l ++ r)).flatten → (v'.ownBlock = blk A ∨ v'.ownBlock = some w.heap.size) →
      ∃ A' c', v' = .slice A' (n + m) c' ∧ RowI w' B A' (n + m) c' (l ++ r) ∧ (blk A' = blk A ∨ blk A' = some w.heap.size) := by
    intro v' w' ho hl
    have hc : (ints (l ++ r)).length = n + m := by simp [ints, hln, hr.len]
    rcases ho.2 with ⟨rfl, h0⟩ | ⟨g, cap, cur, rfl, _⟩
    · exact ⟨none, 0, by rw [h0], ⟨by rw [h0] at ho ⊢; exact ho, ints_each _, hc⟩, by rw [← own_blk none 0 0]; exact hl⟩
    · exact ⟨some ⟨g, 0, none⟩, cap, rfl, ⟨ho, ints_each _, hc⟩, by rw [← own_blk (some ⟨g, 0, none⟩) (n + m) cap]; exact hl⟩
  cases X with
  | some ad =>
    obtain ⟨v', w', hrun, h2, h3, _, h5⟩ := run_append_own_at (P := Try.prog) w B 27 ty 3 i0 (.int .i64 0) 1 8 Try.underlying27 hi hz0 hz1 hz2 rfl (by omega)
      (.slice A n c) n (ints l).flatten hown.row ad m d (ints r).flatten (by rw [flat_len (ints_each r).len]; simp [ints, hr.len]) (fun j u hu => by
        obtain ⟨hj, rfl⟩ := ints_flat hu
        obtain ⟨b, o, h1, hc⟩ := hr.at_ j (by rw [← hr.len]; exact hj)
        injection h1 with h1
        subst h1
        rw [addr_lit]
        exact hc) (ints_each r).cells (by unfold maxLen; omega) (by omega) hB
    rw [← List.flatten_append, ← ints_app] at h2
    rw [own_blk] at h3 h5
    obtain ⟨A', c', rfl, h6, h7⟩ := fin v' w' h2 h5
    exact ⟨A', c', w', hrun, h6, h3, h7⟩
  | none =>
    obtain ⟨rfl, rfl⟩ := hr.none_
    have hrun : (Builtin.append_ #[27, 27] ty #[.slice A n c, .slice none 0 d]).run Try.prog w = .ok (.slice A n c) w := by
      rcases hown.row.2 with ⟨h1, _⟩ | ⟨g, cap, cur, h1, _, _, hnc, _⟩
      · rw [h1]
        simp [Builtin.append_, run_underlying Try.underlying27, sizeOf, typeInfo, hi, Builtin.lenOf, Builtin.firstCells]
      · rw [h1]
        simp [Builtin.append_, run_underlying Try.underlying27, sizeOf, typeInfo, hi, Builtin.lenOf, Builtin.firstCells, hnc, storeCells]
    exact ⟨A, c, w, hrun, by rw [List.append_nil, Nat.add_zero]; exact hown, World.grownBy.refl w _, .inl rfl⟩

theorem wp_appI {o : Oper} {a : Act} {K : Act → World → Prop} {Q : Exit → Act → World → Prop} (s x : Operand)
    (ho : o.op = .call { callee := .builtin .append, args := #[s, x], argTypes := #[27, 27] })
    (B : Nat) {n c : Nat} {A : Option Addr} {l : List Int} (hs : a.eval s = .slice A n c) (hown : RowI w B A n c l) {X : Option Addr} {m d : Nat} {r : List Int}
    (hx : a.eval x = .slice X m d) (hr : IntV w X m r) (hsz : n + m ≤ 1099511627776) (hB : B ≤ w.heap.size)
    (h : ∀ A' c' w', RowI w' B A' (n + m) c' (l ++ r) → w.grownBy w' (blk A) → Below B w w' → (blk A' = blk A ∨ blk A' = some w.heap.size) →
      K (a.put o.dst (.slice A' (n + m) c')) w') : o.wp Try.prog a w K Q := by
  obtain ⟨A', c', w', hrun, h2, h3, h4⟩ := run_appI o.type hown (d := d) hr hsz hB
  unfold Oper.wp execOp
  simp only [ho, resolve, invoke, builtin, Sem.run_bind, Sem.run_pure, Result.andThen_ok, List.map_toArray, List.map_cons, List.map_nil, hs, hx, hrun]
  exact h A' c' w' h2 h3 ((Below.refl _ _).grown h3 hB fun g hg => (hown.blk_ge g hg).1) h4

theorem wpList_appI {ops : Array Oper} {rest : List Oper} {o : Oper} {a : Act} {Q : Exit → Act → World → Prop} (hgd : o.guard = none) (s x : Operand)
    (ho : o.op = .call { callee := .builtin .append, args := #[s, x], argTypes := #[27, 27] })
    (B : Nat) {n c : Nat} {A : Option Addr} {l : List Int} (hs : a.eval s = .slice A n c) (hown : RowI w B A n c l) {X : Option Addr} {m d : Nat} {r : List Int}
    (hx : a.eval x = .slice X m d) (hr : IntV w X m r) (hsz : n + m ≤ 1099511627776) (hB : B ≤ w.heap.size)
    (h : ∀ A' c' w', RowI w' B A' (n + m) c' (l ++ r) → w.grownBy w' (blk A) → Below B w w' → (blk A' = blk A ∨ blk A' = some w.heap.size) →
      wpList Try.prog ops Q rest (a.put o.dst (.slice A' (n + m) c')) w') : wpList Try.prog ops Q (o :: rest) a w :=
  wpList_plain hgd fun _ hK => wp_appI s x ho B hs hown hx hr hsz hB fun A' c' w' h2 h3 h4 h5 => hK _ _ (h A' c' w' h2 h3 h4 h5)

theorem step_appI {ops : Array Oper} {o : Oper} {a : Act} {K : Act → World → Prop} {Q : Exit → Act → World → Prop} {E : Prop} (hgd : o.guard = none) (s x : Operand)
    (ho : o.op = .call { callee := .builtin .append, args := #[s, x], argTypes := #[27, 27] })
    (B : Nat) {n c : Nat} {A : Option Addr} {l : List Int} (hs : a.eval s = .slice A n c) (hown : RowI w B A n c l) {X : Option Addr} {m d : Nat} {r : List Int}
    (hx : a.eval x = .slice X m d) (hr : IntV w X m r) (hsz : n + m ≤ 1099511627776) (hB : B ≤ w.heap.size)
    (h : ∀ A' c' w', RowI w' B A' (n + m) c' (l ++ r) → w.grownBy w' (blk A) → Below B w w' → (blk A' = blk A ∨ blk A' = some w.heap.size) →
      K (a.put o.dst (.slice A' (n + m) c')) w') :
    if Region.wanted o (yielded ops a.tmps) = true then Oper.wp Try.prog o a w K Q else E := by
  have hw : Region.wanted o (yielded ops a.tmps) = true := by simp [Region.wanted, hgd]
  rw [if_pos hw]
  exact wp_appI s x ho B hs hown hx hr hsz hB h

/-- append onto nil, in a drawn region. -/
theorem step_appI0 {ops : Array Oper} {o : Oper} {a : Act} {K : Act → World → Prop} {Q : Exit → Act → World → Prop} {E : Prop} (hgd : o.guard = none) (s x : Operand)
    (ho : o.op = .call { callee := .builtin .append, args := #[s, x], argTypes := #[27, 27] })
    (hs : a.eval s = .slice none 0 0) {X : Option Addr} {m d : Nat} {r : List Int}
    (hx : a.eval x = .slice X m d) (hr : IntV w X m r) (hsz : m ≤ 1099511627776)
    (h : ∀ A' c' w', RowI w' w.heap.size A' m c' r → Below w.heap.size w w' → K (a.put o.dst (.slice A' m c')) w') :
    if Region.wanted o (yielded ops a.tmps) = true then Oper.wp Try.prog o a w K Q else E :=
  step_appI hgd s x ho w.heap.size hs (RowI.nil w _) hx hr (by omega) (Nat.le_refl _) fun A' c' w' h2 _ h4 h5 => by
    simp only [Nat.zero_add, List.nil_append] at h2 ⊢
    exact h A' c' w' h2 h4
end

theorem intsYes {a b : List Int} (hl : a.length = b.length) (h : ∀ j, j < a.length → nth a j = nth b j) : decide (a = b) = true := decide_eq_true (ext_nth hl h)
theorem intsNo {a b : List Int} {j : Nat} (h : nth a j ≠ nth b j) : decide (a = b) = false := decide_eq_false fun e => h (by rw [e])
set_option maxHeartbeats 400000 in
theorem sameInts_any (A X : Option Addr) (n c m d : Nat) (a b : List Int) (w : World) (ha : IntV w A n a) (hb : IntV w X m b) (hn : n ≤ 9223372036854775807) (hm : m ≤ 9223372036854775807) :
    Calls Try.prog 13 #[.slice A n c, .slice X m d] w fun e w' => e = .returned (.bool (decide (a = b))) ∧ ∃ q, w' = w.drewN q := by
  have HA := hide ha.len
  have HB := hide hb.len
  by_cases hnm : n = m
  · subst hnm
    go_enter Try.func13, Try.ntmps13
    go_wp2_with fail
    go_loopw [5] (fun i wr => ∃ k q : Nat, k ≤ n ∧ i = .int .i64 k ∧ wr = w.drewN q ∧ Hid (∀ j, j < k → nth a j = nth b j)) (fun i _ => n - (intOf i).toNat)
    case atStart => exact ⟨0, 0, Nat.zero_le _, rfl, rfl, fun j hj => absurd hj (by omega)⟩
    case round =>
      obtain ⟨k, q, hk, rfl, rfl, hj⟩ := hrel
      by_cases hlt : k < n
      · obtain ⟨ab, ao, rfl, hc⟩ := ha.at_ k hlt
        obtain ⟨bb, bo, rfl, hd⟩ := hb.at_ k hlt
        have h1 : (k : Int) < (n : Int) := by omega
        have h0 : (0 : Int) ≤ (k : Int) := by omega
        by_cases hs : nth a k = nth b k
        · have HS := hide hs
          have hs' : (nth a k != nth b k) = false := by rw [hs]; simp
          clear hs
          go_wp2_with fail
          go_quiet (fail)
          go_wp2
          go_roundw
          case rel => exact ⟨k + 1, _, by omega, by go_num, rfl, fun j h' => (by
            rcases Nat.lt_succ_iff_lt_or_eq.1 h' with h1 | h1
            · exact hj.out j h1
            · rw [h1]; exact HS.out)⟩
          case measure => simp [intOf]; omega
        · have HS := hide hs
          have hs' : (nth a k != nth b k) = true := by simpa using hs
          clear hs
          go_wp2_with fail
          go_quiet (fail)
          go_wp2
          go_ret
          exact ⟨retB (intsNo HS.out).symm, _, World.drewN_drewN _ _ _⟩
      · go_wp2
        go_ret
        exact ⟨retB (intsYes (by rw [HA.out, HB.out]) (fun j h' => hj.out j (by have := HA.out; omega))).symm, _, rfl⟩
  · have hs' : ((n : Int) != (m : Int)) = true := by simp; omega
    have HE := hide hnm
    go_enter Try.func13, Try.ntmps13
    go_wp2
    go_ret
    exact ⟨retB (decide_eq_false (fun e => HE.out (by rw [← HA.out, ← HB.out, e]))).symm, 0, rfl⟩

/-- The place of an element, -1: none. -/
def idxI (x : Int) (l : List Int) : Int := match l.findIdx? (fun y => decide (y = x)) with | some i => (i : Int) | none => -1
theorem idxI_at {x : Int} {l : List Int} {k : Nat} (hk : k < l.length) (h : nth l k = x) (hj : ∀ j, j < k → nth l j ≠ x) : idxI x l = (k : Int) := by
  have : l.findIdx? (fun y => decide (y = x)) = some k := by
    rw [List.findIdx?_eq_some_iff_getElem]
    refine ⟨hk, by rw [← nth_eq hk]; exact decide_eq_true h, fun j hlt => ?_⟩
    have := hj j hlt
    rw [nth_eq (by omega)] at this
    simp [this]
  simp [idxI, this]
theorem idxI_no {x : Int} {l : List Int} (hj : ∀ j, j < l.length → nth l j ≠ x) : idxI x l = -1 := by
  have : l.findIdx? (fun y => decide (y = x)) = none := by
    rw [List.findIdx?_eq_none_iff]
    intro y hy
    obtain ⟨j, hlt, rfl⟩ := mem_nth hy
    exact decide_eq_false (hj j hlt)
  simp [idxI, this]
set_option maxHeartbeats 400000 in
theorem indexI_any (A : Option Addr) (n c : Nat) (x : Int) (l : List Int) (w : World) (h : IntV w A n l) (hn : n ≤ 9223372036854775807) :
    Calls Try.prog 26 #[.slice A n c, .int .i64 x] w fun e w' => e = .returned (.int .i64 (idxI x l)) ∧ w = w' := by
  have HL := hide h.len
  go_enter Try.func26, Try.ntmps26
  go_wp2_with fail
  go_loop [5, 8] (fun _ i => ∃ k : Nat, k ≤ n ∧ i = .int .i64 k ∧ Hid (∀ j, j < k → nth l j ≠ x)) (fun _ i => n - (intOf i).toNat)
  case atStart => exact ⟨0, Nat.zero_le _, rfl, fun j hj => absurd hj (by omega)⟩
  case round =>
    obtain ⟨k, hk, rfl, hj⟩ := hrel
    by_cases hlt : k < n
    · obtain ⟨ab, ao, rfl, hc⟩ := h.at_ k hlt
      have h1 : (k : Int) < (n : Int) := by omega
      have h0 : (0 : Int) ≤ (k : Int) := by omega
      by_cases hs : x = nth l k
      · have HS := hide hs
        have hs' : (x == nth l k) = true := by rw [hs]; simp
        clear hs
        go_wp2_with fail
        go_ret
        exact ⟨retI (idxI_at (by rw [HL.out]; exact hlt) HS.out.symm hj.out).symm, rfl⟩
      · have HS := hide hs
        have hs' : (x == nth l k) = false := by simpa using hs
        clear hs
        go_wp2_with fail
        go_round
        case rel => exact ⟨k + 1, by omega, by go_num, fun j h' => (by
          rcases Nat.lt_succ_iff_lt_or_eq.1 h' with h1 | h1
          · exact hj.out j h1
          · rw [h1]; exact fun e => HS.out e.symm)⟩
        case measure => simp [intOf]; omega
    · go_wp2_with fail
      go_ret
      exact ⟨retI (idxI_no (fun j h' => hj.out j (by have := HL.out; omega))).symm, rfl⟩
end Go.Proofs.Ytfeflmpdbejhjaa
