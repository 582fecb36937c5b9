/- Rows of items of the call's own; append onto a path; what With hands to the walk. -/
import Derived.Test.YtchcpeenpijekaaTriE
import Derived.Test.YtchcpeenpijekaaSrtKN
namespace Go.Proofs.Ytchcpeenpijekaa
open Go.RowKit Go.Maps Go.MapKept Go.ChangeMaps Go.Shelf
set_option linter.unusedVariables false

/-- Only blocks of S have turned, and what is new. -/
structure KeepS (S : Nat → Prop) (w w' : World) : Prop where
  os : w'.os = w.os
  tape : w'.tape = w.tape
  output : w'.output = w.output
  size : w.heap.size ≤ w'.heap.size
  block : ∀ g, g < w.heap.size → ¬ S g → w'.heap[g]? = w.heap[g]?
section
variable {S S' : Nat → Prop} {w w1 w2 : World}
theorem KeepS.refl (S : Nat → Prop) (w : World) : KeepS S w w := ⟨rfl, rfl, rfl, Nat.le_refl _, fun _ _ _ => rfl⟩
theorem KeepS.of_below (h : Below w.heap.size w w1) : KeepS S w w1 := ⟨h.os, h.tape, h.output, h.size, fun g hg _ => h.block g hg⟩
theorem KeepS.trans (h : KeepS S w w1) (h2 : KeepS S' w1 w2) (hs : ∀ g, S' g → S g ∨ w.heap.size ≤ g) : KeepS S w w2 :=
  ⟨h2.os.trans h.os, h2.tape.trans h.tape, h2.output.trans h.output, Nat.le_trans h.size h2.size, fun g hg hn => (h2.block g (Nat.lt_of_lt_of_le hg h.size) fun e => by
    rcases hs g e with h3 | h3
    · exact hn h3
    · omega).trans (h.block g hg hn)⟩
theorem KeepS.mono (h : KeepS S w w1) (hs : ∀ g, S g → S' g) : KeepS S' w w1 := ⟨h.os, h.tape, h.output, h.size, fun g hg hn => h.block g hg fun e => hn (hs g e)⟩
theorem KeepS.grown (h : KeepS S w w1) {g : Nat} (hg : S g ∨ w.heap.size ≤ g) (h2 : w1.grownBy w2 (some g)) : KeepS S w w2 :=
  ⟨h2.os.trans h.os, h2.tape.trans h.tape, h2.output.trans h.output, Nat.le_trans h.size h2.size, fun i hi hn => (h2.block i (Nat.lt_of_lt_of_le hi h.size) fun e => by
    injection e with e
    rcases hg with hg | hg
    · exact hn (e ▸ hg)
    · omega).trans (h.block i hi hn)⟩
theorem KeepS.set (h : KeepS S w w1) {a : Addr} (hg : S a.block ∨ w.heap.size ≤ a.block) (u : Value) : KeepS S w (w1.setCell a u) := h.grown hg (set_grown w1 a u)
theorem KeepS.next (h : KeepS S w w1) (h2 : Below w1.heap.size w1 w2) : KeepS S w w2 := h.trans (KeepS.of_below (S := fun _ => False) h2) fun g e => e.elim
theorem KeepS.below (h : KeepS S w w1) {B : Nat} (hB : ∀ g, S g → B ≤ g) (hw : B ≤ w.heap.size) : Below B w w1 := ⟨h.os, h.tape, h.output, h.size, fun g hg => h.block g (by omega) fun e => by have := hB g e; omega⟩
theorem KeepS.own (h : KeepS S w w1) {B n c : Nat} {A : Option Addr} {l : List Int} (ho : Own w B A n c l) (hs : ∀ g, blk A = some g → ¬ S g) : Own w1 B A n c l :=
  ho.keep fun g e => h.block g (ho.blk_ge g (by rw [e]; rfl)).2 (hs g (by rw [e]; rfl))
theorem KeepS.rowG (h : KeepS S w w1) {et : TypeId} {sz B n c : Nat} {A : Option Addr} {vs : List (List Value)} (ho : RowG w et sz B A n c vs) (hs : ∀ g, blk A = some g → ¬ S g) : RowG w1 et sz B A n c vs :=
  ho.keep fun g e => h.block g (ho.blk_ge g e).2 (hs g e)
theorem KeepS.box (h : KeepS S w w1) {g : Nat} {t : TypeId} {cs : Array Value} (hb : Box w g t cs) (hs : ¬ S g) : Box w1 g t cs := (h.block g hb.lt hs).trans hb
end

/-- What the block of a row of runes is; of a row of anything. -/
theorem Own.obj {w : World} {B n c g : Nat} {A : Option Addr} {l : List Int} (h : Own w B A n c l) (hA : blk A = some g) : ∃ cur, w.heap[g]? = some (.cells cur 21 (0, 0)) := by
  rcases h.row.2 with ⟨h1, _⟩ | ⟨g', cap, cur, h1, hB, hg, _⟩
  · injection h1 with h1
    rw [h1] at hA
    cases hA
  · injection h1 with h1
    rw [h1] at hA
    injection hA with hA
    have hA : g' = g := hA
    subst hA
    exact ⟨cur, hg⟩
theorem RowG.obj {w : World} {et : TypeId} {sz B n c g : Nat} {A : Option Addr} {vs : List (List Value)} (h : RowG w et sz B A n c vs) (hA : blk A = some g) : ∃ cur, w.heap[g]? = some (.cells cur et (0, 0)) := by
  rcases h.row.2 with ⟨h1, _⟩ | ⟨g', cap, cur, h1, hB, hg, _⟩
  · injection h1 with h1
    rw [h1] at hA
    cases hA
  · injection h1 with h1
    rw [h1] at hA
    injection hA with hA
    have hA : g' = g := hA
    subst hA
    exact ⟨cur, hg⟩
theorem Own.takeP {w : World} {B n c : Nat} {A : Option Addr} {l : List Int} (h : Own w B A n c l) {m : Nat} (hm : m ≤ n) : Own w B A m c (l.take m) := by
  refine ⟨⟨by have := h.len; simp [cells32]; omega, ?_⟩, h.wf.take m⟩
  rcases h.row.2 with ⟨h1, h2⟩ | ⟨g, cap, cur, h1, hB, hg, h3, h4, h5, h6⟩
  · injection h1 with h1 h7 h8
    subst h1 h8
    obtain rfl : m = 0 := by omega
    exact .inl ⟨rfl, rfl⟩
  · injection h1 with h1 h7 h8
    subst h1 h8
    refine .inr ⟨g, c, cur, rfl, hB, hg, by omega, h4, h5, ?_⟩
    have := congrArg (List.take m) h6
    rw [List.take_take, cells32, ← List.map_take] at this
    rw [← cells32] at this
    rw [← this]
    congr 1
    omega

set_option maxRecDepth 20000 in
/-- append of one rune onto runes of the call's own: in place, or in a new block; what was there stays. -/
theorem run_app1 {w : World} (ty : TypeId) {B n c : Nat} {A : Option Addr} {l : List Int} (hown : Own w B A n c l) {ad : Addr} {d : Nat} {r : Int} (hr : Runes w (some ad) 1 [r]) (hsz : n + 1 ≤ 35184372088832) (hB : B ≤ w.heap.size) :
    ∃ A' c' w', (Builtin.append_ #[29, 29] ty #[.slice A n c, .slice (some ad) 1 d]).run Try.prog w = .ok (.slice A' (n + 1) c') w' ∧ Own w' B A' (n + 1) c' (l ++ [r]) ∧ Own w' B A n c l ∧
      ((A' = A ∧ c' = c ∧ w.grownBy w' (blk A)) ∨ ((∀ g, blk A' = some g → w.heap.size ≤ g) ∧ Below w.heap.size w w')) := by
  obtain ⟨i0, hi, hz0, hz1, hz2⟩ := info_parts runeInfo
  have hnew : ∀ (j : Nat) u, (cells32 [r])[j]? = some u → w.cell? (ad.add j) = some u := fun j u hu => by
    obtain ⟨hj, rfl⟩ := cells32_at hu
    obtain ⟨b, o, h1, hc⟩ := hr.at_ j hj
    injection h1 with h1
    subst h1
    rw [addr_lit]
    exact hc
  have hwf := hown.wf.app hr.wf
  by_cases hroom : (∃ g, A = some ⟨g, 0, none⟩) ∧ n + 1 ≤ c
  · obtain ⟨⟨g, rfl⟩, hroom⟩ := hroom
    obtain ⟨w', hrun, h2, h3⟩ := run_append_fits (P := Try.prog) w B 29 ty 21 i0 1 Try.underlying29 hi hz1 g n c (cells32 l) hown.row ad 1 d (cells32 [r]) (by simp [cells32]) hnew cells32_one hroom
    rw [← cells32_app] at h2
    have ho : Own w' B (some ⟨g, 0, none⟩) (n + 1) c (l ++ [r]) := ⟨h2, hwf⟩
    refine ⟨_, c, w', hrun, ho, ?_, .inl ⟨rfl, rfl, h3⟩⟩
    have := ho.takeP (m := n) (by omega)
    rwa [List.take_append_of_le_length (by rw [hown.len]; exact Nat.le_refl _), List.take_of_length_le (by rw [hown.len]; exact Nat.le_refl _)] at this
  · obtain ⟨A', c', w', hrun, h2, _, h4, _⟩ := run_app (w := w) ty hown (d := d) hr (by omega) hB
    have hbelow : Below w.heap.size w w' ∧ ∀ g, blk A' = some g → w.heap.size ≤ g := by
      rcases hown.form with ⟨rfl, rfl, rfl⟩ | ⟨g, rfl, _, _⟩
      · have hr2 := run_append_nil (P := Try.prog) w 29 ty 21 i0 (.int .i32 0) Try.underlying29 hi hz0 ad 1 d (cells32 [r]) (by rw [hz1]; simp [cells32]) hnew (by omega) (by omega) (by rw [hz2]; omega)
        rw [hrun] at hr2
        injection hr2 with e1 e2
        injection e1 with e1
        subst e1 e2
        exact ⟨⟨rfl, rfl, rfl, by simp, fun k hk => Below.heap_alloc w.drew _ k hk⟩, fun g hg => by injection hg with hg; have hg : w.heap.size = g := hg; omega⟩
      · have hcap := hown.cap
        have hlt : c < n + 1 := by
          by_cases h : n + 1 ≤ c
          · exact absurd ⟨⟨g, rfl⟩, h⟩ hroom
          · omega
        have hr2 := run_append_grow (P := Try.prog) w 29 ty 21 i0 (.int .i32 0) Try.underlying29 hi hz0 ⟨g, 0, none⟩ n c (cells32 l) (by rw [hz1, Nat.mul_one]; simp [cells32, hown.len]) (hown.row.cells (g := g) rfl) ad 1 d (cells32 [r]) (by rw [hz1]; simp [cells32]) hnew hlt (by omega) (growslice_fits hlt (by rw [hz2]; omega))
        rw [hrun] at hr2
        injection hr2 with e1 e2
        injection e1 with e1
        subst e1 e2
        exact ⟨⟨rfl, rfl, rfl, by simp, fun k hk => Below.heap_alloc w.drew _ k hk⟩, fun g hg => by injection hg with hg; have hg : w.heap.size = g := hg; omega⟩
    exact ⟨A', c', w', hrun, h2, hown.below hbelow.1, .inr ⟨hbelow.2, hbelow.1⟩⟩

theorem wpList_app1 {w : World} {ops : Array Oper} {rest : List Oper} {o : Oper} {a : Act} {Q : Exit → Act → World → Prop} (hgd : o.guard = none) (s x : Operand)
    (ho : o.op = .call { callee := .builtin .append, args := #[s, x], argTypes := #[29, 29] })
    (B : Nat) {n c : Nat} {A : Option Addr} {l : List Int} (hs : a.eval s = .slice A n c) (hown : Own w B A n c l) {ad : Addr} {d : Nat} {r : Int}
    (hx : a.eval x = .slice (some ad) 1 d) (hr : Runes w (some ad) 1 [r]) (hsz : n + 1 ≤ 35184372088832) (hB : B ≤ w.heap.size)
    (h : ∀ A' c' w', Own w' B A' (n + 1) c' (l ++ [r]) → Own w' B A n c l → ((A' = A ∧ c' = c ∧ w.grownBy w' (blk A)) ∨ ((∀ g, blk A' = some g → w.heap.size ≤ g) ∧ Below w.heap.size w w')) →
      wpList Try.prog ops Q rest (a.put o.dst (.slice A' (n + 1) c')) w') : wpList Try.prog ops Q (o :: rest) a w :=
  wpList_plain hgd fun _ hK => by
    obtain ⟨A', c', w', hrun, h2, h3, h4⟩ := run_app1 o.type hown (d := d) hr hsz hB
    unfold Oper.wp execOp
    simp only [ho, resolve, invoke, builtin, Sem.run_bind, Sem.run_pure, Result.andThen_ok, List.map_toArray, List.map_cons, List.map_nil, hs, hx, hrun]
    exact hK _ _ (h A' c' w' h2 h3 h4)
theorem step_app1 {w : World} {ops : Array Oper} {o : Oper} {a : Act} {K : Act → World → Prop} {Q : Exit → Act → World → Prop} {E : Prop} (hgd : o.guard = none) (s x : Operand)
    (ho : o.op = .call { callee := .builtin .append, args := #[s, x], argTypes := #[29, 29] })
    (B : Nat) {n c : Nat} {A : Option Addr} {l : List Int} (hs : a.eval s = .slice A n c) (hown : Own w B A n c l) {ad : Addr} {d : Nat} {r : Int}
    (hx : a.eval x = .slice (some ad) 1 d) (hr : Runes w (some ad) 1 [r]) (hsz : n + 1 ≤ 35184372088832) (hB : B ≤ w.heap.size)
    (h : ∀ A' c' w', Own w' B A' (n + 1) c' (l ++ [r]) → Own w' B A n c l → ((A' = A ∧ c' = c ∧ w.grownBy w' (blk A)) ∨ ((∀ g, blk A' = some g → w.heap.size ≤ g) ∧ Below w.heap.size w w')) →
      K (a.put o.dst (.slice A' (n + 1) c')) w') : if Region.wanted o (yielded ops a.tmps) = true then Oper.wp Try.prog o a w K Q else E := by
  have hw : Region.wanted o (yielded ops a.tmps) = true := by simp [Region.wanted, hgd]
  rw [if_pos hw]
  obtain ⟨A', c', w', hrun, h2, h3, h4⟩ := run_app1 o.type hown (d := d) hr hsz hB
  unfold Oper.wp execOp
  simp only [ho, resolve, invoke, builtin, Sem.run_bind, Sem.run_pure, Result.andThen_ok, List.map_toArray, List.map_cons, List.map_nil, hs, hx, hrun]
  exact h A' c' w' h2 h3 h4
/-- An item: its word's slice, its count, its word. -/
structure IV where
  A : Option Addr
  n : Nat
  c : Nat
  k : Nat
  t : List Int
def IV.cells (u : IV) : List Value := [.slice u.A u.n u.c, .int .i64 (u.k : Nat)]
def IV.itm (u : IV) : Itm := (u.t, u.k)
theorem IV.one (u : IV) : u.cells.length = 2 ∧ ∀ v ∈ u.cells, v.oneCell' = true := ⟨rfl, fun v hv => by
  unfold IV.cells at hv
  simp at hv
  rcases hv with rfl | rfl <;> rfl⟩
theorem itemT : RowT 26 49 2 32 := ⟨Try.underlying26, ⟨.agg #[.slice none 0 0, .int .i64 0], by kernel_rfl, by kernel_rfl⟩, by omega⟩
/-- A row of items of the call's own; the words too, each for itself. -/
structure ItemsO (w : World) (B : Nat) (A : Option Addr) (n c : Nat) (us : List IV) : Prop where
  row : RowG w 49 2 B A n c (us.map IV.cells)
  own : ∀ u ∈ us, Own w B u.A u.n u.c u.t
  ap : us.Pairwise fun u v => Apart u.A v.A
section
variable {w w' : World} {B n c : Nat} {A : Option Addr} {us : List IV}
theorem ItemsO.nil (w : World) (B : Nat) : ItemsO w B none 0 0 [] := ⟨RowG.nil _ _ _ _, (fun u hu => by cases hu), List.Pairwise.nil⟩
theorem ItemsO.below (h : ItemsO w B A n c us) (hb : Below w.heap.size w w') : ItemsO w' B A n c us := ⟨h.row.below hb, fun u hu => (h.own u hu).below hb, h.ap⟩
theorem ItemsO.mono (h : ItemsO w B A n c us) {B' : Nat} (hB : B' ≤ B) : ItemsO w B' A n c us := ⟨h.row.mono hB, fun u hu => (h.own u hu).mono hB, h.ap⟩
theorem ItemsO.len (h : ItemsO w B A n c us) : us.length = n := by have := h.row.cnt; simpa using this
end
end Go.Proofs.Ytchcpeenpijekaa
