/- Pieces, joined: TriF, TriG, TriH. -/
import Derived.Test.YtchcpeenpijekaaQ11
import Derived.Test.YtchcpeenpijekaaQ18
import Derived.StillTailTactics

/- Rows of items of the call's own; append onto a path; what With hands to the walk. -/
namespace Go.Proofs.Ytchcpeenpijekaa
open Go.RowKit Go.Maps Go.MapKept Go.ChangeMaps Go.Shelf
set_option linter.unusedVariables false

/-- Only blocks of S have turned, and what is new. -/
structure KeepS (S : Nat → Prop) (w w' : World) : Prop where
  os : w'.os = w.os
  tape : w'.tape = w.tape
  output : w'.output = w.output
  size : w.heap.size ≤ w'.heap.size
  block : ∀ g, g < w.heap.size → ¬ S g → w'.heap[g]? = w.heap[g]?
section
variable {S S' : Nat → Prop} {w w1 w2 : World}
theorem KeepS.refl (S : Nat → Prop) (w : World) : KeepS S w w := ⟨rfl, rfl, rfl, Nat.le_refl _, fun _ _ _ => rfl⟩
theorem KeepS.of_below (h : Below w.heap.size w w1) : KeepS S w w1 := ⟨h.os, h.tape, h.output, h.size, fun g hg _ => h.block g hg⟩
theorem KeepS.trans (h : KeepS S w w1) (h2 : KeepS S' w1 w2) (hs : ∀ g, S' g → S g ∨ w.heap.size ≤ g) : KeepS S w w2 :=
  ⟨h2.os.trans h.os, h2.tape.trans h.tape, h2.output.trans h.output, Nat.le_trans h.size h2.size, fun g hg hn => (h2.block g (Nat.lt_of_lt_of_le hg h.size) fun e => by
    rcases hs g e with h3 | h3
    · exact hn h3
    · omega).trans (h.block g hg hn)⟩
theorem KeepS.mono (h : KeepS S w w1) (hs : ∀ g, S g → S' g) : KeepS S' w w1 := ⟨h.os, h.tape, h.output, h.size, fun g hg hn => h.block g hg fun e => hn (hs g e)⟩
theorem KeepS.grown (h : KeepS S w w1) {g : Nat} (hg : S g ∨ w.heap.size ≤ g) (h2 : w1.grownBy w2 (some g)) : KeepS S w w2 :=
  ⟨h2.os.trans h.os, h2.tape.trans h.tape, h2.output.trans h.output, Nat.le_trans h.size h2.size, fun i hi hn => (h2.block i (Nat.lt_of_lt_of_le hi h.size) fun e => by
    injection e with e
    rcases hg with hg | hg
    · exact hn (e ▸ hg)
    · omega).trans (h.block i hi hn)⟩
theorem KeepS.set (h : KeepS S w w1) {a : Addr} (hg : S a.block ∨ w.heap.size ≤ a.block) (u : Value) : KeepS S w (w1.setCell a u) := h.grown hg (set_grown w1 a u)
theorem KeepS.next (h : KeepS S w w1) (h2 : Below w1.heap.size w1 w2) : KeepS S w w2 := h.trans (KeepS.of_below (S := fun _ => False) h2) fun g e => e.elim
theorem KeepS.below (h : KeepS S w w1) {B : Nat} (hB : ∀ g, S g → B ≤ g) (hw : B ≤ w.heap.size) : Below B w w1 := ⟨h.os, h.tape, h.output, h.size, fun g hg => h.block g (by omega) fun e => by have := hB g e; omega⟩
theorem KeepS.own (h : KeepS S w w1) {B n c : Nat} {A : Option Addr} {l : List Int} (ho : Own w B A n c l) (hs : ∀ g, blk A = some g → ¬ S g) : Own w1 B A n c l :=
  ho.keep fun g e => h.block g (ho.blk_ge g (by rw [e]; rfl)).2 (hs g (by rw [e]; rfl))
theorem KeepS.rowG (h : KeepS S w w1) {et : TypeId} {sz B n c : Nat} {A : Option Addr} {vs : List (List Value)} (ho : RowG w et sz B A n c vs) (hs : ∀ g, blk A = some g → ¬ S g) : RowG w1 et sz B A n c vs :=
  ho.keep fun g e => h.block g (ho.blk_ge g e).2 (hs g e)
theorem KeepS.box (h : KeepS S w w1) {g : Nat} {t : TypeId} {cs : Array Value} (hb : Box w g t cs) (hs : ¬ S g) : Box w1 g t cs := (h.block g hb.lt hs).trans hb
end

/-- What the block of a row of runes is; of a row of anything. -/
theorem Own.obj {w : World} {B n c g : Nat} {A : Option Addr} {l : List Int} (h : Own w B A n c l) (hA : blk A = some g) : ∃ cur, w.heap[g]? = some (.cells cur 21 (0, 0)) := by
  rcases h.row.2 with ⟨h1, _⟩ | ⟨g', cap, cur, h1, hB, hg, _⟩
  · injection h1 with h1
    rw [h1] at hA
    cases hA
  · injection h1 with h1
    rw [h1] at hA
    injection hA with hA
    have hA : g' = g := hA
    subst hA
    exact ⟨cur, hg⟩
theorem RowG.obj {w : World} {et : TypeId} {sz B n c g : Nat} {A : Option Addr} {vs : List (List Value)} (h : RowG w et sz B A n c vs) (hA : blk A = some g) : ∃ cur, w.heap[g]? = some (.cells cur et (0, 0)) := by
  rcases h.row.2 with ⟨h1, _⟩ | ⟨g', cap, cur, h1, hB, hg, _⟩
  · injection h1 with h1
    rw [h1] at hA
    cases hA
  · injection h1 with h1
    rw [h1] at hA
    injection hA with hA
    have hA : g' = g := hA
    subst hA
    exact ⟨cur, hg⟩
theorem Own.takeP {w : World} {B n c : Nat} {A : Option Addr} {l : List Int} (h : Own w B A n c l) {m : Nat} (hm : m ≤ n) : Own w B A m c (l.take m) := by
  refine ⟨⟨by have := h.len; simp [cells32]; omega, ?_⟩, h.wf.take m⟩
  rcases h.row.2 with ⟨h1, h2⟩ | ⟨g, cap, cur, h1, hB, hg, h3, h4, h5, h6⟩
  · injection h1 with h1 h7 h8
    subst h1 h8
    obtain rfl : m = 0 := by omega
    exact .inl ⟨rfl, rfl⟩
  · injection h1 with h1 h7 h8
    subst h1 h8
    refine .inr ⟨g, c, cur, rfl, hB, hg, by omega, h4, h5, ?_⟩
    have := congrArg (List.take m) h6
    rw [List.take_take, cells32, ← List.map_take] at this
    rw [← cells32] at this
    rw [← this]
    congr 1
    omega

set_option maxRecDepth 20000 in
/-- append of one rune onto runes of the call's own: in place, or in a new block; what was there stays. -/
theorem run_app1 {w : World} (ty : TypeId) {B n c : Nat} {A : Option Addr} {l : List Int} (hown : Own w B A n c l) {ad : Addr} {d : Nat} {r : Int} (hr : Runes w (some ad) 1 [r]) (hsz : n + 1 ≤ 35184372088832) (hB : B ≤ w.heap.size) :
    ∃ A' c' w', (Builtin.append_ #[29, 29] ty #[.slice A n c, .slice (some ad) 1 d]).run Try.prog w = .ok (.slice A' (n + 1) c') w' ∧ Own w' B A' (n + 1) c' (l ++ [r]) ∧ Own w' B A n c l ∧
      ((A' = A ∧ c' = c ∧ w.grownBy w' (blk A)) ∨ ((∀ g, blk A' = some g → w.heap.size ≤ g) ∧ Below w.heap.size w w')) := by
  obtain ⟨i0, hi, hz0, hz1, hz2⟩ := info_parts runeInfo
  have hnew : ∀ (j : Nat) u, (cells32 [r])[j]? = some u → w.cell? (ad.add j) = some u := fun j u hu => by
    obtain ⟨hj, rfl⟩ := cells32_at hu
    obtain ⟨b, o, h1, hc⟩ := hr.at_ j hj
    injection h1 with h1
    subst h1
    rw [addr_lit]
    exact hc
  have hwf := hown.wf.app hr.wf
  by_cases hroom : (∃ g, A = some ⟨g, 0, none⟩) ∧ n + 1 ≤ c
  · obtain ⟨⟨g, rfl⟩, hroom⟩ := hroom
    obtain ⟨w', hrun, h2, h3⟩ := run_append_fits (P := Try.prog) w B 29 ty 21 i0 1 Try.underlying29 hi hz1 g n c (cells32 l) hown.row ad 1 d (cells32 [r]) (by simp [cells32]) hnew cells32_one hroom
    rw [← cells32_app] at h2
    have ho : Own w' B (some ⟨g, 0, none⟩) (n + 1) c (l ++ [r]) := ⟨h2, hwf⟩
    refine ⟨_, c, w', hrun, ho, ?_, .inl ⟨rfl, rfl, h3⟩⟩
    have := ho.takeP (m := n) (by omega)
    rwa [List.take_append_of_le_length (by rw [hown.len]; exact Nat.le_refl _), List.take_of_length_le (by rw [hown.len]; exact Nat.le_refl _)] at this
  · obtain ⟨A', c', w', hrun, h2, _, h4, _⟩ := run_app (w := w) ty hown (d := d) hr (by omega) hB
    have hbelow : Below w.heap.size w w' ∧ ∀ g, blk A' = some g → w.heap.size ≤ g := by
      rcases hown.form with ⟨rfl, rfl, rfl⟩ | ⟨g, rfl, _, _⟩
      · have hr2 := run_append_nil (P := Try.prog) w 29 ty 21 i0 (.int .i32 0) Try.underlying29 hi hz0 ad 1 d (cells32 [r]) (by rw [hz1]; simp [cells32]) hnew (by omega) (by omega) (by rw [hz2]; omega)
        rw [hrun] at hr2
        injection hr2 with e1 e2
        injection e1 with e1
        subst e1 e2
        exact ⟨⟨rfl, rfl, rfl, by simp, fun k hk => Below.heap_alloc w.drew _ k hk⟩, fun g hg => by injection hg with hg; have hg : w.heap.size = g := hg; omega⟩
      · have hcap := hown.cap
        have hlt : c < n + 1 := by
          by_cases h : n + 1 ≤ c
          · exact absurd ⟨⟨g, rfl⟩, h⟩ hroom
          · omega
        have hr2 := run_append_grow (P := Try.prog) w 29 ty 21 i0 (.int .i32 0) Try.underlying29 hi hz0 ⟨g, 0, none⟩ n c (cells32 l) (by rw [hz1, Nat.mul_one]; simp [cells32, hown.len]) (hown.row.cells (g := g) rfl) ad 1 d (cells32 [r]) (by rw [hz1]; simp [cells32]) hnew hlt (by omega) (growslice_fits hlt (by rw [hz2]; omega))
        rw [hrun] at hr2
        injection hr2 with e1 e2
        injection e1 with e1
        subst e1 e2
        exact ⟨⟨rfl, rfl, rfl, by simp, fun k hk => Below.heap_alloc w.drew _ k hk⟩, fun g hg => by injection hg with hg; have hg : w.heap.size = g := hg; omega⟩
    exact ⟨A', c', w', hrun, h2, hown.below hbelow.1, .inr ⟨hbelow.2, hbelow.1⟩⟩

theorem wpList_app1 {w : World} {ops : Array Oper} {rest : List Oper} {o : Oper} {a : Act} {Q : Exit → Act → World → Prop} (hgd : o.guard = none) (s x : Operand)
    (ho : o.op = .call { callee := .builtin .append, args := #[s, x], argTypes := #[29, 29] })
    (B : Nat) {n c : Nat} {A : Option Addr} {l : List Int} (hs : a.eval s = .slice A n c) (hown : Own w B A n c l) {ad : Addr} {d : Nat} {r : Int}
    (hx : a.eval x = .slice (some ad) 1 d) (hr : Runes w (some ad) 1 [r]) (hsz : n + 1 ≤ 35184372088832) (hB : B ≤ w.heap.size)
    (h : ∀ A' c' w', Own w' B A' (n + 1) c' (l ++ [r]) → Own w' B A n c l → ((A' = A ∧ c' = c ∧ w.grownBy w' (blk A)) ∨ ((∀ g, blk A' = some g → w.heap.size ≤ g) ∧ Below w.heap.size w w')) →
      wpList Try.prog ops Q rest (a.put o.dst (.slice A' (n + 1) c')) w') : wpList Try.prog ops Q (o :: rest) a w :=
  wpList_plain hgd fun _ hK => by
    obtain ⟨A', c', w', hrun, h2, h3, h4⟩ := run_app1 o.type hown (d := d) hr hsz hB
    unfold Oper.wp execOp
    simp only [ho, resolve, invoke, builtin, Sem.run_bind, Sem.run_pure, Result.andThen_ok, List.map_toArray, List.map_cons, List.map_nil, hs, hx, hrun]
    exact hK _ _ (h A' c' w' h2 h3 h4)
theorem step_app1 {w : World} {ops : Array Oper} {o : Oper} {a : Act} {K : Act → World → Prop} {Q : Exit → Act → World → Prop} {E : Prop} (hgd : o.guard = none) (s x : Operand)
    (ho : o.op = .call { callee := .builtin .append, args := #[s, x], argTypes := #[29, 29] })
    (B : Nat) {n c : Nat} {A : Option Addr} {l : List Int} (hs : a.eval s = .slice A n c) (hown : Own w B A n c l) {ad : Addr} {d : Nat} {r : Int}
    (hx : a.eval x = .slice (some ad) 1 d) (hr : Runes w (some ad) 1 [r]) (hsz : n + 1 ≤ 35184372088832) (hB : B ≤ w.heap.size)
    (h : ∀ A' c' w', Own w' B A' (n + 1) c' (l ++ [r]) → Own w' B A n c l → ((A' = A ∧ c' = c ∧ w.grownBy w' (blk A)) ∨ ((∀ g, blk A' = some g → w.heap.size ≤ g) ∧ Below w.heap.size w w')) →
      K (a.put o.dst (.slice A' (n + 1) c')) w') : if Region.wanted o (yielded ops a.tmps) = true then Oper.wp Try.prog o a w K Q else E := by
  have hw : Region.wanted o (yielded ops a.tmps) = true := by simp [Region.wanted, hgd]
  rw [if_pos hw]
  obtain ⟨A', c', w', hrun, h2, h3, h4⟩ := run_app1 o.type hown (d := d) hr hsz hB
  unfold Oper.wp execOp
  simp only [ho, resolve, invoke, builtin, Sem.run_bind, Sem.run_pure, Result.andThen_ok, List.map_toArray, List.map_cons, List.map_nil, hs, hx, hrun]
  exact h A' c' w' h2 h3 h4
/-- An item: its word's slice, its count, its word. -/
structure IV where
  A : Option Addr
  n : Nat
  c : Nat
  k : Nat
  t : List Int
def IV.cells (u : IV) : List Value := [.slice u.A u.n u.c, .int .i64 (u.k : Nat)]
def IV.itm (u : IV) : Itm := (u.t, u.k)
theorem IV.one (u : IV) : u.cells.length = 2 ∧ ∀ v ∈ u.cells, v.oneCell' = true := ⟨rfl, fun v hv => by
  unfold IV.cells at hv
  simp at hv
  rcases hv with rfl | rfl <;> rfl⟩
theorem itemT : RowT 26 49 2 32 := ⟨Try.underlying26, ⟨.agg #[.slice none 0 0, .int .i64 0], by kernel_rfl, by kernel_rfl⟩, by omega⟩
/-- A row of items of the call's own; the words too, each for itself. -/
structure ItemsO (w : World) (B : Nat) (A : Option Addr) (n c : Nat) (us : List IV) : Prop where
  row : RowG w 49 2 B A n c (us.map IV.cells)
  own : ∀ u ∈ us, Own w B u.A u.n u.c u.t
  ap : us.Pairwise fun u v => Apart u.A v.A
section
variable {w w' : World} {B n c : Nat} {A : Option Addr} {us : List IV}
theorem ItemsO.nil (w : World) (B : Nat) : ItemsO w B none 0 0 [] := ⟨RowG.nil _ _ _ _, (fun u hu => by cases hu), List.Pairwise.nil⟩
theorem ItemsO.below (h : ItemsO w B A n c us) (hb : Below w.heap.size w w') : ItemsO w' B A n c us := ⟨h.row.below hb, fun u hu => (h.own u hu).below hb, h.ap⟩
theorem ItemsO.mono (h : ItemsO w B A n c us) {B' : Nat} (hB : B' ≤ B) : ItemsO w B' A n c us := ⟨h.row.mono hB, fun u hu => (h.own u hu).mono hB, h.ap⟩
theorem ItemsO.len (h : ItemsO w B A n c us) : us.length = n := by have := h.row.cnt; simpa using this
end
end Go.Proofs.Ytchcpeenpijekaa

/- What With hands to the walk: one more item. -/
namespace Go.Proofs.Ytchcpeenpijekaa
open Go.RowKit Go.Maps Go.MapKept Go.ChangeMaps Go.Shelf
set_option linter.unusedVariables false

theorem keys_le {D : DataW Value} {l : List Int} (h : KeysL D l) : l.length ≤ size D := by
  cases D with
  | map es =>
    have := nodup_sub (k := es.map fun p => match p.1 with | .int _ x => x | _ => 0) h.1 fun x hx => by
      obtain ⟨p, hp, hs⟩ := List.any_eq_true.1 ((h.2 x).1 hx).2
      exact List.mem_map.2 ⟨p, hp, by rw [WideAt.sameKey_eq hs]⟩
    rw [List.length_map] at this
    exact this
  | _ =>
    cases l with
    | nil => exact Nat.zero_le _
    | cons a l =>
      have := ((h.2 a).1 List.mem_cons_self).2
      simp [has] at this

/-- What one more item leaves. -/
def MoreR (w : World) (B bo : Nat) (Ao : Option Addr) (no : Nat) (us : List IV) (l : List Int) (k : Nat) (e : Ending) (w' : World) : Prop :=
  e = .returned (.tuple #[]) ∧ ∃ Ao' co' u, u.t = l ∧ u.k = k ∧ Box w' bo 26 #[.slice Ao' (no + 1) co'] ∧ ItemsO w' B Ao' (no + 1) co' (us ++ [u]) ∧ (∀ g, blk u.A = some g → w.heap.size ≤ g) ∧
    KeepS (fun g => g = bo ∨ blk Ao = some g) w w' ∧ ∀ g, blk Ao' = some g → blk Ao = some g ∨ w.heap.size ≤ g

theorem KeepS.grownO {S : Nat → Prop} {w w1 w2 : World} (h : KeepS S w w1) {row : Option Nat} (hg : ∀ g, row = some g → S g ∨ w.heap.size ≤ g) (h2 : w1.grownBy w2 row) : KeepS S w w2 :=
  ⟨h2.os.trans h.os, h2.tape.trans h.tape, h2.output.trans h.output, Nat.le_trans h.size h2.size, fun i hi hn => (h2.block i (Nat.lt_of_lt_of_le hi h.size) fun e => by
    rcases hg i e.symm with hg | hg
    · exact hn hg
    · omega).trans (h.block i hi hn)⟩
theorem own_ne_row {w : World} {B B' n c m d : Nat} {A C : Option Addr} {l : List Int} {vs : List (List Value)} {et : TypeId} {sz : Nat} (h : Own w B A n c l) (k : RowG w et sz B' C m d vs) (ht : et ≠ 21) : blk A = none ∨ blk A ≠ blk C := by
  cases hA : blk A with
  | none => exact .inl rfl
  | some g =>
    refine .inr fun e => ?_
    obtain ⟨c1, h1⟩ := h.obj hA
    obtain ⟨c2, h2⟩ := k.obj e.symm
    rw [h1] at h2
    injection h2 with h2
    injection h2 with _ h2
    exact ht h2.symm
theorem own_ne_box {w : World} {B n c g : Nat} {A : Option Addr} {l : List Int} {t : TypeId} {cs : Array Value} (h : Own w B A n c l) (k : Box w g t cs) (ht : t ≠ 21) : blk A ≠ some g := fun e => by
  obtain ⟨c1, h1⟩ := h.obj e
  unfold Box at k
  rw [h1] at k
  injection k with k
  injection k with _ k
  exact ht k.symm
theorem row_ne_box {w : World} {et : TypeId} {sz B n c g : Nat} {A : Option Addr} {vs : List (List Value)} {t : TypeId} {cs : Array Value} (h : RowG w et sz B A n c vs) (k : Box w g t cs) (ht : t ≠ et) : blk A ≠ some g := fun e => by
  obtain ⟨c1, h1⟩ := h.obj e
  unfold Box at k
  rw [h1] at k
  injection k with k
  injection k with _ k
  exact ht k.symm
theorem more_end {w w1 w2 : World} {B bo : Nat} {Ao : Option Addr} {no co : Nat} {us : List IV} {l : List Int} {k n1 c1 g2 c2 : Nat} {A1 : Option Addr} (hB : B ≤ w.heap.size) (hbo : Box w bo 26 #[.slice Ao no co]) (hit : ItemsO w B Ao no co us)
    (hb1 : Below w.heap.size w w1) (ho1 : Own w1 w.heap.size A1 n1 c1 l) (hrow : RowG w2 49 2 B (some ⟨g2, 0, none⟩) (no + 1) c2 (us.map IV.cells ++ [IV.cells ⟨A1, n1, c1, k, l⟩])) {ob : Obj} (hg2 : (w1.alloc ob).grownBy w2 (blk Ao))
    (hor : blk Ao = some g2 ∨ g2 = (w1.alloc ob).heap.size) : MoreR w B bo Ao no us l k (.returned (.tuple #[])) (w2.setCell ⟨bo, 0, none⟩ (.slice (some ⟨g2, 0, none⟩) (no + 1) c2)) := by
  have hne := row_ne_box hit.row hbo (by decide)
  have hba : Below w.heap.size w (w1.alloc ob) := hb1.alloc hb1.size ob
  have hit1 := hit.below hba
  have hbo2 := (hbo.below hba).grown hg2 (fun e => hne e.symm)
  have hg2b : blk (some (⟨g2, 0, none⟩ : Addr)) ≠ some bo := row_ne_box hrow hbo2 (by decide)
  have hk : ∀ v ∈ us, Own (w2.setCell ⟨bo, 0, none⟩ (.slice (some ⟨g2, 0, none⟩) (no + 1) c2)) B v.A v.n v.c v.t := fun v hv => by
    have h1 := (hit1.own v hv).kept hg2 (own_ne_row (hit1.own v hv) hit1.row (by decide))
    exact h1.far (p := ⟨bo, 0, none⟩) (own_ne_box h1 hbo2 (by decide)) _
  have hu : Own (w2.setCell ⟨bo, 0, none⟩ (.slice (some ⟨g2, 0, none⟩) (no + 1) c2)) w.heap.size A1 n1 c1 l := by
    have h0 := ho1.alloc ob
    have h1 := h0.kept hg2 (own_ne_row h0 hit1.row (by decide))
    exact h1.far (p := ⟨bo, 0, none⟩) (own_ne_box h1 hbo2 (by decide)) _
  refine ⟨rfl, some ⟨g2, 0, none⟩, c2, ⟨A1, n1, c1, k, l⟩, rfl, rfl, hbo2.set 0 _, ⟨?_, fun v hv => ?_, List.pairwise_append.2 ⟨hit.ap, List.pairwise_singleton _ _, fun v hv u hu => ?_⟩⟩, fun g hg => (ho1.blk_ge g hg).1, ?_, fun g hg => ?_⟩
  · rw [List.map_append]
    exact hrow.far (p := ⟨bo, 0, none⟩) hg2b _
  · rcases List.mem_append.1 hv with hv | hv
    · exact hk v hv
    · rw [List.mem_singleton.1 hv]
      exact hu.mono hB
  · rw [List.mem_singleton.1 hu]
    exact apart_of (fun g hg => ((hit.own v hv).blk_ge g hg).2) fun g hg => (ho1.blk_ge g hg).1
  · exact ((KeepS.of_below hba).grownO (fun g hg => .inl (.inr hg)) hg2).set (a := ⟨bo, 0, none⟩) (.inl (.inl rfl)) _
  · injection hg with hg
    have hg : g2 = g := hg
    subst hg
    rcases hor with h | h
    · exact .inl h
    · have := hba.size
      exact .inr (by omega)

set_option maxRecDepth 100000 in
set_option maxHeartbeats 2000000 in
theorem more_any (w : World) (B bo : Nat) (Ao : Option Addr) (no co : Nat) (us : List IV) (A : Option Addr) (n c : Nat) (l : List Int) (k : Nat) (hB : B ≤ w.heap.size) (hbo : Box w bo 26 #[.slice Ao no co]) (hit : ItemsO w B Ao no co us) (hA : Runes w A n l) (hn : n ≤ 1000000) (hno : no ≤ 1000000) :
    Calls Try.prog 51 #[.slice A n c, .int .i64 (k : Nat), .pointer (some ⟨bo, 0, none⟩)] w (MoreR w B bo Ao no us l k) := by
  have HC := hide (fun W hb => clone_any A n c l W (hA.below hb) (by omega))
  obtain ⟨c0, c0f⟩ := hbo.c1
  have HBO := hide hbo
  have HIT := hide hit
  have hne : blk Ao ≠ some bo := fun e => by
    obtain ⟨cur, hcur⟩ := hit.row.obj e
    unfold Box at hbo
    rw [hcur] at hbo
    injection hbo with hbo
    injection hbo with _ h2
    exact absurd h2 (by decide)
  have HNE := hide hne
  have HBS := hide hB
  clear hA hbo hit hne hB
  go_enter Try.func51, Try.ntmps51
  go_region_law (first
    | (refine step_appG itemT (by rfl) (.tmp 5) (.tmp 10) (by rfl) B (by rfl) (HIT1.out.row.alloc _) (m := 1) (d := 1) (by rfl) (us := [IV.cells ⟨A1, n1, c1, k, l⟩]) (news_box (cs := (IV.cells ⟨A1, n1, c1, k, l⟩).toArray) (Box.new _ _ _)) (Each.one (IV.one _).1 (IV.one _).2) rfl (by omega) (by omega) (by omega) (by have := HBS.out; have := HB1.out.size; simp; omega) ?_
       intro g2 c2 w2 hrow2 hg2 hb2 hor
       have hbo2 := (HBO1.out.alloc (.cells (IV.cells ⟨A1, n1, c1, k, l⟩).toArray 49)).grown hg2 (fun e => HNE.out e.symm)
       obtain ⟨e0, e0f⟩ := hbo2.c1)
    | (go_simp; go_at_call 50; (with_reducible refine (HC.out _ (Below.refl _ _).drew).mono ?_); rintro e w1 ⟨A1, n1, c1, rfl, ho1, hb1⟩
       have HB1 := hide ((Below.refl w.heap.size w).drew.trans hb1)
       have HO1 := hide ho1
       have HBO1 := hide (HBO.out.below HB1.out)
       have HIT1 := hide (HIT.out.below HB1.out)
       clear ho1 hb1
       obtain ⟨d0, d0f⟩ := HBO1.out.c1
       have d1 : ∀ o, (w1.alloc o).cell? ⟨bo, 0, none⟩ = some (.slice Ao no co) := fun o => (HBO1.out.alloc o).c1.1))
  all_goals go_end0
  all_goals exact more_end HBS.out HBO.out HIT.out HB1.out HO1.out hrow2 hg2 hor
end Go.Proofs.Ytchcpeenpijekaa

/- A trie that is a bag; the walk through its words. -/
namespace Go.Proofs.Ytchcpeenpijekaa
open Go.RowKit Go.Maps Go.MapKept Go.ChangeMaps Go.Shelf
set_option linter.unusedVariables false

/-- A trie that holds the bag L. -/
structure TrieS (w : World) (B t K : Nat) (L : List Itm) (N : List Int → Option Nd) (Q : List (List Int)) : Prop where
  trie : TrieN w B t K N (cntB L) Q (allB L) L.length
  bag : BagW L
  mem : ∀ p, (N p).isSome = true ↔ p = [] ∨ ∃ x ∈ L, p <+: x.1
theorem TrieS.below {w w' : World} {B t K : Nat} {L : List Itm} {N : List Int → Option Nd} {Q : List (List Int)} (h : TrieS w B t K L N Q) (hb : Below w.heap.size w w') : TrieS w' B t K L N Q := ⟨h.trie.below hb, h.bag, h.mem⟩
theorem lt_of_le_nodup {l : List Int} (h : l.Pairwise (· ≤ ·)) (k : l.Nodup) : l.Pairwise (· < ·) := by
  have := h.and k
  exact this.imp fun ⟨h1, h2⟩ => by omega

/-- In the walk: the path, what has been told so far. -/
structure WkSt (w0 w : World) (bo : Nat) (Ao : Option Addr) (no co : Nat) (us : List IV) (A : Option Addr) (n c : Nat) (p : List Int) : Prop where
  below : Below w0.heap.size w0 w
  box : Box w bo 26 #[.slice Ao no co]
  items : ItemsO w w0.heap.size Ao no co us
  path : Own w w0.heap.size A n c p
  bo_ : w0.heap.size ≤ bo
  off : ∀ u ∈ us, Apart u.A A
/-- How far it has come: F more. -/
def WkP (w0 w : World) (bo : Nat) (Ao : Option Addr) (us : List IV) (A : Option Addr) (n c : Nat) (p : List Int) (F : List Itm) (w' : World) : Prop :=
  ∃ Ao' no' co' us', us'.map IV.itm = F ∧ WkSt w0 w' bo Ao' no' co' (us ++ us') A n c p ∧ KeepS (fun g => g = bo ∨ blk Ao = some g ∨ blk A = some g) w w' ∧
    (∀ g, blk Ao' = some g → blk Ao = some g ∨ w.heap.size ≤ g) ∧ ∀ u ∈ us', ∀ g, blk u.A = some g → w.heap.size ≤ g
section
variable {w0 w w1 w2 : World} {bo no co n c : Nat} {Ao A : Option Addr} {us : List IV} {p : List Int} {F F1 F2 : List Itm}
theorem WkP.start (h : WkSt w0 w bo Ao no co us A n c p) : WkP w0 w bo Ao us A n c p [] w :=
  ⟨Ao, no, co, [], rfl, by rw [List.append_nil]; exact h, KeepS.refl _ _, fun g hg => .inl hg, fun u hu => by cases hu⟩
theorem WkSt.next (h : WkSt w0 w bo Ao no co us A n c p) (hb : Below w.heap.size w w1) : WkSt w0 w1 bo Ao no co us A n c p :=
  ⟨h.below.trans (hb.mono h.below.size), h.box.below hb, h.items.below hb, h.path.below hb, h.bo_, h.off⟩
theorem WkP.next (h : WkP w0 w bo Ao us A n c p F w1) (hb : Below w1.heap.size w1 w2) : WkP w0 w bo Ao us A n c p F w2 := by
  obtain ⟨Ao', no', co', us', h1, h2, h3, h4, h5⟩ := h
  exact ⟨Ao', no', co', us', h1, h2.next hb, h3.next hb, h4, h5⟩
/-- One more item at the path's own word. -/
theorem WkSt.more (h : WkSt w0 w bo Ao no co us A n c p) {k : Nat} {e : Ending} (hm : MoreR w w0.heap.size bo Ao no us p k e w1) : e = .returned (.tuple #[]) ∧ WkP w0 w bo Ao us A n c p [(p, k)] w1 := by
  obtain ⟨rfl, Ao', co', u, hut, huk, hbx, hit, hun, hks, hao⟩ := hm
  have hAo : blk A = none ∨ blk A ≠ blk Ao := own_ne_row h.path h.items.row (by decide)
  have hAb := own_ne_box h.path h.box (by decide)
  refine ⟨rfl, Ao', no + 1, co', [u], by simp [IV.itm, hut, huk], ⟨?_, hbx, hit, hks.own h.path fun g hg e => ?_, h.bo_, fun v hv => ?_⟩, hks.mono fun g hg => ?_, hao, fun v hv g hg => ?_⟩
  · refine h.below.trans (hks.below (fun g hg => ?_) h.below.size)
    rcases hg with rfl | hg
    · exact h.bo_
    · exact (h.items.row.blk_ge g hg).1
  · rcases e with rfl | e
    · exact hAb hg
    · rcases hAo with h1 | h1
      · rw [h1] at hg; cases hg
      · exact h1 (hg.trans e.symm)
  · rcases List.mem_append.1 hv with hv | hv
    · exact h.off v hv
    · rw [List.mem_singleton.1 hv]
      exact Apart.symm (apart_of (fun g hg => (h.path.blk_ge g hg).2) hun)
  · rcases hg with hg | hg
    · exact .inl hg
    · exact .inr (.inl hg)
  · rw [List.mem_singleton.1 hv] at hg
    exact hun g hg
/-- A call of the walk for a kid, the path longer by one sign. -/
theorem WkP.kid (h : WkP w0 w bo Ao us A n c p F1 w1) {Ao' : Option Addr} {no' co' : Nat} {us' : List IV} (hst : WkSt w0 w1 bo Ao' no' co' (us ++ us') A n c p) (hF : us'.map IV.itm = F1) (hks : KeepS (fun g => g = bo ∨ blk Ao = some g ∨ blk A = some g) w w1)
    (hao : ∀ g, blk Ao' = some g → blk Ao = some g ∨ w.heap.size ≤ g) (hun : ∀ u ∈ us', ∀ g, blk u.A = some g → w.heap.size ≤ g) {wa wb : World} {A' : Option Addr} {c' : Nat} {r : Int} (ha : Below w1.heap.size w1 wa)
    (ho : Own wb w0.heap.size A n c p) (ho' : Own wb w0.heap.size A' (n + 1) c' (p ++ [r])) (hor : (A' = A ∧ c' = c ∧ wa.grownBy wb (blk A)) ∨ ((∀ g, blk A' = some g → wa.heap.size ≤ g) ∧ Below wa.heap.size wa wb)) :
    WkSt w0 wb bo Ao' no' co' (us ++ us') A' (n + 1) c' (p ++ [r]) ∧ ∀ w2, WkP w0 wb bo Ao' (us ++ us') A' (n + 1) c' (p ++ [r]) F2 w2 → WkP w0 w bo Ao us A n c p (F1 ++ F2) w2 := by
  have hsa := hst.next ha
  have hAo : blk A = none ∨ blk A ≠ blk Ao' := own_ne_row hsa.path hsa.items.row (by decide)
  have hAb := own_ne_box hsa.path hsa.box (by decide)
  have hsz := ha.size
  have hwsz := hks.size
  have hlow := hst.below.size
  have hlt : ∀ g, blk A = some g → g < w1.heap.size := fun g hg => (hst.path.blk_ge g hg).2
  have hg1 : wa.grownBy wb (blk A) := by
    rcases hor with ⟨_, _, h1⟩ | ⟨_, h1⟩
    · exact h1
    · exact ⟨h1.os, h1.tape, h1.output, h1.size, fun k hk _ => h1.block k hk⟩
  have hsb := hg1.size
  have hbw : Below w0.heap.size w0 wb := hsa.below.grown hg1 hsa.below.size fun g hg => (hsa.path.blk_ge g hg).1
  have hbb : Box wb bo 26 #[.slice Ao' no' co'] := hsa.box.grown hg1 fun e => hAb e.symm
  have hrow : RowG wb 49 2 w0.heap.size Ao' no' co' ((us ++ us').map IV.cells) := hsa.items.row.kept hg1 (by
    cases hC : blk Ao' with
    | none => exact .inl rfl
    | some g =>
      refine .inr fun e => ?_
      rcases hAo with h1 | h1
      · rw [h1] at e; cases e
      · exact h1 (by rw [hC]; exact e.symm))
  have hown : ∀ u ∈ us ++ us', Own wb w0.heap.size u.A u.n u.c u.t := fun u hu => (hsa.items.own u hu).kept hg1 (by
    cases hC : blk u.A with
    | none => exact .inl rfl
    | some g => exact .inr fun e => hsa.off u hu g hC e.symm)
  have hoff : ∀ u ∈ us ++ us', Apart u.A A' := fun u hu => by
    rcases hor with ⟨rfl, _, _⟩ | ⟨h1, _⟩
    · exact hsa.off u hu
    · exact apart_of (fun g hg => ((hsa.items.own u hu).blk_ge g hg).2) h1
  refine ⟨⟨hbw, hbb, ⟨hrow, hown, hsa.items.ap⟩, ho', hst.bo_, hoff⟩, fun w2 hk => ?_⟩
  obtain ⟨Ao2, no2, co2, us2, k1, k2, k3, k4, k5⟩ := hk
  have hAbb := own_ne_box ho hbb (by decide)
  have hAob : blk A = none ∨ blk A ≠ blk Ao' := own_ne_row ho hrow (by decide)
  have hpath : Own w2 w0.heap.size A n c p := by
    rcases hor with ⟨rfl, rfl, _⟩ | ⟨h1, _⟩
    · have := k2.path.takeP (m := n) (by omega)
      rwa [List.take_append_of_le_length (by rw [ho.len]; exact Nat.le_refl _), List.take_of_length_le (by rw [ho.len]; exact Nat.le_refl _)] at this
    · refine k3.own ho fun g hg e => ?_
      rcases e with rfl | e | e
      · exact hAbb hg
      · rcases hAob with h2 | h2
        · rw [h2] at hg; cases hg
        · exact h2 (hg.trans e.symm)
      · have := h1 g e
        have := hlt g hg
        omega
  refine ⟨Ao2, no2, co2, us' ++ us2, by rw [List.map_append, hF, k1], ⟨k2.below, k2.box, by rw [← List.append_assoc]; exact k2.items, hpath, hst.bo_, fun u hu => ?_⟩, ?_, fun g hg => ?_, fun u hu g hg => ?_⟩
  · rw [← List.append_assoc] at hu
    rcases List.mem_append.1 hu with hu | hu
    · exact hsa.off u hu
    · refine Apart.symm (apart_of (k := wb.heap.size) (fun g hg => ?_) fun g hg => k5 u hu g hg)
      have := hlt g hg
      omega
  · refine ((hks.next ha).grownO (fun g hg => .inl (.inr (.inr hg))) hg1).trans k3 fun g hg => ?_
    rcases hg with hg | hg | hg
    · exact .inl (.inl hg)
    · rcases hao g hg with h1 | h1
      · exact .inl (.inr (.inl h1))
      · exact .inr h1
    · rcases hor with ⟨rfl, _, _⟩ | ⟨h1, _⟩
      · exact .inl (.inr (.inr hg))
      · have := h1 g hg
        exact .inr (by omega)
  · rcases k4 g hg with h1 | h1
    · exact hao g h1
    · exact .inr (by omega)
  · rcases List.mem_append.1 hu with hu | hu
    · exact hun u hu g hg
    · have := k5 u hu g hg
      omega
end
end Go.Proofs.Ytchcpeenpijekaa
