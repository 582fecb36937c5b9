/- Pieces, joined: KeysNod, SrtSN, SrtKN. -/
import Derived.Test.YtchcpeenpijekaaQ09
import Derived.RangeFuncFrom
import Derived.RangeFuncNested
import Derived.RangeFuncLeaves
import Derived.RangeFuncStops
import Derived.Sort.MapsRangeIn
import Derived.Shelf.Abstract
import Derived.OwnWalkIn
import Derived.TacticsInMore
import Derived.LoopNIn
import Derived.LoopIn
import Derived.Test.YtchcpeenpijekaaQ12
import Derived.Test.YtchcpeenpijekaaQ17

/- maps.Keys at runes: its iterator gives each key once; slices.AppendSeq and slices.Collect of it: a row of the call's own. -/
namespace Go.Proofs.Ytchcpeenpijekaa
open Go.RowKit Go.Maps Go.Shelf
set_option linter.unusedVariables false
attribute [local go_sem] Oper.semAt_some

/-- A rune. -/
abbrev R32 : Type := { x : Int // I32 x }
def vals (ss : List R32) : List Int := ss.map (·.1)
theorem vals_snoc (ss : List R32) (x : R32) : vals (ss ++ [x]) = vals ss ++ [x.1] := by unfold vals; rw [List.map_append]; rfl
theorem vals_len (ss : List R32) : (vals ss).length = ss.length := List.length_map _
theorem vals_w32 (ss : List R32) : W32 (vals ss) := fun y hy => by
  obtain ⟨x, _, rfl⟩ := List.mem_map.1 hy
  exact x.2
/-- All of D's keys, each once. -/
def KeysL (D : DataW Value) (l : List Int) : Prop := l.Nodup ∧ ∀ x, x ∈ l ↔ (I32 x ∧ has D (.int .i32 x) = true)

set_option maxRecDepth 100000 in
set_option maxHeartbeats 2000000 in
theorem keys1_in (F : Fence) (n : Nat) (hf : F.fn 80) (hro : F.round = none) (hn : 1 ≤ n) (l Bm b nn : Nat) (D0 : DataW Value) (J Jx : List R32 → World → Prop)
    (hY : ∀ pre x W, J pre W → pre.length < size D0 → YieldAt F (n - 1) Try.prog l #[.int .i32 x.1] W fun e W' =>
      (e = .returned (.bool true) ∧ J (pre ++ [x]) W' ∧ KeepsWalks W W') ∨ (e = .returned (.bool false) ∧ Jx (pre ++ [x]) W'))
    (W : World) (hJ : AbidesFrom W.heap.size J) (hm : W.cell? ⟨Bm, 0, none⟩ = some (.map (some b))) (hown : W.ownsMap Try.prog 21 anyR b nn D0) (h0 : J [] W) :
    CallsIn F n Try.prog 80 #[.func (.yield l) #[] #[], .pointer (some ⟨Bm, 0, none⟩)] W fun e W' => (∃ v, e = .returned v) ∧
      ((∃ ss : List R32, KeysL D0 (vals ss) ∧ J ss W') ∨ (∃ pre : List R32, True ∧ Jx pre W')) := by
  refine callsIn_of_wp Try.func80 rfl hf ?_ hro
  simp only [Try.ntmps80, List.size_toArray, List.length_cons, List.length_nil, Nat.reduceAdd, Nat.reduceSub, Array.replicate_succ, Array.replicate_zero, List.push_toArray, List.append_toArray, List.nil_append, List.cons_append]
  gi_wp2_with (first
    | (gi_at_range; refine wpListIn_range_own _ rfl _ 73 rfl 21 72 rkeyed Try.underlying73 _ b nn _ rfl hown ?_; intro w0 hrg0 hg0 hs0)
    | gi_in)
  go_frame
  gi_loopw [3] (fun _ wr => ∃ (left : Lit → Bool) (cnt : Nat) (ss : List R32), wr.ranges Try.prog 21 anyR b W.heap.size nn D0 left cnt ∧ ss.length + cnt ≤ size D0 ∧ Coll D0 left (vals ss) ∧ J ss wr)
    (fun _ wr => wr.rangeLeft b W.heap.size)
  case atStart =>
    exact ⟨_, _, [], hrg0, by simp, Coll.start D0, hJ [] W w0 none h0 hg0 (fun r e => by cases e)⟩
  case round =>
    obtain ⟨left, cnt, ss, hrg, hcs, hC, hJs⟩ := hrel
    gi_wp2_with (first
      | (gi_at_next; refine wpListIn_next_ranges _ rfl _ rfl 21 rkeyed anyR (Value.int .i32) id (fun key kl hk => by obtain ⟨x, hx, _⟩ := keyOf_r_inv hk; exact ⟨x, hx⟩) (fun v _ _ => ⟨v, rfl⟩) b W.heap.size nn _ _ _ rfl hrg ?_ ?_)
      | gi_in)
    · intro hc0 hl0
      gi_wp2
      go_end0
      exact ⟨⟨_, rfl⟩, .inl ⟨ss, hC.all hl0, hJs⟩⟩
    · intro x c kl yd yp w2 cnt2 hkey hlk hv hat hrg2 hlt hg2 hs2 hen
      obtain ⟨x', ex, rfl, hx32⟩ := keyOf_r_inv hkey
      obtain rfl : x = x' := by injection ex
      have hJ2 : J ss w2 := hJ ss wr w2 (some W.heap.size) hJs hg2 (fun r e => by cases e; exact ⟨Nat.le_refl _, hrg.iter_walk⟩)
      obtain ⟨fn, tmps, assign, body, hy, hR⟩ := hY ss ⟨x, hx32⟩ w2 hJ2 (by omega)
      dsimp only at hy
      clear hs2
      gi_wp2
      refine hR.mono ?_
      have hC2 : Coll D0 (fun z => left z && !z.sameKey (.int .i32 x)) (vals (ss ++ [⟨x, hx32⟩])) := by
        rw [vals_snoc]
        exact hC.step hx32 hlk (has_of_at hat)
      rintro e W3 (⟨rfl, hJ3, hk3⟩ | ⟨rfl, hJx3⟩)
      · gi_wp2
        have hrg3 := hrg2.of_walks hk3
        go_roundw
        case rel => exact ⟨_, cnt2, ss ++ [⟨x, hx32⟩], hrg3, by simp; omega, hC2, hJ3⟩
        case measure => rw [hrg3.left_eq, hrg.left_eq]; exact hlt
      · gi_wp2
        refine bodyPost_ret (results_none rfl _ _ _) rfl ?_
        exact ⟨⟨_, rfl⟩, .inr ⟨ss ++ [⟨x, hx32⟩], trivial, hJx3⟩⟩

set_option maxHeartbeats 1000000 in
theorem keys_in (F : Fence) (n : Nat) (hf : F.fn 70) (hro : F.round = none) (mb : Option Nat) (w : World) :
    CallsIn F n Try.prog 70 #[.map mb] w fun e w' => e = .returned (.func (.func 80) #[] #[.pointer (some ⟨w.heap.size, 0, none⟩)]) ∧ w.alloc (.cells #[.map mb] 73) = w' := by
  refine callsIn_of_wp Try.func70 rfl hf ?_ hro
  simp only [Try.ntmps70, List.size_toArray, List.length_cons, List.length_nil, Nat.reduceAdd, Nat.reduceSub, Array.replicate_succ, Array.replicate_zero, List.push_toArray, List.append_toArray, List.nil_append, List.cons_append]
  gi_wp2
  go_ret
  exact ⟨rfl, rfl⟩

theorem keys_stops (F : Fence) (n : Nat) (hf : F.fn 80) (hro : F.round = none) (hn : 1 ≤ n) (Bm b nn : Nat) (D0 : DataW Value) (w : World) (hBm : Bm < w.heap.size)
    (hm : w.cell? ⟨Bm, 0, none⟩ = some (.map (some b))) (hown : w.ownsMap Try.prog 21 anyR b nn D0) :
    SeqStopsK F n Try.prog 80 #[.pointer (some ⟨Bm, 0, none⟩)] (fun x : R32 => #[Value.int .i32 x.1]) KeepsWalks (fun ss => KeysL D0 (vals ss)) (fun _ => True) (size D0) w := fun l J Jx W hW hJ _ hY h0 => by
  have hown' : W.ownsMap Try.prog 21 anyR b nn D0 := by
    have hbl := hown.lt
    obtain ⟨es, clock, hb, Ft, hs, hD⟩ := hown
    exact ⟨es, clock, (hW.block b hbl).trans hb, Ft, hs, hD⟩
  exact keys1_in F n hf hro hn l Bm b nn D0 J Jx hY W hJ ((hW.cell (p := ⟨Bm, 0, none⟩) hBm).trans hm) hown' h0

def NoCell (w : World) (row : Option Nat) : Prop := ∀ r, row = some r → ∃ o : Obj, w.heap[r]? = some o ∧ o.isCells = false
theorem Own.keptNC {w w' : World} {B n c : Nat} {row : Option Nat} {C : Option Addr} {t : List Int} (h : Own w B C n c t) (hg : w.grownBy w' row) (hr : NoCell w row) : Own w' B C n c t := by
  refine h.kept hg ?_
  rcases h.row.2 with ⟨h1, _⟩ | ⟨g, cap, cur, h1, _, hgg, _⟩
  · injection h1 with h1
    subst h1
    exact .inl rfl
  · injection h1 with h1
    subst h1
    refine .inr fun e => ?_
    obtain ⟨o, ho, hc⟩ := hr g e.symm
    rw [hgg] at ho
    injection ho with ho
    subst ho
    cases hc
theorem wpListIn_app {F : Fence} {m0 : Nat} {w : World} {ops : Array Oper} {rest : List Oper} {o : Oper} {a : Act} {Q : Exit → Act → World → Prop} (hgd : o.guard = none) (s x : Operand)
    (ho : o.op = .call { callee := .builtin .append, args := #[s, x], argTypes := #[29, 29] })
    (B : Nat) {n c : Nat} {A : Option Addr} {l : List Int} (hs : a.eval s = .slice A n c) (hown : Own w B A n c l) {X : Option Addr} {m d : Nat} {r : List Int}
    (hx : a.eval x = .slice X m d) (hr : Runes w X m r) (hsz : n + m ≤ 35184372088832) (hB : B ≤ w.heap.size)
    (h : ∀ A' c' w', Own w' B A' (n + m) c' (l ++ r) → w.grownBy w' (blk A) → Below B w w' → wpListIn F m0 Try.prog ops Q rest (a.put o.dst (.slice A' (n + m) c')) w') : wpListIn F m0 Try.prog ops Q (o :: rest) a w := by
  refine wpListIn_plain hgd fun K' hK' => ?_
  obtain ⟨A', c', w', hrun, h2, h3, _⟩ := run_app o.type hown (d := d) hr hsz hB
  unfold Oper.wpIn
  refine ⟨?_, ?_⟩
  · simp [Oper.about, ho, resolve, Target.leads, Sem.run_pure]
  · rw [Oper.semAt_plain F _ _ (by rw [ho]; intro c hc'; cases hc')]
    simp [execOp, ho, resolve, invoke, builtin, hs, hx, hrun, Result.andThen]
    exact hK' _ _ (h A' c' w' h2 h3 ((Below.refl _ _).grown h3 hB fun g hg => (hown.blk_ge g hg).1))

theorem own_cells {w : World} {B n c : Nat} {A : Option Addr} {l : List Int} (h : Own w B A n c l) (j : Nat) (o : Obj) (e : blk A = some j) (hj : w.heap[j]? = some o) : o.isCells = true := by
  rcases h.row.2 with ⟨h1, _⟩ | ⟨g, cap, cur, h1, _, hgg, _⟩
  · injection h1 with h1
    subst h1
    cases e
  · injection h1 with h1
    subst h1
    injection e with e
    have e' : g = j := e
    subst e'
    rw [hgg] at hj
    injection hj with hj
    subst hj
    rfl
/-- What Collect hands back: all keys, in a row of the call's own. -/
def CollR (D : DataW Value) (w : World) (e : Ending) (w' : World) : Prop := ∃ A n c l, e = .returned (.slice A n c) ∧ Own w' w.heap.size A n c l ∧ KeysL D l ∧ Below w.heap.size w w'
/-- Between two rounds. -/
structure ApI (w0 : World) (Bs : Nat) (pre : List R32) (W : World) : Prop where
  ex : ∃ A' c', Boxed W Bs 29 (.slice A' pre.length c') ∧ Own W w0.heap.size A' pre.length c' (vals pre)
  below : Below w0.heap.size w0 W
theorem ApI.own (w0 : World) (Bs B : Nat) (hB : w0.heap.size ≤ B) : OwnFrom B (ApI w0 Bs) := fun pre X Y row h hg hr => by
  obtain ⟨A', c', h1, h2⟩ := h.ex
  exact ⟨⟨A', c', boxed_own Bs 29 (fun (_ : Unit) => Value.slice A' pre.length c') () X Y row h1 hg (fun r e => (hr r e).2), h2.keptNC hg fun r e => (hr r e).2⟩,
    h.below.grown hg h.below.size fun k e => Nat.le_trans hB (hr k e).1⟩

set_option maxRecDepth 100000 in
set_option maxHeartbeats 4000000 in
theorem appendSeq_in (n : Nat) (hn : 3 ≤ n) (Bm b nn : Nat) (D : DataW Value) (w : World) (hBm : Bm < w.heap.size) (hm : w.cell? ⟨Bm, 0, none⟩ = some (.map (some b))) (hown : w.ownsMap Try.prog 21 anyR b nn D) (hsz : size D ≤ 1000000) :
    CallsIn Fence.wide n Try.prog 84 #[.slice none 0 0, .func (.func 80) #[] #[.pointer (some ⟨Bm, 0, none⟩)]] w (CollR D w) := by
  refine callsIn_of_wp_marks Try.func84 rfl trivial ?_ rfl
  simp only [Try.ntmps84, List.size_toArray, List.length_cons, List.length_nil, Nat.reduceAdd, Nat.reduceSub, Array.replicate_succ, Array.replicate_zero, List.push_toArray, List.append_toArray, List.nil_append, List.cons_append]
  gi_wp2_with fail
  have hBO := Boxed.new w 29 (.slice none 0 0)
  have hB0 : Below w.heap.size w (w.alloc (.cells #[.slice none 0 0] 29)) := (Below.refl _ w).alloc (Nat.le_refl _) _
  have hs1 : (w.alloc (.cells #[.slice none 0 0] 29)).heap.size = w.heap.size + 1 := by simp
  have hm1 := (hB0.cell (p := ⟨Bm, 0, none⟩) hBm).trans hm
  have hown1 := hown.alloc (.cells #[.slice none 0 0] 29)
  obtain ⟨W0, hW0⟩ : ∃ W0, w.alloc (.cells #[.slice none 0 0] 29) = W0 := ⟨_, rfl⟩
  rw [hW0] at hBO hB0 hs1 hm1 hown1 ⊢
  clear hW0
  have HST := hide (keys_stops Fence.wide (n - 1) trivial rfl (by omega) Bm b nn D W0 (by omega) hm1 hown1)
  clear hm hown hm1 hown1
  refine wpIn_rangeFunc_ownF rfl (by omega) (gf := 80) (lb := #[.pointer (some ⟨Bm, 0, none⟩)]) rfl trivial (enters_of Try.func80 (by kernel_rfl) rfl)
    HST.out (fun h k => h.trans k) (fun W l o o' _ hl _ hw => KeepsWalks.putObj o' hl hw) (Below.refl _ _) (fun _ => rfl)
    (ApI w w.heap.size) (fun _ _ _ => False) (ApI.own w w.heap.size _ (by omega)) (fun _ _ _ _ _ hs _ _ => hs) ⟨⟨none, 0, hBO, Own.nil _ _⟩, hB0⟩
    (fun x => { tmps := #[.slice none 0 0, .func (.func 80) #[] #[.pointer (some ⟨Bm, 0, none⟩)], .pointer (some ⟨w.heap.size, 0, none⟩), undef, .slice none 0 0, .int .i32 x.1, .func (.func 80) #[] #[.pointer (some ⟨Bm, 0, none⟩)], .int .i32 x.1, undef, undef, undef, undef, undef], defers := [] })
    ?assign ?body ?done ?stop
  case assign =>
    intro l x W K hK
    gi_wp2_with fail
    exact hK
  case body =>
    intro l pre x W hI hlt
    obtain ⟨A', c', h1, h2⟩ := hI.ex
    have hbel := hI.below
    have HB := hide hbel
    have HH1 := hide h1
    have HH2 := hide h2
    have hc := h1.cell
    have hwl := h1.lt
    have HX := hide x.2
    obtain ⟨xv, hxv⟩ := x
    dsimp only
    clear h1 h2 hbel hI
    gi_wp2_with (first
      | (gi_at_builtin
         refine wpListIn_app rfl (.tmp 8) (.tmp 10) rfl w.heap.size rfl (HH2.out.alloc _) rfl (Runes.news W #[.int .i32 xv] 21 [xv] rfl (W32.one HX.out)) (by simp; omega) (by have := HB.out.size; simp; omega) ?_
         intro A2 c2 w2 ho2 hg2 hb2
         have ne1 := (HH1.out.alloc (.cells #[.int .i32 xv] 21)).not_row (by decide) (HH2.out.alloc (.cells #[.int .i32 xv] 21)).row
         rw [own_blk] at ne1
         have box2 := (HH1.out.alloc (.cells #[.int .i32 xv] 21)).kept hg2 ne1
         have hc2 := box2.cell
         have hf2 := box2.frozen)
      | gi_in)
    have hne : blk A2 ≠ some w.heap.size := fun e => by
      have h3 := box2.not_row (by decide) ho2.row
      rw [own_blk] at h3
      exact h3 e.symm
    have hko : KeepsOthers W (w2.setCell ⟨w.heap.size, 0, none⟩ (.slice A2 (pre.length + 1) c2)) :=
      ((KeepsOthers.alloc W (.cells #[.int .i32 xv] 21)).trans (KeepsOthers.of_grownBy hg2 fun j o e hj => own_cells (HH2.out.alloc (.cells #[.int .i32 xv] 21)) j o e hj)).trans (KeepsOthers.setCell w2 _ _)
    refine ⟨hko, hko.walks, ⟨A2, c2, ?_, ?_⟩, ?_⟩
    · have := box2.set (.slice A2 (pre.length + 1) c2)
      rw [show (pre ++ [(⟨xv, hxv⟩ : R32)]).length = pre.length + 1 from by simp]
      exact this
    · have := ho2.far (p := ⟨w.heap.size, 0, none⟩) hne (.slice A2 (pre.length + 1) c2)
      rw [vals_snoc, List.length_append]
      exact this
    · exact ((HB.out.alloc HB.out.size _).trans hb2).setCell (p := ⟨w.heap.size, 0, none⟩) (Nat.le_refl _) _
  case done =>
    intro D2 ys W hD hS hI hK
    obtain ⟨A', c', h1, h2⟩ := hI.ex
    have hc := h1.cell
    have HB := hide hI.below
    have HH2 := hide h2
    have HK := hide hK
    have HS := hide hS
    clear h1 h2 hI hS hK
    gi_wp2
    refine ⟨by simp, .inl ⟨_, _, rfl, run_takeDeferred HK.out, ?_⟩⟩
    have hg := grownBy_putObj' W D2 (.deferred none)
    have hN : NoCell W (some D2) := fun r e => by cases e; exact ⟨_, HK.out, rfl⟩
    exact ⟨_, results_tmp rfl _ _ _, A', _, c', vals ys, rfl, HH2.out.keptNC hg hN, HS.out, HB.out.grown hg HB.out.size fun k e => by cases e; omega⟩
  case stop =>
    rintro D c pre W _ _ h _
    exact h.elim

set_option maxHeartbeats 1000000 in
theorem collect_in (n : Nat) (hn : 4 ≤ n) (Bm b nn : Nat) (D : DataW Value) (w : World) (hBm : Bm < w.heap.size) (hm : w.cell? ⟨Bm, 0, none⟩ = some (.map (some b))) (hown : w.ownsMap Try.prog 21 anyR b nn D) (hsz : size D ≤ 1000000) :
    CallsIn Fence.wide n Try.prog 78 #[.func (.func 80) #[] #[.pointer (some ⟨Bm, 0, none⟩)]] w (CollR D w) := by
  have HA := hide (appendSeq_in (n - 1) (by omega) Bm b nn D w hBm hm hown hsz)
  clear hm hown
  refine callsIn_of_wp Try.func78 rfl trivial ?_ rfl
  simp only [Try.ntmps78, List.size_toArray, List.length_cons, List.length_nil, Nat.reduceAdd, Nat.reduceSub, Array.replicate_succ, Array.replicate_zero, List.push_toArray, List.append_toArray, List.nil_append, List.cons_append]
  gi_wp2_with fail
  refine ⟨trivial, fun _ => by omega, HA.out.mono ?_⟩
  rintro e w' ⟨A, m, c, l, rfl, h1, h2, h3⟩
  have HH := hide (And.intro h1 (And.intro h2 h3))
  clear h1 h2 h3
  gi_wp2_with fail
  go_ret
  exact ⟨A, m, c, l, rfl, HH.out.1, HH.out.2.1, HH.out.2.2⟩
end Go.Proofs.Ytchcpeenpijekaa

/- Go's slices.Sort, slices.Sorted of runes, as far as a sort of so many elements is known (SortsAt); short rows: by insertion. -/
namespace Go.Proofs.Ytchcpeenpijekaa
open Go.RowKit Go.Maps Go.Shelf
set_option linter.unusedVariables false

/-- slices.Sort sorts rows of n runes. -/
def SortR (w : World) (A : Option Addr) (B n c : Nat) (l : List Int) (e : Ending) (w' : World) : Prop := e = .returned (.tuple #[]) ∧ ∃ l', Own w' B A n c l' ∧ l'.Perm l ∧ l'.Pairwise (· ≤ ·) ∧ w.grownBy w' (blk A)
def SortsAt (n : Nat) : Prop := ∀ (A : Option Addr) (B c : Nat) (l : List Int) (w : World), Own w B A n c l → Calls Try.prog 79 #[.slice A n c] w (SortR w A B n c l)

set_option maxHeartbeats 400000 in
theorem insertion_none (w : World) :
    Calls Try.prog 88 #[.slice none 0 0, .int .i64 0, .int .i64 0] w fun e w' => e = .returned (.tuple #[]) ∧ w = w' := by
  go_enter Try.func88, Try.ntmps88
  go_wp2_with fail
  go_loop [6] (fun i => i = .int .i64 1) (fun i => 0)
  case atStart => rfl
  case round =>
    obtain rfl := hrel
    go_wp2_with fail
    go_end0
    exact ⟨rfl, rfl⟩

set_option maxHeartbeats 1000000 in
theorem pdq_small (A : Option Addr) (B n c : Nat) (l : List Int) (k : Int) (w : World) (h : Own w B A n c l) (hn : n ≤ 12) :
    Calls Try.prog 85 #[.slice A n c, .int .i64 0, .int .i64 (n : Int), .int .i64 k] w (SortR w A B n c l) := by
  have HI : Hid (∀ W, W = w → Calls Try.prog 88 #[.slice A n c, .int .i64 0, .int .i64 (n : Int)] W (SortR w A B n c l)) := hide (by
    rintro _ rfl
    rcases h.form with ⟨rfl, rfl, rfl⟩ | ⟨g, rfl, _⟩
    · refine (insertion_none _).mono ?_
      rintro e w' ⟨rfl, rfl⟩
      have hl : l = [] := List.eq_nil_of_length_eq_zero h.len
      subst hl
      exact ⟨rfl, [], h, List.Perm.refl _, List.Pairwise.nil, World.grownBy.refl _ _⟩
    · refine (insertion_any g B n c 0 n l _ h (Nat.zero_le _) (Nat.le_refl _) (by omega)).mono ?_
      rintro e w' ⟨rfl, l', hs, ha⟩
      have hl : l'.length = n := hs.own.len
      exact ⟨rfl, l', hs.own, hs.pm.perm, Asc.pairwise (by rw [hl]; exact ha), hs.grown⟩)
  have hd : decide ((n : Int) ≤ 12) = true := by simp; omega
  have e1 : IntKind.i64.wrap ((n : Int) - 0) = (n : Int) := by rw [IntWalk.i64_in _ (by omega)]; omega
  clear h
  go_enter Try.func85, Try.ntmps85
  go_wp2_with fail
  go_loopw [1, 2] (fun va vb wr => va = .int .i64 0 ∧ vb = .int .i64 (n : Int) ∧ wr = w) (fun _ _ _ => 0)
  case atStart => exact ⟨rfl, rfl, rfl⟩
  case round =>
    obtain ⟨rfl, rfl, rfl⟩ := hrel
    go_wp2_with fail
    refine (HI.out _ rfl).mono ?_
    rintro e w' ⟨rfl, hr⟩
    have HR := hide hr
    clear hr
    go_wp2_with fail
    go_end0
    exact ⟨rfl, HR.out⟩

set_option maxHeartbeats 1000000 in
theorem sort_of_pdq (A : Option Addr) (B n c : Nat) (l : List Int) (w : World) (hn : n ≤ 1000000)
    (hp : ∀ k : Int, Calls Try.prog 85 #[.slice A n c, .int .i64 0, .int .i64 (n : Int), .int .i64 k] w (SortR w A B n c l)) :
    Calls Try.prog 79 #[.slice A n c] w (SortR w A B n c l) := by
  have HP := hide hp
  have HB := hide (bits_Len (n : Int) w (by omega) (by omega))
  have hc : IntKind.u64.wrap (n : Int) = (n : Int) := by simp [IntKind.wrap_u64]; omega
  clear hp
  go_enter Try.func79, Try.ntmps79
  go_wp2_with fail
  refine HB.out.mono ?_
  rintro e w1 ⟨rfl, rfl⟩
  go_wp2_with fail
  refine (HP.out _).mono ?_
  rintro e w2 ⟨rfl, hr⟩
  have HR := hide hr
  clear hr
  go_wp2_with fail
  go_end0
  exact ⟨rfl, HR.out⟩

theorem sorts_small {n : Nat} (hn : n ≤ 12) : SortsAt n := fun A B c l w h => sort_of_pdq A B n c l w (by omega) fun k => pdq_small A B n c l k w h hn


/-- What slices.Sorted hands back of a map's keys. -/
def SortedR (D : DataW Value) (w : World) (e : Ending) (w' : World) : Prop := ∃ A n c l, e = .returned (.slice A n c) ∧ Own w' w.heap.size A n c l ∧ KeysL D l ∧ l.Pairwise (· ≤ ·) ∧ Below w.heap.size w w'
theorem KeysL.perm {D : DataW Value} {l l' : List Int} (h : KeysL D l) (hp : l'.Perm l) : KeysL D l' := ⟨hp.nodup_iff.2 h.1, fun x => by rw [hp.mem_iff]; exact h.2 x⟩

set_option maxHeartbeats 1000000 in
theorem sorted_any (Bm b nn : Nat) (D : DataW Value) (w : World) (hBm : Bm < w.heap.size) (hm : w.cell? ⟨Bm, 0, none⟩ = some (.map (some b))) (hown : w.ownsMap Try.prog 21 anyR b nn D) (hsz : size D ≤ 1000000)
    (hS : ∀ l, KeysL D l → SortsAt l.length) :
    Calls Try.prog 69 #[.func (.func 80) #[] #[.pointer (some ⟨Bm, 0, none⟩)]] w (SortedR D w) := by
  have HC := hide (callsIn_wide.1 (collect_in 4 (Nat.le_refl _) Bm b nn D w hBm hm hown hsz))
  clear hm hown
  go_enter Try.func69, Try.ntmps69
  go_wp2_with fail
  refine HC.out.mono ?_
  rintro e w1 ⟨A, n, c, l, rfl, ho, hk, hb⟩
  have HO := hide ho
  have HK := hide hk
  have HB := hide hb
  have hs := hS l hk
  rw [ho.len] at hs
  have HS := hide hs
  clear ho hk hb hs
  go_wp2_with fail
  refine (HS.out A w.heap.size c l w1 HO.out).mono ?_
  rintro e w2 ⟨rfl, l', ho2, hp2, ha2, hg2⟩
  have HO2 := hide ho2
  have HG2 := hide hg2
  clear ho2 hg2
  go_wp2_with fail
  go_ret
  exact ⟨A, n, c, l', rfl, HO2.out, HK.out.perm hp2, ha2, HB.out.grown HG2.out HB.out.size fun k e => (HO.out.blk_ge k e).1⟩
end Go.Proofs.Ytchcpeenpijekaa

/- slices.Sort sorts rows of runes. -/
namespace Go.Proofs.Ytchcpeenpijekaa
open Go.RowKit
set_option linter.unusedVariables false

theorem sorts_all {n : Nat} (hn : n ≤ 1000000) : SortsAt n := by
  by_cases h12 : n ≤ 12
  · exact sorts_small h12
  · intro A B c l w h
    rcases h.form with ⟨rfl, rfl, rfl⟩ | ⟨g, rfl, _⟩
    · exact absurd (Nat.zero_le 12) h12
    · refine sort_of_pdq _ B n c l w hn fun k => ?_
      refine (pdq_N g B n c hn (n + 1) 0 n l k w (by omega) h (Nat.zero_le _) (Nat.le_refl _) (.inl rfl)).mono ?_
      rintro e w' ⟨rfl, l', hs, ha⟩
      exact ⟨rfl, l', hs.own, hs.pm.perm, Asc.pairwise (by rw [hs.own.len]; exact ha), hs.grown⟩
end Go.Proofs.Ytchcpeenpijekaa
