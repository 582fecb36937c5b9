/- Words for memory: a slice value that reads as a list of integers; what append and make leave; nothing here speaks of the program but its type numbers. -/
import Derived.Test.YtfeflmpdbejhjaaDoorProg
import Derived.WalkKit
import Derived.WalkSpells
import Derived.WalkLawsBesides
import Derived.Deep.QuietTactic
import Derived.BigQuiet
import Derived.Deep.RegionHeld3
import Derived.Deep.DrawnRows
import Derived.Deep.AppendLies
import Derived.Maps.AppendAt
import Derived.KernelRfl
namespace Go.Proofs.YtfeflmpdbejhjaaDoor
open Go.RowKit
set_option linter.unusedVariables false

theorem hide {p : Prop} (h : p) : Hid p := h

/-- What a call hands back. -/
theorem retB {a b : Bool} (h : a = b) : Ending.returned (.bool a) = .returned (.bool b) := by rw [h]
theorem retI {k : IntKind} {a b : Int} (h : a = b) : Ending.returned (.int k a) = .returned (.int k b) := by rw [h]

/-- Element j of a list of integers, 0 behind its end. -/
def nth (l : List Int) (j : Nat) : Int := l.getD j 0

theorem nth_eq {l : List Int} {j : Nat} (h : j < l.length) : nth l j = l[j] := by
  simp [nth, h]
theorem nth_out {l : List Int} {j : Nat} (h : l.length ≤ j) : nth l j = 0 := by
  simp [nth, List.getElem?_eq_none h]
theorem nth_mem {l : List Int} {j : Nat} (h : j < l.length) : nth l j ∈ l := by
  rw [nth_eq h]; exact List.getElem_mem _
theorem mem_nth {l : List Int} {x : Int} (h : x ∈ l) : ∃ j, j < l.length ∧ nth l j = x := by
  obtain ⟨j, hj, rfl⟩ := List.mem_iff_getElem.1 h
  exact ⟨j, hj, nth_eq hj⟩
theorem nth_left {l r : List Int} {j : Nat} (h : j < l.length) : nth (l ++ r) j = nth l j := by
  simp [nth, List.getElem?_append_left h]
theorem nth_right {l r : List Int} {j : Nat} (h : l.length ≤ j) : nth (l ++ r) j = nth r (j - l.length) := by
  simp [nth, List.getElem?_append_right h]
theorem nth_take {l : List Int} {n j : Nat} (h : j < n) : nth (l.take n) j = nth l j := by
  simp [nth, h]
theorem nth_drop {l : List Int} {n j : Nat} : nth (l.drop n) j = nth l (n + j) := by
  simp [nth, List.getElem?_drop]
theorem take_snoc {l : List Int} {k : Nat} (h : k < l.length) : l.take (k + 1) = l.take k ++ [nth l k] := by
  rw [List.take_succ_eq_append_getElem h, nth_eq h]
theorem ext_nth {l r : List Int} (hl : l.length = r.length) (h : ∀ j, j < l.length → nth l j = nth r j) : l = r := by
  refine List.ext_getElem hl fun j h1 h2 => ?_
  rw [← nth_eq h1, ← nth_eq h2]; exact h j h1

/-- Every element is one of Go's 32 bits. -/
def W32 (l : List Int) : Prop := ∀ x, x ∈ l → -2147483648 ≤ x ∧ x ≤ 2147483647
theorem W32.nil : W32 [] := fun _ h => by cases h
theorem W32.bd {l : List Int} (h : W32 l) (j : Nat) : -2147483648 ≤ nth l j ∧ nth l j ≤ 2147483647 := by
  by_cases hj : j < l.length
  · exact h _ (nth_mem hj)
  · rw [nth_out (by omega)]; omega
theorem W32.app {l r : List Int} (h : W32 l) (k : W32 r) : W32 (l ++ r) := fun x hx => by
  rcases List.mem_append.1 hx with h1 | h1
  · exact h x h1
  · exact k x h1
theorem W32.one {x : Int} (h : -2147483648 ≤ x ∧ x ≤ 2147483647) : W32 [x] := fun y hy => by
  rw [List.mem_singleton.1 hy]; exact h
theorem W32.take {l : List Int} (h : W32 l) (n : Nat) : W32 (l.take n) := fun x hx => h x (List.mem_of_mem_take hx)
theorem W32.drop {l : List Int} (h : W32 l) (n : Nat) : W32 (l.drop n) := fun x hx => h x (List.mem_of_mem_drop hx)

theorem add_block (a : Addr) (n : Nat) : (a.add n).block = a.block := by unfold Addr.add; split <;> rfl
theorem add_add (a : Addr) (i j : Nat) : (a.add i).add j = a.add (i + j) := by
  unfold Addr.add
  by_cases hi : i = 0 <;> by_cases hj : j = 0 <;> simp [hi, hj, Nat.add_assoc]

theorem addr_lit (g o j : Nat) : (⟨g, o, none⟩ : Addr).add j = ⟨g, o + j, none⟩ := by unfold Addr.add; split <;> simp_all

/-- The slice at A, n long, reads as the runes l. -/
structure Runes (w : World) (A : Option Addr) (n : Nat) (l : List Int) : Prop where
  len : l.length = n
  at_ : ∀ j, j < n → ∃ b o, A = some ⟨b, o, none⟩ ∧ w.cell? ⟨b, o + j, none⟩ = some (.int .i32 (nth l j))
  wf : W32 l

section
variable {w w' : World} {A : Option Addr} {n : Nat} {l : List Int}
theorem Runes.nil (w : World) (A : Option Addr) : Runes w A 0 [] := ⟨rfl, fun j h => absurd h (by omega), W32.nil⟩
theorem Runes.keep (h : Runes w A n l) (hk : ∀ b o, A = some ⟨b, o, none⟩ → 0 < n → w'.heap[b]? = w.heap[b]?) : Runes w' A n l :=
  ⟨h.len, fun j hj => by
    obtain ⟨b, o, rfl, hc⟩ := h.at_ j hj
    exact ⟨b, o, rfl, (World.cell?_of_block (hk b o rfl (by omega))).trans hc⟩, h.wf⟩
theorem Runes.lt (h : Runes w A n l) (hn : 0 < n) {b o : Nat} (ha : A = some ⟨b, o, none⟩) : b < w.heap.size := by
  obtain ⟨b', o', h1, hc⟩ := h.at_ 0 hn
  rw [ha] at h1
  injection h1 with h1
  injection h1 with h1
  subst h1
  exact World.block_lt_of_cell? w _ hc
theorem Runes.below (h : Runes w A n l) (hb : Below w.heap.size w w') : Runes w' A n l :=
  h.keep fun _ _ ha hn => hb.block _ (h.lt hn ha)
theorem Runes.drewN (h : Runes w A n l) (k : Nat) : Runes (w.drewN k) A n l := h.keep fun _ _ _ _ => rfl
theorem Runes.drew (h : Runes w A n l) : Runes w.drew A n l := h.keep fun _ _ _ _ => rfl
theorem Runes.alloc (h : Runes w A n l) (o : Obj) : Runes (w.alloc o) A n l :=
  h.keep fun _ _ ha hn => Below.heap_alloc _ _ _ (h.lt hn ha)
theorem Runes.none_ (h : Runes w none n l) : n = 0 ∧ l = [] := by
  rcases Nat.eq_zero_or_pos n with h0 | h0
  · exact ⟨h0, List.eq_nil_of_length_eq_zero (h.len.trans h0)⟩
  · obtain ⟨_, _, h1, _⟩ := h.at_ 0 h0
    cases h1
/-- The first m of them. -/
theorem Runes.take (h : Runes w A n l) {m : Nat} (hm : m ≤ n) : Runes w A m (l.take m) :=
  ⟨by rw [List.length_take, h.len]; omega, fun j hj => by rw [nth_take hj]; exact h.at_ j (by omega), h.wf.take m⟩
/-- Those from m on. -/
theorem Runes.drop {b o : Nat} (h : Runes w (some ⟨b, o, none⟩) n l) {m : Nat} (hm : m ≤ n) : Runes w (some ⟨b, o + m, none⟩) (n - m) (l.drop m) :=
  ⟨by rw [List.length_drop, h.len], fun j hj => by
    obtain ⟨b', o', h1, hc⟩ := h.at_ (m + j) (by omega)
    injection h1 with h1
    injection h1 with h1 h2
    subst h1
    subst h2
    exact ⟨b, o + m, rfl, by rw [nth_drop, Nat.add_assoc]; exact hc⟩, h.wf.drop m⟩
end

/-- Where the elements from place a on lie, of a slice of capacity c. -/
def sub (A : Option Addr) (c a : Nat) : Option Addr := if c = a then A else A.map (·.add a)
theorem Runes.sub {w : World} {A : Option Addr} {n c a : Nat} {l : List Int} (h : Runes w A n l) (ha : a ≤ n) (hc : n ≤ c) : Runes w (sub A c a) (n - a) (l.drop a) := by
  by_cases hca : a = n
  · subst hca
    rw [Nat.sub_self, List.drop_of_length_le (by rw [h.len]; exact Nat.le_refl _)]
    exact Runes.nil _ _
  · obtain ⟨b, o, rfl, _⟩ := h.at_ a (by omega)
    have e : Go.Proofs.YtfeflmpdbejhjaaDoor.sub (some ⟨b, o, none⟩) c a = some ⟨b, o + a, none⟩ := by
      unfold Go.Proofs.YtfeflmpdbejhjaaDoor.sub
      rw [if_neg (by omega), Option.map_some, addr_lit]
    rw [e]
    exact h.drop ha
theorem Runes.mid {w : World} {A : Option Addr} {n c a m : Nat} {l : List Int} (h : Runes w A n l) (ha : a + m ≤ n) (hc : n ≤ c) : Runes w (Go.Proofs.YtfeflmpdbejhjaaDoor.sub A c a) m ((l.drop a).take m) :=
  (h.sub (by omega) hc).take (by omega)
/-- s[a : a + m] -/
theorem run_sub_lh (A : Option Addr) (n c a m : Nat) (h1 : a + m ≤ c) (W : World) :
    (Instr.slice 22 (.slice A n c) (some (.int .i64 (a : Int))) (some (.int .i64 ((a : Int) + (m : Int)))) none).run Tryd.prog W = .ok (.slice (sub A c a) m (c - a)) W := by
  have e : ((a : Int) + (m : Int)).toNat = a + m := by omega
  have hz : (sizeOf (Tryd.prog.elem 22)).run Tryd.prog W = .ok 1 W := by kernel_rfl
  rw [run_slice_lh (P := Tryd.prog) (t := 22) (ht := by kernel_rfl) (h0 := by omega) (h1 := by omega) (h2 := by omega), hz, e]
  simp [Result.andThen, sliced, sub]
/-- s[a :] -/
theorem run_sub_l (A : Option Addr) (n c a : Nat) (h1 : a ≤ n) (W : World) :
    (Instr.slice 22 (.slice A n c) (some (.int .i64 (a : Int))) none none).run Tryd.prog W = .ok (.slice (sub A c a) (n - a) (c - a)) W := by
  have hz : (sizeOf (Tryd.prog.elem 22)).run Tryd.prog W = .ok 1 W := by kernel_rfl
  rw [run_slice_l (P := Tryd.prog) (t := 22) (ht := by kernel_rfl) (h0 := by omega) (h1 := by omega), hz]
  simp [Result.andThen, sliced, sub]
/-- s[a + m :] -/
theorem run_sub_s (A : Option Addr) (n c a m : Nat) (h1 : a + m ≤ n) (W : World) :
    (Instr.slice 22 (.slice A n c) (some (.int .i64 ((a : Int) + (m : Int)))) none none).run Tryd.prog W = .ok (.slice (sub A c (a + m)) (n - (a + m)) (c - (a + m))) W := by
  have h := run_sub_l A n c (a + m) h1 W
  rwa [Int.natCast_add] at h
/-- s[: m] -/
theorem run_sub_h (A : Option Addr) (n c m : Nat) (h1 : m ≤ c) (W : World) :
    (Instr.slice 22 (.slice A n c) none (some (.int .i64 (m : Int))) none).run Tryd.prog W = .ok (.slice A m c) W := by
  have hz : (sizeOf (Tryd.prog.elem 22)).run Tryd.prog W = .ok 1 W := by kernel_rfl
  rw [run_slice_h (P := Tryd.prog) (t := 22) (ht := by kernel_rfl) (h0 := by omega) (h2 := by omega), hz]
  cases A <;> simp [Result.andThen, sliced, Addr.add]

/-- Block g is just these cells, all of them free to be written. -/
def Box (w : World) (g : Nat) (t : TypeId) (cs : Array Value) : Prop := w.heap[g]? = some (.cells cs t (0, 0))
section
variable {w w' : World} {g : Nat} {t : TypeId} {cs : Array Value}
theorem Box.lt (h : Box w g t cs) : g < w.heap.size := by
  unfold Box at h
  exact (Array.getElem?_eq_some_iff.1 h).1
theorem Box.cell (h : Box w g t cs) (i : Nat) : w.cell? ⟨g, i, none⟩ = cs[i]? := cell_of_row w g i cs t (0, 0) h
theorem Box.frozen (h : Box w g t cs) (i : Nat) : w.frozen? ⟨g, i, none⟩ = false := by
  unfold Box at h
  simp [World.frozen?, h]
theorem Box.new (w : World) (t : TypeId) (cs : Array Value) : Box (w.alloc (.cells cs t)) w.heap.size t cs := heap_alloc_new w _
theorem Box.newAt {w : World} {g : Nat} (hg : w.heap.size = g) (t : TypeId) (cs : Array Value) : Box (w.alloc (.cells cs t)) g t cs := by
  subst hg; exact heap_alloc_new w _
theorem Box.drew (h : Box w g t cs) : Box w.drew g t cs := h
theorem Box.drewN (h : Box w g t cs) (n : Nat) : Box (w.drewN n) g t cs := h
theorem Box.alloc (h : Box w g t cs) (o : Obj) : Box (w.alloc o) g t cs := (Below.heap_alloc w o g h.lt).trans h
theorem Box.below (h : Box w g t cs) (hb : Below w.heap.size w w') : Box w' g t cs := (hb.block g h.lt).trans h
theorem Box.low {B : Nat} (h : Box w g t cs) (hb : Below B w w') (hg : g < B) : Box w' g t cs := (hb.block g hg).trans h
theorem Box.grown {row : Option Nat} (h : Box w g t cs) (hb : w.grownBy w' row) (hg : some g ≠ row) : Box w' g t cs := (hb.block g h.lt hg).trans h
theorem Box.far (h : Box w g t cs) {p : Addr} (hp : g ≠ p.block) (u : Value) : Box (w.setCell p u) g t cs := (Below.heap_setCell w p u g hp).trans h
theorem Box.set (h : Box w g t cs) (i : Nat) (u : Value) : Box (w.setCell ⟨g, i, none⟩ u) g t (cs.setIfInBounds i u) := by
  unfold Box at h ⊢
  simp [World.setCell, Array.getElem?_modify, h]
theorem Box.c1 {a : Value} (h : Box w g t #[a]) : w.cell? ⟨g, 0, none⟩ = some a ∧ w.frozen? ⟨g, 0, none⟩ = false := ⟨h.cell 0, h.frozen 0⟩
theorem Box.c2 {a b : Value} (h : Box w g t #[a, b]) : (w.cell? ⟨g, 0, none⟩ = some a ∧ w.cell? ⟨g, 1, none⟩ = some b) ∧ w.frozen? ⟨g, 0, none⟩ = false ∧ w.frozen? ⟨g, 1, none⟩ = false :=
  ⟨⟨h.cell 0, h.cell 1⟩, h.frozen 0, h.frozen 1⟩
theorem Box.c3 {a b c : Value} (h : Box w g t #[a, b, c]) : (w.cell? ⟨g, 0, none⟩ = some a ∧ w.cell? ⟨g, 1, none⟩ = some b ∧ w.cell? ⟨g, 2, none⟩ = some c) ∧
    w.frozen? ⟨g, 0, none⟩ = false ∧ w.frozen? ⟨g, 1, none⟩ = false ∧ w.frozen? ⟨g, 2, none⟩ = false :=
  ⟨⟨h.cell 0, h.cell 1, h.cell 2⟩, h.frozen 0, h.frozen 1, h.frozen 2⟩
end

theorem bcell {B : Nat} {W w1 : World} (hb : Below B W w1) : (∀ b o, b < B → w1.cell? ⟨b, o, none⟩ = W.cell? ⟨b, o, none⟩) ∧ (∀ b o, b < B → w1.frozen? ⟨b, o, none⟩ = W.frozen? ⟨b, o, none⟩) :=
  ⟨fun b o h => hb.cell (p := ⟨b, o, none⟩) h, fun b o h => hb.frozen (p := ⟨b, o, none⟩) h⟩
end Go.Proofs.YtfeflmpdbejhjaaDoor
