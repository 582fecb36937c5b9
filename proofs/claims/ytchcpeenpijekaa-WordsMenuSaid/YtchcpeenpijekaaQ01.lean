/- Pieces, joined: Mem, BaseA. -/
import Derived.Test.YtchcpeenpijekaaProg
import Derived.WalkKit
import Derived.WalkSpells
import Derived.WalkLawsBesides
import Derived.Deep.QuietTactic
import Derived.BigQuiet
import Derived.Deep.RegionHeld3
import Derived.Deep.DrawnRows
import Derived.Deep.AppendLies
import Derived.Maps.AppendAt
import Derived.KernelRfl

/- Words for memory: a slice value that reads as a list of integers; what append and make leave; nothing here speaks of the program but its type numbers. -/
namespace Go.Proofs.Ytchcpeenpijekaa
open Go.RowKit
set_option linter.unusedVariables false

theorem hide {p : Prop} (h : p) : Hid p := h

/-- What a call hands back. -/
theorem retB {a b : Bool} (h : a = b) : Ending.returned (.bool a) = .returned (.bool b) := by rw [h]
theorem retI {k : IntKind} {a b : Int} (h : a = b) : Ending.returned (.int k a) = .returned (.int k b) := by rw [h]

/-- Element j of a list of integers, 0 behind its end. -/
def nth (l : List Int) (j : Nat) : Int := l.getD j 0

theorem nth_eq {l : List Int} {j : Nat} (h : j < l.length) : nth l j = l[j] := by
  simp [nth, h]
theorem nth_out {l : List Int} {j : Nat} (h : l.length ≤ j) : nth l j = 0 := by
  simp [nth, List.getElem?_eq_none h]
theorem nth_mem {l : List Int} {j : Nat} (h : j < l.length) : nth l j ∈ l := by
  rw [nth_eq h]; exact List.getElem_mem _
theorem mem_nth {l : List Int} {x : Int} (h : x ∈ l) : ∃ j, j < l.length ∧ nth l j = x := by
  obtain ⟨j, hj, rfl⟩ := List.mem_iff_getElem.1 h
  exact ⟨j, hj, nth_eq hj⟩
theorem nth_left {l r : List Int} {j : Nat} (h : j < l.length) : nth (l ++ r) j = nth l j := by
  simp [nth, List.getElem?_append_left h]
theorem nth_right {l r : List Int} {j : Nat} (h : l.length ≤ j) : nth (l ++ r) j = nth r (j - l.length) := by
  simp [nth, List.getElem?_append_right h]
theorem nth_take {l : List Int} {n j : Nat} (h : j < n) : nth (l.take n) j = nth l j := by
  simp [nth, h]
theorem nth_drop {l : List Int} {n j : Nat} : nth (l.drop n) j = nth l (n + j) := by
  simp [nth, List.getElem?_drop]
theorem take_snoc {l : List Int} {k : Nat} (h : k < l.length) : l.take (k + 1) = l.take k ++ [nth l k] := by
  rw [List.take_succ_eq_append_getElem h, nth_eq h]
theorem ext_nth {l r : List Int} (hl : l.length = r.length) (h : ∀ j, j < l.length → nth l j = nth r j) : l = r := by
  refine List.ext_getElem hl fun j h1 h2 => ?_
  rw [← nth_eq h1, ← nth_eq h2]; exact h j h1

/-- Every element is one of Go's 32 bits. -/
def W32 (l : List Int) : Prop := ∀ x, x ∈ l → -2147483648 ≤ x ∧ x ≤ 2147483647
theorem W32.nil : W32 [] := fun _ h => by cases h
theorem W32.bd {l : List Int} (h : W32 l) (j : Nat) : -2147483648 ≤ nth l j ∧ nth l j ≤ 2147483647 := by
  by_cases hj : j < l.length
  · exact h _ (nth_mem hj)
  · rw [nth_out (by omega)]; omega
theorem W32.app {l r : List Int} (h : W32 l) (k : W32 r) : W32 (l ++ r) := fun x hx => by
  rcases List.mem_append.1 hx with h1 | h1
  · exact h x h1
  · exact k x h1
theorem W32.one {x : Int} (h : -2147483648 ≤ x ∧ x ≤ 2147483647) : W32 [x] := fun y hy => by
  rw [List.mem_singleton.1 hy]; exact h
theorem W32.take {l : List Int} (h : W32 l) (n : Nat) : W32 (l.take n) := fun x hx => h x (List.mem_of_mem_take hx)
theorem W32.drop {l : List Int} (h : W32 l) (n : Nat) : W32 (l.drop n) := fun x hx => h x (List.mem_of_mem_drop hx)

theorem add_block (a : Addr) (n : Nat) : (a.add n).block = a.block := by unfold Addr.add; split <;> rfl
theorem add_add (a : Addr) (i j : Nat) : (a.add i).add j = a.add (i + j) := by
  unfold Addr.add
  by_cases hi : i = 0 <;> by_cases hj : j = 0 <;> simp [hi, hj, Nat.add_assoc]

theorem addr_lit (g o j : Nat) : (⟨g, o, none⟩ : Addr).add j = ⟨g, o + j, none⟩ := by unfold Addr.add; split <;> simp_all

/-- The slice at A, n long, reads as the runes l. -/
structure Runes (w : World) (A : Option Addr) (n : Nat) (l : List Int) : Prop where
  len : l.length = n
  at_ : ∀ j, j < n → ∃ b o, A = some ⟨b, o, none⟩ ∧ w.cell? ⟨b, o + j, none⟩ = some (.int .i32 (nth l j))
  wf : W32 l

section
variable {w w' : World} {A : Option Addr} {n : Nat} {l : List Int}
theorem Runes.nil (w : World) (A : Option Addr) : Runes w A 0 [] := ⟨rfl, fun j h => absurd h (by omega), W32.nil⟩
theorem Runes.keep (h : Runes w A n l) (hk : ∀ b o, A = some ⟨b, o, none⟩ → 0 < n → w'.heap[b]? = w.heap[b]?) : Runes w' A n l :=
  ⟨h.len, fun j hj => by
    obtain ⟨b, o, rfl, hc⟩ := h.at_ j hj
    exact ⟨b, o, rfl, (World.cell?_of_block (hk b o rfl (by omega))).trans hc⟩, h.wf⟩
theorem Runes.lt (h : Runes w A n l) (hn : 0 < n) {b o : Nat} (ha : A = some ⟨b, o, none⟩) : b < w.heap.size := by
  obtain ⟨b', o', h1, hc⟩ := h.at_ 0 hn
  rw [ha] at h1
  injection h1 with h1
  injection h1 with h1
  subst h1
  exact World.block_lt_of_cell? w _ hc
theorem Runes.below (h : Runes w A n l) (hb : Below w.heap.size w w') : Runes w' A n l :=
  h.keep fun _ _ ha hn => hb.block _ (h.lt hn ha)
theorem Runes.drewN (h : Runes w A n l) (k : Nat) : Runes (w.drewN k) A n l := h.keep fun _ _ _ _ => rfl
theorem Runes.drew (h : Runes w A n l) : Runes w.drew A n l := h.keep fun _ _ _ _ => rfl
theorem Runes.alloc (h : Runes w A n l) (o : Obj) : Runes (w.alloc o) A n l :=
  h.keep fun _ _ ha hn => Below.heap_alloc _ _ _ (h.lt hn ha)
theorem Runes.none_ (h : Runes w none n l) : n = 0 ∧ l = [] := by
  rcases Nat.eq_zero_or_pos n with h0 | h0
  · exact ⟨h0, List.eq_nil_of_length_eq_zero (h.len.trans h0)⟩
  · obtain ⟨_, _, h1, _⟩ := h.at_ 0 h0
    cases h1
/-- The first m of them. -/
theorem Runes.take (h : Runes w A n l) {m : Nat} (hm : m ≤ n) : Runes w A m (l.take m) :=
  ⟨by rw [List.length_take, h.len]; omega, fun j hj => by rw [nth_take hj]; exact h.at_ j (by omega), h.wf.take m⟩
/-- Those from m on. -/
theorem Runes.drop {b o : Nat} (h : Runes w (some ⟨b, o, none⟩) n l) {m : Nat} (hm : m ≤ n) : Runes w (some ⟨b, o + m, none⟩) (n - m) (l.drop m) :=
  ⟨by rw [List.length_drop, h.len], fun j hj => by
    obtain ⟨b', o', h1, hc⟩ := h.at_ (m + j) (by omega)
    injection h1 with h1
    injection h1 with h1 h2
    subst h1
    subst h2
    exact ⟨b, o + m, rfl, by rw [nth_drop, Nat.add_assoc]; exact hc⟩, h.wf.drop m⟩
end

/-- Where the elements from place a on lie, of a slice of capacity c. -/
def sub (A : Option Addr) (c a : Nat) : Option Addr := if c = a then A else A.map (·.add a)
theorem Runes.sub {w : World} {A : Option Addr} {n c a : Nat} {l : List Int} (h : Runes w A n l) (ha : a ≤ n) (hc : n ≤ c) : Runes w (sub A c a) (n - a) (l.drop a) := by
  by_cases hca : a = n
  · subst hca
    rw [Nat.sub_self, List.drop_of_length_le (by rw [h.len]; exact Nat.le_refl _)]
    exact Runes.nil _ _
  · obtain ⟨b, o, rfl, _⟩ := h.at_ a (by omega)
    have e : Go.Proofs.Ytchcpeenpijekaa.sub (some ⟨b, o, none⟩) c a = some ⟨b, o + a, none⟩ := by
      unfold Go.Proofs.Ytchcpeenpijekaa.sub
      rw [if_neg (by omega), Option.map_some, addr_lit]
    rw [e]
    exact h.drop ha
theorem Runes.mid {w : World} {A : Option Addr} {n c a m : Nat} {l : List Int} (h : Runes w A n l) (ha : a + m ≤ n) (hc : n ≤ c) : Runes w (Go.Proofs.Ytchcpeenpijekaa.sub A c a) m ((l.drop a).take m) :=
  (h.sub (by omega) hc).take (by omega)
/-- s[a : a + m] -/
theorem run_sub_lh (A : Option Addr) (n c a m : Nat) (h1 : a + m ≤ c) (W : World) :
    (Instr.slice 29 (.slice A n c) (some (.int .i64 (a : Int))) (some (.int .i64 ((a : Int) + (m : Int)))) none).run Try.prog W = .ok (.slice (sub A c a) m (c - a)) W := by
  have e : ((a : Int) + (m : Int)).toNat = a + m := by omega
  have hz : (sizeOf (Try.prog.elem 29)).run Try.prog W = .ok 1 W := by kernel_rfl
  rw [run_slice_lh (P := Try.prog) (t := 29) (ht := by kernel_rfl) (h0 := by omega) (h1 := by omega) (h2 := by omega), hz, e]
  simp [Result.andThen, sliced, sub]
/-- s[a :] -/
theorem run_sub_l (A : Option Addr) (n c a : Nat) (h1 : a ≤ n) (W : World) :
    (Instr.slice 29 (.slice A n c) (some (.int .i64 (a : Int))) none none).run Try.prog W = .ok (.slice (sub A c a) (n - a) (c - a)) W := by
  have hz : (sizeOf (Try.prog.elem 29)).run Try.prog W = .ok 1 W := by kernel_rfl
  rw [run_slice_l (P := Try.prog) (t := 29) (ht := by kernel_rfl) (h0 := by omega) (h1 := by omega), hz]
  simp [Result.andThen, sliced, sub]
/-- s[a + m :] -/
theorem run_sub_s (A : Option Addr) (n c a m : Nat) (h1 : a + m ≤ n) (W : World) :
    (Instr.slice 29 (.slice A n c) (some (.int .i64 ((a : Int) + (m : Int)))) none none).run Try.prog W = .ok (.slice (sub A c (a + m)) (n - (a + m)) (c - (a + m))) W := by
  have h := run_sub_l A n c (a + m) h1 W
  rwa [Int.natCast_add] at h
/-- s[: m] -/
theorem run_sub_h (A : Option Addr) (n c m : Nat) (h1 : m ≤ c) (W : World) :
    (Instr.slice 29 (.slice A n c) none (some (.int .i64 (m : Int))) none).run Try.prog W = .ok (.slice A m c) W := by
  have hz : (sizeOf (Try.prog.elem 29)).run Try.prog W = .ok 1 W := by kernel_rfl
  rw [run_slice_h (P := Try.prog) (t := 29) (ht := by kernel_rfl) (h0 := by omega) (h2 := by omega), hz]
  cases A <;> simp [Result.andThen, sliced, Addr.add]

/-- Block g is just these cells, all of them free to be written. -/
def Box (w : World) (g : Nat) (t : TypeId) (cs : Array Value) : Prop := w.heap[g]? = some (.cells cs t (0, 0))
section
variable {w w' : World} {g : Nat} {t : TypeId} {cs : Array Value}
theorem Box.lt (h : Box w g t cs) : g < w.heap.size := by
  unfold Box at h
  exact (Array.getElem?_eq_some_iff.1 h).1
theorem Box.cell (h : Box w g t cs) (i : Nat) : w.cell? ⟨g, i, none⟩ = cs[i]? := cell_of_row w g i cs t (0, 0) h
theorem Box.frozen (h : Box w g t cs) (i : Nat) : w.frozen? ⟨g, i, none⟩ = false := by
  unfold Box at h
  simp [World.frozen?, h]
theorem Box.new (w : World) (t : TypeId) (cs : Array Value) : Box (w.alloc (.cells cs t)) w.heap.size t cs := heap_alloc_new w _
theorem Box.newAt {w : World} {g : Nat} (hg : w.heap.size = g) (t : TypeId) (cs : Array Value) : Box (w.alloc (.cells cs t)) g t cs := by
  subst hg; exact heap_alloc_new w _
theorem Box.drew (h : Box w g t cs) : Box w.drew g t cs := h
theorem Box.drewN (h : Box w g t cs) (n : Nat) : Box (w.drewN n) g t cs := h
theorem Box.alloc (h : Box w g t cs) (o : Obj) : Box (w.alloc o) g t cs := (Below.heap_alloc w o g h.lt).trans h
theorem Box.below (h : Box w g t cs) (hb : Below w.heap.size w w') : Box w' g t cs := (hb.block g h.lt).trans h
theorem Box.low {B : Nat} (h : Box w g t cs) (hb : Below B w w') (hg : g < B) : Box w' g t cs := (hb.block g hg).trans h
theorem Box.grown {row : Option Nat} (h : Box w g t cs) (hb : w.grownBy w' row) (hg : some g ≠ row) : Box w' g t cs := (hb.block g h.lt hg).trans h
theorem Box.far (h : Box w g t cs) {p : Addr} (hp : g ≠ p.block) (u : Value) : Box (w.setCell p u) g t cs := (Below.heap_setCell w p u g hp).trans h
theorem Box.set (h : Box w g t cs) (i : Nat) (u : Value) : Box (w.setCell ⟨g, i, none⟩ u) g t (cs.setIfInBounds i u) := by
  unfold Box at h ⊢
  simp [World.setCell, Array.getElem?_modify, h]
theorem Box.c1 {a : Value} (h : Box w g t #[a]) : w.cell? ⟨g, 0, none⟩ = some a ∧ w.frozen? ⟨g, 0, none⟩ = false := ⟨h.cell 0, h.frozen 0⟩
theorem Box.c2 {a b : Value} (h : Box w g t #[a, b]) : (w.cell? ⟨g, 0, none⟩ = some a ∧ w.cell? ⟨g, 1, none⟩ = some b) ∧ w.frozen? ⟨g, 0, none⟩ = false ∧ w.frozen? ⟨g, 1, none⟩ = false :=
  ⟨⟨h.cell 0, h.cell 1⟩, h.frozen 0, h.frozen 1⟩
theorem Box.c3 {a b c : Value} (h : Box w g t #[a, b, c]) : (w.cell? ⟨g, 0, none⟩ = some a ∧ w.cell? ⟨g, 1, none⟩ = some b ∧ w.cell? ⟨g, 2, none⟩ = some c) ∧
    w.frozen? ⟨g, 0, none⟩ = false ∧ w.frozen? ⟨g, 1, none⟩ = false ∧ w.frozen? ⟨g, 2, none⟩ = false :=
  ⟨⟨h.cell 0, h.cell 1, h.cell 2⟩, h.frozen 0, h.frozen 1, h.frozen 2⟩
end

theorem bcell {B : Nat} {W w1 : World} (hb : Below B W w1) : (∀ b o, b < B → w1.cell? ⟨b, o, none⟩ = W.cell? ⟨b, o, none⟩) ∧ (∀ b o, b < B → w1.frozen? ⟨b, o, none⟩ = W.frozen? ⟨b, o, none⟩) :=
  ⟨fun b o h => hb.cell (p := ⟨b, o, none⟩) h, fun b o h => hb.frozen (p := ⟨b, o, none⟩) h⟩
end Go.Proofs.Ytchcpeenpijekaa

/- Contracts of the small functions on texts: is an element a sign, may a text be, are texts the same; Go's slices.IndexFunc, ContainsFunc, Equal, at runes. -/
namespace Go.Proofs.Ytchcpeenpijekaa
open Go.RowKit
set_option linter.unusedVariables false

/-- Is a number a sign? -/
def isS (r : Int) : Bool := decide (0 ≤ r) && decide (r ≤ 1114111) && (decide (r < 55296) || decide (57343 < r))
def mayS (l : List Int) : Bool := l.all isS
def sameS (a b : List Int) : Bool := decide (a = b)

set_option maxHeartbeats 400000 in
theorem sign_any (r : Int) (w : World) :
    Calls Try.prog 68 #[.int .i32 r] w fun e w' => e = .returned (.bool (isS r)) ∧ w = w' := by
  go_enter Try.func68, Try.ntmps68
  go_wp2
  all_goals go_ret
  all_goals refine ⟨retB ?_, rfl⟩
  all_goals rw [Bool.eq_iff_iff]; simp [isS]; try omega

set_option maxHeartbeats 400000 in
theorem is_any (r : Int) (w : World) :
    Calls Try.prog 67 #[.int .i32 r] w fun e w' => e = .returned (.bool (isS r)) ∧ w = w' := by
  go_enter Try.func67, Try.ntmps67
  go_wp2
  all_goals go_ret
  all_goals refine ⟨retB ?_, rfl⟩
  all_goals rw [Bool.eq_iff_iff]; simp [isS]; try omega

theorem mayS_yes {l : List Int} (h : ∀ j, j < l.length → isS (nth l j) = true) : mayS l = true := by
  unfold mayS
  rw [List.all_eq_true]
  intro x hx
  obtain ⟨j, hj, rfl⟩ := mem_nth hx
  exact h j hj
theorem mayS_no {l : List Int} {j : Nat} (hj : j < l.length) (h : isS (nth l j) = false) : mayS l = false := by
  cases hm : mayS l
  · rfl
  · rw [mayS, List.all_eq_true] at hm
    rw [hm _ (nth_mem hj)] at h
    cases h

set_option maxHeartbeats 400000 in
theorem refMay_any (A : Option Addr) (n c : Nat) (l : List Int) (w : World) (h : Runes w A n l) (hn : n ≤ 9223372036854775807) :
    Calls Try.prog 45 #[.slice A n c] w fun e w' => e = .returned (.bool (mayS l)) ∧ w = w' := by
  have HL := hide h.len
  go_enter Try.func45, Try.ntmps45
  go_wp2_with fail
  go_loop [3] (fun i => ∃ k : Nat, k ≤ n ∧ i = .int .i64 k ∧ Hid (∀ j, j < k → isS (nth l j) = true)) (fun i => n - (intOf i).toNat)
  case atStart => exact ⟨0, Nat.zero_le _, rfl, fun j hj => absurd hj (by omega)⟩
  case round =>
    obtain ⟨k, hk, rfl, hj⟩ := hrel
    by_cases hlt : k < n
    · obtain ⟨ab, ao, rfl, hc⟩ := h.at_ k hlt
      cases hs : isS (nth l k)
      · go_wp2_with (go_at_call 68; refine (sign_any _ _).mono ?_; rintro e w' ⟨rfl, rfl⟩)
        go_ret
        exact ⟨retB (mayS_no (by rw [HL.out]; exact hlt) hs).symm, rfl⟩
      · have HS := hide hs
        go_wp2_with (go_at_call 68; refine (sign_any _ _).mono ?_; rintro e w' ⟨rfl, rfl⟩)
        go_round
        case rel => exact ⟨k + 1, by omega, by go_num, fun j h' => (by
          rcases Nat.lt_succ_iff_lt_or_eq.1 h' with h1 | h1
          · exact hj.out j h1
          · rw [h1]; exact HS.out)⟩
        case measure => simp [intOf]; omega
    · go_wp2
      go_ret
      exact ⟨retB (mayS_yes (fun j h' => hj.out j (by have := HL.out; omega))).symm, rfl⟩


theorem sameS_no {a b : List Int} {j : Nat} (h : nth a j ≠ nth b j) : sameS a b = false := by
  unfold sameS
  exact decide_eq_false (fun e => h (by rw [e]))
theorem sameS_len {a b : List Int} (h : a.length ≠ b.length) : sameS a b = false := by
  unfold sameS
  exact decide_eq_false (fun e => h (by rw [e]))
theorem sameS_yes {a b : List Int} (hl : a.length = b.length) (h : ∀ j, j < a.length → nth a j = nth b j) : sameS a b = true := by
  unfold sameS
  exact decide_eq_true (ext_nth hl h)

set_option maxHeartbeats 400000 in
theorem refSame_any (A B : Option Addr) (n c m d : Nat) (a b : List Int) (w : World) (ha : Runes w A n a) (hb : Runes w B m b) (hn : n ≤ 9223372036854775807) (hm : m ≤ 9223372036854775807) :
    Calls Try.prog 31 #[.slice A n c, .slice B m d] w fun e w' => e = .returned (.bool (sameS a b)) ∧ ∃ q, w' = w.drewN q := by
  have HA := hide ha.len
  have HB := hide hb.len
  by_cases hnm : n = m
  · subst hnm
    go_enter Try.func31, Try.ntmps31
    go_wp2_with fail
    go_loopw [5] (fun i wr => ∃ k q : Nat, k ≤ n ∧ i = .int .i64 k ∧ wr = w.drewN q ∧ Hid (∀ j, j < k → nth a j = nth b j)) (fun i _ => n - (intOf i).toNat)
    case atStart => exact ⟨0, 0, Nat.zero_le _, rfl, rfl, fun j hj => absurd hj (by omega)⟩
    case round =>
      obtain ⟨k, q, hk, rfl, rfl, hj⟩ := hrel
      by_cases hlt : k < n
      · obtain ⟨ab, ao, rfl, hc⟩ := ha.at_ k hlt
        obtain ⟨bb, bo, rfl, hd⟩ := hb.at_ k hlt
        have h1 : (k : Int) < (n : Int) := by omega
        have h0 : (0 : Int) ≤ (k : Int) := by omega
        by_cases hs : nth a k = nth b k
        · have HS := hide hs
          have hs' : (nth a k != nth b k) = false := by rw [hs]; simp
          clear hs
          go_wp2_with fail
          go_quiet (fail)
          go_wp2
          go_roundw
          case rel => exact ⟨k + 1, _, by omega, by go_num, rfl, fun j h' => (by
            rcases Nat.lt_succ_iff_lt_or_eq.1 h' with h1 | h1
            · exact hj.out j h1
            · rw [h1]; exact HS.out)⟩
          case measure => simp [intOf]; omega
        · have HS := hide hs
          have hs' : (nth a k != nth b k) = true := by simpa using hs
          clear hs
          go_wp2_with fail
          go_quiet (fail)
          go_wp2
          go_ret
          exact ⟨retB (sameS_no HS.out).symm, _, World.drewN_drewN _ _ _⟩
      · go_wp2
        go_ret
        exact ⟨retB (sameS_yes (by rw [HA.out, HB.out]) (fun j h' => hj.out j (by have := HA.out; omega))).symm, _, rfl⟩
  · have hs' : ((n : Int) != (m : Int)) = true := by simp; omega
    go_enter Try.func31, Try.ntmps31
    go_wp2
    go_ret
    exact ⟨retB (sameS_len (by rw [HA.out, HB.out]; exact hnm)).symm, 0, rfl⟩


/-- The first place at which p holds, from k on; -1: none. -/
def idxF (p : Int → Bool) (l : List Int) : Int := match l.findIdx? p with | some i => (i : Int) | none => -1

theorem idxF_at {p : Int → Bool} {l : List Int} {k : Nat} (hk : k < l.length) (h : p (nth l k) = true) (hj : ∀ j, j < k → p (nth l j) = false) : idxF p l = (k : Int) := by
  have : l.findIdx? p = some k := by
    rw [List.findIdx?_eq_some_iff_getElem]
    refine ⟨hk, by rw [← nth_eq hk]; exact h, fun j hlt => ?_⟩
    have := hj j hlt
    rw [nth_eq (by omega)] at this
    simp [this]
  simp [idxF, this]
theorem idxF_no {p : Int → Bool} {l : List Int} (hj : ∀ j, j < l.length → p (nth l j) = false) : idxF p l = -1 := by
  have : l.findIdx? p = none := by
    rw [List.findIdx?_eq_none_iff]
    intro x hx
    obtain ⟨j, hlt, rfl⟩ := mem_nth hx
    exact hj j hlt
  simp [idxF, this]

set_option maxHeartbeats 400000 in
theorem indexFunc_any (g : FuncId) (eg : ∀ args w, (callFunc g args).run Try.prog w = .ok (.enter g args) w) (p : Int → Bool) (hg : ∀ (r : Int) (w : World), Calls Try.prog g #[.int .i32 r] w fun e w' => e = .returned (.bool (p r)) ∧ w = w')
    (A : Option Addr) (n c : Nat) (l : List Int) (w : World) (h : Runes w A n l) (hn : n ≤ 9223372036854775807) :
    Calls Try.prog 77 #[.slice A n c, .func (.func g) #[] #[]] w fun e w' => e = .returned (.int .i64 (idxF p l)) ∧ w = w' := by
  have HL := hide h.len
  have HG := hide hg
  clear hg
  go_enter Try.func77, Try.ntmps77
  go_wp2_with fail
  go_loop [5, 8] (fun _ i => ∃ k : Nat, k ≤ n ∧ i = .int .i64 k ∧ Hid (∀ j, j < k → p (nth l j) = false)) (fun _ i => n - (intOf i).toNat)
  case atStart => exact ⟨0, Nat.zero_le _, rfl, fun j hj => absurd hj (by omega)⟩
  case round =>
    obtain ⟨k, hk, rfl, hj⟩ := hrel
    by_cases hlt : k < n
    · obtain ⟨ab, ao, rfl, hc⟩ := h.at_ k hlt
      cases hs : p (nth l k)
      · have HS := hide hs
        go_wp2_with fail
        refine (HG.out _ _).mono ?_
        rintro e w' ⟨rfl, rfl⟩
        go_wp2
        go_round
        case rel => exact ⟨k + 1, by omega, by go_num, fun j h' => (by
          rcases Nat.lt_succ_iff_lt_or_eq.1 h' with h1 | h1
          · exact hj.out j h1
          · rw [h1]; exact HS.out)⟩
        case measure => simp [intOf]; omega
      · have HS := hide hs
        go_wp2_with fail
        refine (HG.out _ _).mono ?_
        rintro e w' ⟨rfl, rfl⟩
        go_wp2
        go_ret
        exact ⟨retI (idxF_at (by rw [HL.out]; exact hlt) HS.out hj.out).symm, rfl⟩
    · go_wp2
      go_ret
      exact ⟨retI (idxF_no (fun j h' => hj.out j (by have := HL.out; omega))).symm, rfl⟩


set_option maxHeartbeats 400000 in
theorem containsFunc_any (g : FuncId) (eg : ∀ args w, (callFunc g args).run Try.prog w = .ok (.enter g args) w) (p : Int → Bool) (hg : ∀ (r : Int) (w : World), Calls Try.prog g #[.int .i32 r] w fun e w' => e = .returned (.bool (p r)) ∧ w = w')
    (A : Option Addr) (n c : Nat) (l : List Int) (w : World) (h : Runes w A n l) (hn : n ≤ 9223372036854775807) :
    Calls Try.prog 65 #[.slice A n c, .func (.func g) #[] #[]] w fun e w' => e = .returned (.bool (l.any p)) ∧ w = w' := by
  have HG := hide hg
  clear hg
  have hi : (decide (0 ≤ idxF p l)) = l.any p := by
    cases hf : l.findIdx? p with
    | none =>
      have : l.any p = false := by
        rw [List.findIdx?_eq_none_iff] at hf
        rw [List.any_eq_false]
        intro x hx
        simp [hf x hx]
      rw [this]; simp [idxF, hf]
    | some i =>
      have : l.any p = true := by
        rw [List.findIdx?_eq_some_iff_getElem] at hf
        obtain ⟨h1, h2, _⟩ := hf
        rw [List.any_eq_true]
        exact ⟨_, List.getElem_mem h1, h2⟩
      rw [this]; simp [idxF, hf]
  have HI := hide hi
  clear hi
  go_enter Try.func65, Try.ntmps65
  go_wp2_with fail
  refine (indexFunc_any g eg p HG.out A n c l w h hn).mono ?_
  rintro e w' ⟨rfl, rfl⟩
  go_wp2
  all_goals go_ret
  all_goals first | exact ⟨retB HI.out, rfl⟩ | exact ⟨retB (by rw [← HI.out]; simp; omega), rfl⟩

set_option maxHeartbeats 400000 in
theorem mayNot_any (r : Int) (w : World) :
    Calls Try.prog 66 #[.int .i32 r] w fun e w' => e = .returned (.bool (!isS r)) ∧ w = w' := by
  go_enter Try.func66, Try.ntmps66
  go_wp2_with fail
  refine (is_any _ _).mono ?_
  rintro e w' ⟨rfl, rfl⟩
  go_wp2
  go_ret
  exact ⟨rfl, rfl⟩

theorem not_any (l : List Int) : (!l.any fun r => !isS r) = mayS l := by
  unfold mayS
  induction l with
  | nil => rfl
  | cons x l ih => simp only [List.any_cons, List.all_cons, ← ih, Bool.not_or, Bool.not_not]

set_option maxHeartbeats 400000 in
theorem may_any (A : Option Addr) (n c : Nat) (l : List Int) (w : World) (h : Runes w A n l) (hn : n ≤ 9223372036854775807) :
    Calls Try.prog 44 #[.slice A n c] w fun e w' => e = .returned (.bool (mayS l)) ∧ w = w' := by
  go_enter Try.func44, Try.ntmps44
  go_wp2_with fail
  refine (containsFunc_any 66 Try.call66 (fun r => !isS r) mayNot_any A n c l w h hn).mono ?_
  rintro e w' ⟨rfl, rfl⟩
  go_wp2
  go_ret
  exact ⟨retB (not_any l), rfl⟩

end Go.Proofs.Ytchcpeenpijekaa
