/- Rows of fields: how they lie in memory; tabs.home, last; cmp.Compare, Or; tabs.Order's test. -/
import Derived.Test.YtfeflmpdbejhjaaStabS
namespace Go.Proofs.Ytfeflmpdbejhjaa
open Go.RowKit
set_option linter.unusedVariables false

structure FV where
  kind : Int
  num : Int
  x2 : Int
  x3 : Int
  x4 : Int
  x5 : Int
  A6 : Option Addr
  n6 : Nat
  c6 : Nat
  A7 : Option Addr
  n7 : Nat
  c7 : Nat
  A8 : Option Addr
  n8 : Nat
  c8 : Nat
  b9 : Bool
  b10 : Bool
abbrev FV.cells (v : FV) : List Value := [.int .i64 v.kind, .int .i64 v.num, .int .i64 v.x2, .int .i64 v.x3, .int .i64 v.x4, .int .i64 v.x5, .slice v.A6 v.n6 v.c6, .slice v.A7 v.n7 v.c7, .slice v.A8 v.n8 v.c8, .bool v.b9, .bool v.b10]
/-- The slice at A, n long, holds these fields. -/
structure Flds (w : World) (A : Option Addr) (n : Nat) (us : Nat → FV) : Prop where
  at_ : ∀ j, j < n → ∃ b o, A = some ⟨b, o, none⟩ ∧ ∀ i, i < 11 → w.cell? ⟨b, o + j * 11 + i, none⟩ = (us j).cells[i]?
  wf : ∀ j, j < n → (-9223372036854775808 ≤ (us j).kind ∧ (us j).kind ≤ 9223372036854775807) ∧ (-9223372036854775808 ≤ (us j).num ∧ (us j).num ≤ 9223372036854775807)
theorem Flds.keep {w w' : World} {A : Option Addr} {n : Nat} {us : Nat → FV} (h : Flds w A n us) (hk : ∀ b o, A = some ⟨b, o, none⟩ → 0 < n → w'.heap[b]? = w.heap[b]?) : Flds w' A n us :=
  ⟨fun j hj => by
    obtain ⟨b, o, e, hc⟩ := h.at_ j hj
    exact ⟨b, o, e, fun i hi => (World.cell?_of_block (hk b o e (by omega))).trans (hc i hi)⟩, h.wf⟩
theorem Flds.lt {w : World} {A : Option Addr} {n : Nat} {us : Nat → FV} (h : Flds w A n us) (hn : 0 < n) {b o : Nat} (ha : A = some ⟨b, o, none⟩) : b < w.heap.size := by
  obtain ⟨b', o', h1, hc⟩ := h.at_ 0 hn
  rw [ha] at h1
  injection h1 with h1
  injection h1 with h1
  subst h1
  exact World.block_lt_of_cell? w _ ((hc 0 (by omega)).trans rfl)
theorem Flds.below {w w' : World} {A : Option Addr} {n : Nat} {us : Nat → FV} (h : Flds w A n us) (hb : Below w.heap.size w w') : Flds w' A n us := h.keep fun b o ha hn => hb.block b (h.lt hn ha)
theorem Flds.grown {w w' : World} {A : Option Addr} {n : Nat} {us : Nat → FV} {row : Option Nat} (h : Flds w A n us) (hg : w.grownBy w' row) (hne : ∀ b, blk A = some b → row ≠ some b) : Flds w' A n us := h.keep fun b o ha hn => hg.block b (h.lt hn ha) (fun e => hne b (by rw [ha]; rfl) e.symm)
/-- A field's cells, one by one. -/
theorem Flds.c11 {w : World} {A : Option Addr} {n : Nat} {us : Nat → FV} (h : Flds w A n us) {j : Nat} (hj : j < n) : ∃ b o, A = some ⟨b, o, none⟩ ∧
    (w.cell? ⟨b, o + j * 11, none⟩ = some (.int .i64 (us j).kind) ∧ w.cell? ⟨b, o + j * 11 + 1, none⟩ = some (.int .i64 (us j).num) ∧ w.cell? ⟨b, o + j * 11 + 2, none⟩ = some (.int .i64 (us j).x2) ∧ w.cell? ⟨b, o + j * 11 + 3, none⟩ = some (.int .i64 (us j).x3) ∧
     w.cell? ⟨b, o + j * 11 + 4, none⟩ = some (.int .i64 (us j).x4) ∧ w.cell? ⟨b, o + j * 11 + 5, none⟩ = some (.int .i64 (us j).x5) ∧ w.cell? ⟨b, o + j * 11 + 6, none⟩ = some (.slice (us j).A6 (us j).n6 (us j).c6) ∧ w.cell? ⟨b, o + j * 11 + 7, none⟩ = some (.slice (us j).A7 (us j).n7 (us j).c7) ∧
     w.cell? ⟨b, o + j * 11 + 8, none⟩ = some (.slice (us j).A8 (us j).n8 (us j).c8) ∧ w.cell? ⟨b, o + j * 11 + 9, none⟩ = some (.bool (us j).b9) ∧ w.cell? ⟨b, o + j * 11 + 10, none⟩ = some (.bool (us j).b10)) := by
  obtain ⟨b, o, e, hc⟩ := h.at_ j hj
  exact ⟨b, o, e, hc 0 (by omega), hc 1 (by omega), hc 2 (by omega), hc 3 (by omega), hc 4 (by omega), hc 5 (by omega), hc 6 (by omega), hc 7 (by omega), hc 8 (by omega), hc 9 (by omega), hc 10 (by omega)⟩

def homeS (v : FV) : Bool := (decide (v.kind = 0) || decide (v.kind = 1)) && decide (0 ≤ v.num)
set_option maxHeartbeats 1000000 in
theorem home_any (v : FV) (w : World) : Calls Try.prog 16 #[.agg #[.int .i64 v.kind, .int .i64 v.num, .int .i64 v.x2, .int .i64 v.x3, .int .i64 v.x4, .int .i64 v.x5, .slice v.A6 v.n6 v.c6, .slice v.A7 v.n7 v.c7, .slice v.A8 v.n8 v.c8, .bool v.b9, .bool v.b10]] w fun e w' => e = .returned (.bool (homeS v)) ∧ Below w.heap.size w w' := by
  have hb : Below w.heap.size w (w.alloc (.cells #[.int .i64 v.kind, .int .i64 v.num, .int .i64 v.x2, .int .i64 v.x3, .int .i64 v.x4, .int .i64 v.x5, .slice v.A6 v.n6 v.c6, .slice v.A7 v.n7 v.c7, .slice v.A8 v.n8 v.c8, .bool v.b9, .bool v.b10] 33)) := (Below.refl _ _).alloc (Nat.le_refl _) _
  have hx := Box.new w 33 #[.int .i64 v.kind, .int .i64 v.num, .int .i64 v.x2, .int .i64 v.x3, .int .i64 v.x4, .int .i64 v.x5, .slice v.A6 v.n6 v.c6, .slice v.A7 v.n7 v.c7, .slice v.A8 v.n8 v.c8, .bool v.b9, .bool v.b10]
  have l0 : (w.alloc (.cells #[.int .i64 v.kind, .int .i64 v.num, .int .i64 v.x2, .int .i64 v.x3, .int .i64 v.x4, .int .i64 v.x5, .slice v.A6 v.n6 v.c6, .slice v.A7 v.n7 v.c7, .slice v.A8 v.n8 v.c8, .bool v.b9, .bool v.b10] 33)).cell? ⟨w.heap.size, 0, none⟩ = some (.int .i64 v.kind) := hx.cell 0
  have l1 : (w.alloc (.cells #[.int .i64 v.kind, .int .i64 v.num, .int .i64 v.x2, .int .i64 v.x3, .int .i64 v.x4, .int .i64 v.x5, .slice v.A6 v.n6 v.c6, .slice v.A7 v.n7 v.c7, .slice v.A8 v.n8 v.c8, .bool v.b9, .bool v.b10] 33)).cell? ⟨w.heap.size, 1, none⟩ = some (.int .i64 v.num) := hx.cell 1
  have HB := hide hb
  clear hb hx
  by_cases k0 : v.kind = 0
  · have d0 : (v.kind == 0) = true := by simp [k0]
    by_cases hn : 0 ≤ v.num
    · have HE := hide (show homeS v = true by simp [homeS, k0, hn])
      clear k0
      go_enter Try.func16, Try.ntmps16
      go_wp2_with fail
      go_ret
      exact ⟨retB (by rw [HE.out]), HB.out⟩
    · have HE := hide (show homeS v = false by simp [homeS, k0, hn])
      clear k0
      go_enter Try.func16, Try.ntmps16
      go_wp2_with fail
      go_ret
      exact ⟨retB (by rw [HE.out]), HB.out⟩
  · have d0 : (v.kind == 0) = false := by simp [k0]
    by_cases k1 : v.kind = 1
    · have d1 : (v.kind == 1) = true := by simp [k1]
      by_cases hn : 0 ≤ v.num
      · have HE := hide (show homeS v = true by simp [homeS, k1, hn])
        clear k0 k1
        go_enter Try.func16, Try.ntmps16
        go_wp2_with fail
        go_ret
        exact ⟨retB (by rw [HE.out]), HB.out⟩
      · have HE := hide (show homeS v = false by simp [homeS, k1, hn])
        clear k0 k1
        go_enter Try.func16, Try.ntmps16
        go_wp2_with fail
        go_ret
        exact ⟨retB (by rw [HE.out]), HB.out⟩
    · have d1 : (v.kind == 1) = false := by simp [k1]
      have HE := hide (show homeS v = false by simp [homeS, k0, k1])
      clear k0 k1
      go_enter Try.func16, Try.ntmps16
      go_wp2_with fail
      go_ret
      exact ⟨retB (by rw [HE.out]), HB.out⟩

def lastN (n : Int) : Int := if n = 0 then 1 else 0
theorem last_any (n : Int) (w : World) : Calls Try.prog 21 #[.int .i64 n] w fun e w' => e = .returned (.int .i64 (lastN n)) ∧ w = w' := by
  by_cases h : n = 0
  · have d0 : (n == 0) = true := by simp [h]
    have HE := hide (show lastN n = 1 by simp [lastN, h])
    clear h
    go_enter Try.func21, Try.ntmps21
    go_wp2_with fail
    go_ret
    exact ⟨retI HE.out.symm, rfl⟩
  · have d0 : (n == 0) = false := by simp [h]
    have HE := hide (show lastN n = 0 by simp [lastN, h])
    clear h
    go_enter Try.func21, Try.ntmps21
    go_wp2_with fail
    go_ret
    exact ⟨retI HE.out.symm, rfl⟩
theorem isNaN_any (n : Int) (w : World) : Calls Try.prog 25 #[.int .i64 n] w fun e w' => e = .returned (.bool false) ∧ w = w' := by
  have d0 : (n != n) = false := by simp
  go_enter Try.func25, Try.ntmps25
  go_wp2_with fail
  go_ret
  exact ⟨retB (by simp), rfl⟩
def cmpS (x y : Int) : Int := if x < y then -1 else if y < x then 1 else 0
theorem compare_int (x y : Int) (w : World) : Calls Try.prog 20 #[.int .i64 x, .int .i64 y] w fun e w' => e = .returned (.int .i64 (cmpS x y)) ∧ w = w' := by
  rcases Int.lt_trichotomy x y with h | h | h
  · have HE := hide (show cmpS x y = -1 by simp [cmpS, h])
    go_enter Try.func20, Try.ntmps20
    go_wp2_with (go_at_call 25; refine (isNaN_any _ _).mono ?_; rintro e w' ⟨rfl, rfl⟩)
    go_ret
    exact ⟨retI HE.out.symm, rfl⟩
  · have HE := hide (show cmpS x y = 0 by simp [cmpS, h])
    have d1 : ¬ (x < y) := by omega
    have d2 : ¬ (y < x) := by omega
    clear h
    go_enter Try.func20, Try.ntmps20
    go_wp2_with (go_at_call 25; refine (isNaN_any _ _).mono ?_; rintro e w' ⟨rfl, rfl⟩)
    go_ret
    exact ⟨retI HE.out.symm, rfl⟩
  · have d1 : ¬ (x < y) := by omega
    have HE := hide (show cmpS x y = 1 by simp only [cmpS, if_neg d1, if_pos h])
    go_enter Try.func20, Try.ntmps20
    go_wp2_with (go_at_call 25; refine (isNaN_any _ _).mono ?_; rintro e w' ⟨rfl, rfl⟩)
    go_ret
    exact ⟨retI HE.out.symm, rfl⟩
def orS (x y : Int) : Int := if x = 0 then y else x
set_option maxHeartbeats 1000000 in
theorem or_any (b : Nat) (x y : Int) (w : World) (h0 : w.cell? ⟨b, 0, none⟩ = some (.int .i64 x)) (h1 : w.cell? ⟨b, 1, none⟩ = some (.int .i64 y)) :
    Calls Try.prog 19 #[.slice (some ⟨b, 0, none⟩) 2 2] w fun e w' => e = .returned (.int .i64 (orS x y)) ∧ w = w' := by
  by_cases hx : x = 0
  · have d0 : (x != 0) = false := by simp [hx]
    by_cases hy : y = 0
    · have d1 : (y != 0) = false := by simp [hy]
      have HE := hide (show orS x y = 0 by simp [orS, hx, hy])
      clear hx hy
      go_enter Try.func19, Try.ntmps19
      go_wp2_with fail
      go_loop [8] (fun i => ∃ k : Nat, k ≤ 2 ∧ i = .int .i64 k) (fun i => 2 - (intOf i).toNat)
      case atStart => exact ⟨0, by omega, rfl⟩
      case round =>
        obtain ⟨k, hk, rfl⟩ := hrel
        have hk3 : k = 0 ∨ k = 1 ∨ k = 2 := by omega
        rcases hk3 with rfl | rfl | rfl
        · go_wp2_with fail
          go_round
          case rel => exact ⟨1, by omega, by first | rfl | go_num⟩
          case measure => simp [intOf]
        · go_wp2_with fail
          go_round
          case rel => exact ⟨2, by omega, by first | rfl | go_num⟩
          case measure => simp [intOf]
        · go_wp2_with fail
          go_ret
          exact ⟨retI HE.out.symm, rfl⟩
    · have d1 : (y != 0) = true := by simp [hy]
      have HE := hide (show orS x y = y by simp [orS, hx])
      clear hx hy
      go_enter Try.func19, Try.ntmps19
      go_wp2_with fail
      go_loop [8] (fun i => ∃ k : Nat, k ≤ 1 ∧ i = .int .i64 k) (fun i => 2 - (intOf i).toNat)
      case atStart => exact ⟨0, by omega, rfl⟩
      case round =>
        obtain ⟨k, hk, rfl⟩ := hrel
        have hk3 : k = 0 ∨ k = 1 := by omega
        rcases hk3 with rfl | rfl
        · go_wp2_with fail
          go_round
          case rel => exact ⟨1, by omega, by first | rfl | go_num⟩
          case measure => simp [intOf]
        · go_wp2_with fail
          go_ret
          exact ⟨retI HE.out.symm, rfl⟩
  · have d0 : (x != 0) = true := by simp [hx]
    have HE := hide (show orS x y = x by simp [orS, hx])
    clear hx
    go_enter Try.func19, Try.ntmps19
    go_wp2_with fail
    go_loop [8] (fun i => i = .int .i64 0) (fun i => 0)
    case atStart => rfl
    case round =>
      subst hrel
      go_wp2_with fail
      go_ret
      exact ⟨retI HE.out.symm, rfl⟩

/-- One number is ahead of another one in the order of tabs. -/
def ltN (x y : Int) : Bool := decide (orS (cmpS (lastN x) (lastN y)) (cmpS x y) < 0)
theorem ltN_iff (x y : Int) : ltN x y = true ↔ (x ≠ 0 ∧ y = 0) ∨ ((x = 0 ↔ y = 0) ∧ x < y) := by
  unfold ltN orS cmpS lastN
  rw [decide_eq_true_eq]
  by_cases hx : x = 0 <;> by_cases hy : y = 0 <;> simp [hx, hy] <;> split <;> (try split) <;> omega
def ltF (us : Nat → FV) (x y : Int) : Bool := ltN (us x.toNat).num (us y.toNat).num
theorem ltF_weak (us : Nat → FV) : Weak (ltF us) := by
  have f : ∀ x y, ltF us x y = false ↔ ¬ ((((us x.toNat).num ≠ 0 ∧ (us y.toNat).num = 0)) ∨ (((us x.toNat).num = 0 ↔ (us y.toNat).num = 0) ∧ (us x.toNat).num < (us y.toNat).num)) := fun x y => by
    rw [← ltN_iff]
    unfold ltF
    simp
  refine ⟨fun x => (f x x).2 (by omega), fun x y z h k => ?_, fun x y z h k => ?_⟩
  · have h := (ltN_iff _ _).1 h
    have k := (ltN_iff _ _).1 k
    exact (ltN_iff _ _).2 (by omega)
  · have h := (f _ _).1 h
    have k := (f _ _).1 k
    exact (f _ _).2 (by omega)

/-- What Order's test needs: the fields, and where the closure finds them. -/
structure Env18 (q g : Nat) (A : Option Addr) (n c : Nat) (us : Nat → FV) (W : World) : Prop where
  box : Box W q 22 #[.slice A n c]
  rd : Flds W A n us
  ne : q ≠ g
  ap : ∀ b, blk A = some b → b ≠ g

set_option maxRecDepth 100000 in
set_option maxHeartbeats 4000000 in
theorem order1_any (q g : Nat) (A : Option Addr) (n c : Nat) (us : Nat → FV) (x y : Nat) (w : World) (h : Env18 q g A n c us w) (hx : x < n) (hy : y < n) (hn : n ≤ 1000000) :
    Calls Try.prog 18 #[.int .i64 (x : Int), .int .i64 (y : Int), .pointer (some ⟨q, 0, none⟩)] w fun e w' => e = .returned (.int .i64 (orS (cmpS (lastN (us x).num) (lastN (us y).num)) (cmpS (us x).num (us y).num))) ∧ Below w.heap.size w w' := by
  obtain ⟨b, o, rfl, hcx⟩ := h.rd.c11 hx
  obtain ⟨b', o', e, hcy⟩ := h.rd.c11 hy
  injection e with e
  injection e with e1 e2
  subst e1 e2
  obtain ⟨_, nx, _⟩ := hcx
  obtain ⟨_, ny, _⟩ := hcy
  have bx := (h.box.c1).1
  have HN := hide (And.intro nx ny)
  clear h
  generalize (us x).num = vx at nx HN ⊢
  generalize (us y).num = vy at ny HN ⊢
  have x0 : (0 : Int) ≤ (x : Int) := by omega
  have x1 : (x : Int) < (n : Int) := by omega
  have y0 : (0 : Int) ≤ (y : Int) := by omega
  have y1 : (y : Int) < (n : Int) := by omega
  go_enter Try.func18, Try.ntmps18
  go_wp2_with fail
  go_region_held3 (fun w' => w'.cell? ⟨q, 0, none⟩ = some (.slice (some ⟨b, o, none⟩) n c) ∧ w'.cell? ⟨b, o + x * 11 + 1, none⟩ = some (.int .i64 vx) ∧ w'.cell? ⟨b, o + y * 11 + 1, none⟩ = some (.int .i64 vy)) (first | go_keep)
    (first
     | (go_at_call 21; (with_reducible refine (last_any _ _).mono ?_); rintro e w5 ⟨rfl, rfl⟩)
     | (go_at_call 20; (with_reducible refine (compare_int _ _ _).mono ?_); rintro e w5 ⟨rfl, rfl⟩)
     | (go_at_call 19; refine (or_any _ _ _ _ ((Box.newAt rfl _ _).cell 0) ((Box.newAt rfl _ _).cell 1)).mono ?_; rintro e w5 ⟨rfl, rfl⟩))
  go_wp2_with fail
  go_ret
  exact ⟨rfl, ((Below.refl _ _).alloc (Nat.le_refl _) _).drew⟩
theorem cmp18 (q g : Nat) (A : Option Addr) (n c : Nat) (us : Nat → FV) (hn : n ≤ 1000000) : Cmp g (ltF us) q (Env18 q g A n c us) (fun x => 0 ≤ x ∧ x < n) where
  call := fun x y W h hx hy => by
    obtain ⟨x, rfl⟩ := Int.eq_ofNat_of_zero_le hx.1
    obtain ⟨y, rfl⟩ := Int.eq_ofNat_of_zero_le hy.1
    exact (order1_any q g A n c us x y W h (by omega) (by omega) hn).mono fun e W' ⟨h1, h2⟩ => ⟨_, h1, rfl, h2⟩
  goes := fun W W' h hg => ⟨h.box.grown hg (fun e => h.ne (by injection e)), h.rd.grown hg (fun b hb e => h.ap b hb (by injection e with e; exact e.symm)), h.ne, h.ap⟩
end Go.Proofs.Ytfeflmpdbejhjaa
