/- Words for slices of changes. -/
import Derived.Test.YtjhnenljmmeflaaInv
namespace Go.Proofs.Ytjhnenljmmeflaa
open Go.RowKit
set_option linter.unusedVariables false

/-- A change, as plain data. -/
structure Chg where
  at_ : Int
  cut : List Int
  put : List Int
/-- How a change lies in memory: its three fields' values. -/
structure CV where
  at_ : Int
  C : Option Addr
  n : Nat
  c : Nat
  P : Option Addr
  m : Nat
  d : Nat
def CV.val (v : CV) : Value := .agg #[.int .i64 v.at_, .slice v.C v.n v.c, .slice v.P v.m v.d]
def CV.cells (v : CV) : List Value := [.int .i64 v.at_, .slice v.C v.n v.c, .slice v.P v.m v.d]

/-- Of a size that a change that came in may have. -/
def ChgOk (x : Chg) : Prop := (-9223372036854775808 ≤ x.at_ ∧ x.at_ ≤ 9223372036854775807) ∧ x.cut.length ≤ 35184372087808 ∧ x.put.length ≤ 35184372087808

structure CRd (w : World) (v : CV) (x : Chg) : Prop where
  at_ : v.at_ = x.at_
  cut : Runes w v.C v.n x.cut
  put : Runes w v.P v.m x.put
  ok : ChgOk x

structure Chgs (w : World) (A : Option Addr) (n : Nat) (vs : Nat → CV) (l : List Chg) : Prop where
  len : l.length = n
  at_ : ∀ j, j < n → ∃ b o, A = some ⟨b, o, none⟩ ∧ w.cell? ⟨b, o + j * 3, none⟩ = some (.int .i64 (vs j).at_) ∧ w.cell? ⟨b, o + j * 3 + 1, none⟩ = some (.slice (vs j).C (vs j).n (vs j).c) ∧
    w.cell? ⟨b, o + j * 3 + 2, none⟩ = some (.slice (vs j).P (vs j).m (vs j).d)
  rd : ∀ j, j < n → ∃ x, l[j]? = some x ∧ CRd w (vs j) x

section
variable {w w' : World} {A : Option Addr} {n : Nat} {vs : Nat → CV} {l : List Chg} {v : CV} {x : Chg}
theorem CRd.below (h : CRd w v x) (hb : Below w.heap.size w w') : CRd w' v x := ⟨h.at_, h.cut.below hb, h.put.below hb, h.ok⟩
theorem Chgs.nil (w : World) (A : Option Addr) (vs : Nat → CV) : Chgs w A 0 vs [] := ⟨rfl, fun j h => absurd h (by omega), fun j h => absurd h (by omega)⟩
theorem Chgs.below (h : Chgs w A n vs l) (hb : Below w.heap.size w w') : Chgs w' A n vs l :=
  ⟨h.len, fun j hj => by
    obtain ⟨b, o, h1, h2, h3, h4⟩ := h.at_ j hj
    exact ⟨b, o, h1, (hb.cell (World.block_lt_of_cell? w _ h2)).trans h2, (hb.cell (World.block_lt_of_cell? w _ h3)).trans h3, (hb.cell (World.block_lt_of_cell? w _ h4)).trans h4⟩,
   fun j hj => by
    obtain ⟨x, h1, h2⟩ := h.rd j hj
    exact ⟨x, h1, h2.below hb⟩⟩
end

set_option maxHeartbeats 1000000 in
/-- SameChanges of two lists that are one: yes. -/
theorem sameChanges_yes (A B : Option Addr) (n c m d : Nat) (us vs : Nat → CV) (l : List Chg) (w : World) (ha : Chgs w A n us l) (hb : Chgs w B m vs l) (hn : n ≤ 2512949000000) :
    Calls Try.prog 45 #[.slice A n c, .slice B m d] w fun e w' => e = .returned (.bool true) ∧ Below w.heap.size w w' := by
  have hnm : m = n := by rw [← ha.len, ← hb.len]
  subst hnm
  have HA := hide ha
  have HBB := hide hb
  clear ha hb
  go_enter Try.func45, Try.ntmps45
  go_wp2_with fail
  go_loopw [5] (fun i wr => ∃ k : Nat, k ≤ m ∧ i = .int .i64 k ∧ Below w.heap.size w wr) (fun i _ => m - (intOf i).toNat)
  case atStart => exact ⟨0, Nat.zero_le _, rfl, Below.refl _ _⟩
  case round =>
    obtain ⟨k, hk, rfl, hbel⟩ := hrel
    have HW := hide hbel
    by_cases hlt : k < m
    · obtain ⟨ab, ao, rfl, ha1, ha2, ha3⟩ := (HA.out.below HW.out).at_ k hlt
      obtain ⟨bb, bo, rfl, hb1, hb2, hb3⟩ := (HBB.out.below HW.out).at_ k hlt
      have h1 : (k : Int) < (m : Int) := by omega
      have h0 : (0 : Int) ≤ (k : Int) := by omega
      clear hbel
      obtain ⟨x, hx1, hx⟩ := (HA.out.below HW.out).rd k hlt
      obtain ⟨y, hy1, hy⟩ := (HBB.out.below HW.out).rd k hlt
      obtain rfl : y = x := by rw [hx1] at hy1; exact (Option.some.inj hy1).symm
      have he : (vs k).at_ = (us k).at_ := by rw [hx.at_, hy.at_]
      rw [he] at hb1
      have HC := hide (fun W (hb : Below wr.heap.size wr W) => sameChange_yes (us k).at_ (us k).C (us k).P (vs k).C (vs k).P (us k).n (us k).c (us k).m (us k).d (vs k).n (vs k).c (vs k).m (vs k).d y.cut y.put W
        (hx.cut.below hb) (hx.put.below hb) (hy.cut.below hb) (hy.put.below hb) (by have := hx.ok.2.1; have := hx.cut.len; omega) (by have := hx.ok.2.2; have := hx.put.len; omega))
      clear hx hy he hx1 hy1
      go_wp2_with fail
      go_region_held3 (fun w' => w'.cell? ⟨ab, ao + k * 3, none⟩ = some (.int .i64 (us k).at_) ∧ w'.cell? ⟨ab, ao + k * 3 + 1, none⟩ = some (.slice (us k).C (us k).n (us k).c) ∧ w'.cell? ⟨ab, ao + k * 3 + 2, none⟩ = some (.slice (us k).P (us k).m (us k).d) ∧
          w'.cell? ⟨bb, bo + k * 3, none⟩ = some (.int .i64 (us k).at_) ∧ w'.cell? ⟨bb, bo + k * 3 + 1, none⟩ = some (.slice (vs k).C (vs k).n (vs k).c) ∧ w'.cell? ⟨bb, bo + k * 3 + 2, none⟩ = some (.slice (vs k).P (vs k).m (vs k).d))
        (first | go_keep)
        (first
         | (go_at_call 37; (with_reducible refine (HC.out _ (Below.refl _ _).drew).mono ?_); rintro e w1 ⟨rfl, hb1'⟩; have k1 := cell_later hb1' (show wr.drew.cell? _ = _ from ha1); have k2 := cell_later hb1' (show wr.drew.cell? _ = _ from ha2); have k3 := cell_later hb1' (show wr.drew.cell? _ = _ from ha3); have k4 := cell_later hb1' (show wr.drew.cell? _ = _ from hb1); have k5 := cell_later hb1' (show wr.drew.cell? _ = _ from hb2); have k6 := cell_later hb1' (show wr.drew.cell? _ = _ from hb3)))
      have HN := hide (HW.out.drew.trans (hb1'.mono HW.out.size))
      clear hb1' k1 k2 k3 k4 k5 k6
      go_wp2
      go_roundw
      case rel => exact ⟨k + 1, by omega, by go_num, HN.out⟩
      case measure => simp [intOf]; omega
    · clear hbel
      go_wp2
      go_ret
      exact ⟨rfl, HW.out⟩
end Go.Proofs.Ytjhnenljmmeflaa
