/- Numbers as new slices of runes: vars.two; a choice by a string. -/
import Derived.Test.YtfeflmpdbejhjaaDoorMayC
import Derived.Test.YtfeflmpdbejhjaaDoorSmV
namespace Go.Proofs.YtfeflmpdbejhjaaDoor
open Go.RowKit
set_option linter.unusedVariables false

/-- The world and the capacity behind []rune(s), each under one name that nothing looks into. -/
@[irreducible] def toR (W : World) (s : ByteArray) : World := W.drew.alloc (.cells (rowR W s) 21)
@[irreducible] def capI (W : World) (n : Nat) : Nat := capR W n
theorem run_toR (s : ByteArray) (ha : Asc s) (hs : s.size ≤ 1000000) (W : World) :
    (convert 9 22 (.string s)).run Tryd.prog W = .ok (.slice (some ⟨W.heap.size, 0, none⟩) s.size (capI W s.size)) (toR W s) := by
  unfold toR capI
  exact run_toRunes s ha hs W
theorem own_toR (s : ByteArray) (hs : s.size ≤ 1000000) (W : World) : Own (toR W s) W.heap.size (some ⟨W.heap.size, 0, none⟩) s.size (capI W s.size) (plainS s) := by
  unfold toR capI
  exact own_toRunes s hs W
theorem below_toR (s : ByteArray) (W : World) : Below W.heap.size W (toR W s) := by
  unfold toR
  exact below_toRunes s W

theorem asc_list {l : List UInt8} (h : ∀ b ∈ l, b.toNat < 128) : Asc ⟨l.toArray⟩ := fun b hb => h b (by simpa using hb)
theorem asc_rowD (u k : Nat) : Asc ⟨(rowD u k).toArray⟩ := asc_list fun b hb => by
  obtain ⟨t, _, rfl⟩ := List.mem_map.1 hb
  have := dg_num u (k - 1 - t)
  omega
theorem asc_rowH (u k : Nat) : Asc ⟨(rowH u k).toArray⟩ := asc_list fun b hb => by
  obtain ⟨t, _, rfl⟩ := List.mem_map.1 hb
  have h1 : u / 16 ^ (k - 1 - t) % 16 < 16 := Nat.mod_lt _ (by omega)
  have := hxd_num h1
  unfold dgh
  split at this <;> omega
theorem padD_len {u least : Nat} (hu : u < 16777216) (hl : least ≤ 100) : (padD u least).length ≤ 100 := by
  unfold padD
  rw [rowD_len]
  have := nD_max hu
  omega

/-- A choice by a string's bytes: the first that is the same. -/
def sel : List (List UInt8 × List Int) → List UInt8 → Option (List Int)
  | [], _ => none
  | (k, v) :: r, S => bif S == k then some v else sel r S
theorem sel_swap {k1 k2 : List UInt8} (h : k1 ≠ k2) (v1 v2 : List Int) (r : List (List UInt8 × List Int)) (S : List UInt8) : sel ((k1, v1) :: (k2, v2) :: r) S = sel ((k2, v2) :: (k1, v1) :: r) S := by
  show (bif S == k1 then some v1 else bif S == k2 then some v2 else sel r S) = (bif S == k2 then some v2 else bif S == k1 then some v1 else sel r S)
  cases h1 : S == k1 <;> cases h2 : S == k2
  · rfl
  · rfl
  · rfl
  · have e1 := eq_of_beq h1
    have e2 := eq_of_beq h2
    exact absurd (e1.symm.trans e2) h
theorem sel_cons {k : List UInt8} {v : List Int} {r r2 : List (List UInt8 × List Int)} (h : ∀ S, sel r S = sel r2 S) (S : List UInt8) : sel ((k, v) :: r) S = sel ((k, v) :: r2) S := by
  unfold sel
  rw [h S]
/-- What a choice answers: a slice that reads so, whether there is one. -/
def AnsR (w : World) (o : Option (List Int)) (e : Ending) (w' : World) : Prop :=
  ∃ A n c, e = .returned (.tuple #[.slice A n c, .bool o.isSome]) ∧ Runes w' A n (o.getD []) ∧ n ≤ 35184372088832 ∧ Below w.heap.size w w'

set_option maxRecDepth 100000 in
theorem two_any (n : Nat) (hn : n < 16777216) (w : World) (h : Tabs w) : Calls Tryd.prog 54 #[.int .i64 n] w (NewR w (ru (padD n 2))) := by
  have HP := hide (show Calls Tryd.prog 41 #[.int .i64 n, .int .i64 10, .int .i64 2] w fun e w' => e = .returned (.string ⟨(padD n 2).toArray⟩) ∧ Below w.heap.size w w' from padded10_any n 2 hn (by omega) w h)
  have hl := padD_len (least := 2) hn (by omega)
  have hsz : (⟨(padD n 2).toArray⟩ : ByteArray).size ≤ 1000000 := by rw [ba_size]; omega
  have hcv := fun W => run_toRunes ⟨(padD n 2).toArray⟩ (asc_rowD n _) hsz W
  have HO := hide (own_toRunes ⟨(padD n 2).toArray⟩ hsz)
  have HB := hide (below_toRunes ⟨(padD n 2).toArray⟩)
  rw [plainS_ru] at HO
  clear hl hsz h
  generalize (⟨(padD n 2).toArray⟩ : ByteArray) = S at HP hcv HO HB
  go_enter Tryd.func54, Tryd.ntmps54
  go_wp2_with (go_at_call 41; (with_reducible refine HP.out.mono ?_); rintro e w1 ⟨rfl, hb⟩)
  go_ret
  exact ⟨_, _, _, rfl, (HO.out w1).mono hb.size, hb.trans ((HB.out w1).mono hb.size)⟩

end Go.Proofs.YtfeflmpdbejhjaaDoor
