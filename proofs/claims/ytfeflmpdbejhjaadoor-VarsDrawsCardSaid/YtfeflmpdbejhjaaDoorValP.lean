/- Plain laws of vars.Value: what a variable tells; a name of other runes than the tables' tells nothing. -/
import Derived.Test.YtfeflmpdbejhjaaDoorUuidR
import Derived.Test.YtfeflmpdbejhjaaDoorTextsR
namespace Go.Proofs.YtfeflmpdbejhjaaDoor
open Go.RowKit
set_option linter.unusedVariables false

theorem ba_list (s : ByteArray) : s.toList = s.data.toList := ByteArray.toList_eq s
/-- A rune that a name may hold. -/
def nameR (x : Int) : Bool := decide (x = 95) || (decide (65 ≤ x) && decide (x ≤ 90))
/-- A name that the reference looks at. -/
def nameS (l : List Int) : Bool := l.all nameR && decide (l.length ≤ 41)
/-- Bytes that a name may hold. -/
def keyB (k : List UInt8) : Bool := k.all (fun b => nameR (b.toNat : Int)) && decide (k.length ≤ 41) && k.all fun b => decide (b.toNat < 128)
theorem name_no {l : List Int} {k : List UInt8} (hk : keyB k = true) (hl : nameS l = false) : ((runesBytes l).toList == k) = false := by
  cases h : (runesBytes l).toList == k
  · rfl
  · exfalso
    have h1 := eq_of_beq h
    rw [ba_list] at h1
    unfold keyB at hk
    simp only [Bool.and_eq_true, List.all_eq_true, decide_eq_true_eq] at hk
    obtain ⟨⟨k1, k2⟩, k3⟩ := hk
    have h2 : l = k.map fun b => (b.toNat : Int) := flat_asc l k k3 (by rw [← runesBytes_list]; exact h1)
    unfold nameS at hl
    rw [h2] at hl
    have h3 : (k.map fun b => (b.toNat : Int)).all nameR = true := by
      rw [List.all_eq_true]
      intro x hx
      obtain ⟨b, hb, rfl⟩ := List.mem_map.1 hx
      exact k1 b hb
    rw [h3, List.length_map, decide_eq_true k2] at hl
    cases hl
theorem sel_no (T : List (List UInt8 × List Int)) (S : List UInt8) (h : ∀ x ∈ T, (S == x.1) = false) : sel T S = none := by
  induction T with
  | nil => rfl
  | cons x T ih =>
    obtain ⟨k, v⟩ := x
    unfold sel
    rw [h (k, v) (by simp)]
    exact ih fun y hy => h y (List.mem_cons_of_mem _ hy)
theorem keys_told (v : EnvV) (u : Nat) (cn : Fin 7 → Nat) : ∀ x ∈ toldL v u cn, keyB x.1 = true := by
  intro x hx
  unfold toldL clockL at hx
  simp only [List.mem_cons, List.not_mem_nil, or_false] at hx
  rcases hx with rfl | rfl | rfl | rfl | rfl | rfl | rfl | rfl | rfl | rfl | rfl | rfl | rfl | rfl | rfl | rfl | rfl | rfl | rfl | rfl | rfl <;> (dsimp only; decide)
theorem told_no {l : List Int} (hl : nameS l = false) (v : EnvV) (u : Nat) (cn : Fin 7 → Nat) : sel (toldL v u cn) (runesBytes l).toList = none :=
  sel_no _ _ fun x hx => name_no (keys_told v u cn x hx) hl
theorem drawn_no {l : List Int} (hl : nameS l = false) (d : List Int) (u : Nat) : drawnB d u (runesBytes l).toList = ([], 0) := by
  unfold drawnB
  rw [name_no (by decide) hl, name_no (by decide) hl, name_no (by decide) hl]
  rfl
theorem name_may {l : List Int} (h : nameS l = true) : mayS l = true := by
  unfold nameS at h
  simp only [Bool.and_eq_true, List.all_eq_true] at h
  unfold mayS
  rw [List.all_eq_true]
  intro x hx
  have := h.1 x hx
  unfold nameR at this
  unfold isS
  simp at this ⊢
  omega

/-- The numbers of an environment. -/
def uN (v : EnvV) : Nat := v.ix.toNat
def cN (v : EnvV) : Fin 7 → Nat := fun i => (v.ck i).toNat
/-- What a variable tells where the environment and the place may be. -/
def valS (v : EnvV) (S : List UInt8) (u : Nat) : Option (List Int) × Nat :=
  if 0 < (drawnB v.d u S).2 then (some (ru (drawnB v.d u S).1), u + (drawnB v.d u S).2) else (sel (toldL v (uN v) (cN v)) S, u)
/-- What a variable tells. -/
def valE (v : EnvV) (l : List Int) (used : Int) : Option (List Int) × Int :=
  if mayE v = true ∧ 0 ≤ used ∧ used ≤ 1000 ∧ mayS l = true then ((valS v (runesBytes l).toList used.toNat).1, (((valS v (runesBytes l).toList used.toNat).2 : Nat) : Int)) else (none, used)
theorem valE_no {v : EnvV} {l : List Int} {used : Int} (h : ¬ (mayE v = true ∧ 0 ≤ used ∧ used ≤ 1000 ∧ mayS l = true)) : valE v l used = (none, used) := if_neg h
theorem valE_yes {v : EnvV} {l : List Int} {u : Nat} (hm : mayE v = true) (hu : u ≤ 1000) (hl : mayS l = true) : valE v l (u : Int) = ((valS v (runesBytes l).toList u).1, (((valS v (runesBytes l).toList u).2 : Nat) : Int)) := by
  unfold valE
  rw [if_pos ⟨hm, by omega, by omega, hl⟩]
  rfl
theorem valE_bad {v : EnvV} {l : List Int} (h : nameS l = false) (used : Int) : valE v l used = (none, used) := by
  unfold valE
  split
  · rename_i hh
    unfold valS
    rw [drawn_no h, told_no h]
    simp only [Nat.lt_irrefl, if_false]
    congr 1
    omega
  · rfl
theorem short_len {l : List Int} (h : shortS l = true) : l.length ≤ 100 := by
  unfold shortS at h
  simp only [Bool.and_eq_true, decide_eq_true_eq] at h
  exact h.1
theorem inB_iff {n a b : Int} : inB n a b = true ↔ a ≤ n ∧ n ≤ b := by
  unfold inB
  simp only [Bool.and_eq_true, decide_eq_true_eq]
theorem envN_of {w : World} {e : EnvH} {v : EnvV} (h : EnvR w e v) (hm : mayE v = true) : EnvN e v (uN v) (cN v) ∧ DrOk v.d := by
  have hx := hm
  unfold mayE at hx
  simp only [Bool.and_eq_true, decide_eq_true_eq] at hx
  obtain ⟨⟨⟨⟨⟨⟨⟨⟨⟨s0, s1⟩, s2⟩, s3⟩, s4⟩, s5⟩, hix⟩, hdl⟩, hdd⟩, hck⟩ := hx
  unfold clockOk at hck
  simp only [Bool.and_eq_true, inB_iff] at hck
  obtain ⟨⟨⟨⟨⟨⟨c0, c1⟩, c2⟩, c3⟩, c4⟩, c5⟩, c6⟩ := hck
  rw [inB_iff] at hix
  have hd : DrOk v.d := fun x hxx => inB_iff.1 (List.all_eq_true.1 hdd x hxx)
  refine ⟨⟨?_, ?_, ?_, ⟨?_, ?_, ?_, ?_, ?_, ?_, ?_⟩, ?_, hdl, hd⟩, hd⟩
  · have := h.ix; unfold uN; omega
  · unfold uN; omega
  · rw [← h.ck]
    funext i
    unfold cN
    match i with
    | 0 => show v.ck 0 = ((v.ck 0).toNat : Int); omega
    | 1 => show v.ck 1 = ((v.ck 1).toNat : Int); omega
    | 2 => show v.ck 2 = ((v.ck 2).toNat : Int); omega
    | 3 => show v.ck 3 = ((v.ck 3).toNat : Int); omega
    | 4 => show v.ck 4 = ((v.ck 4).toNat : Int); omega
    | 5 => show v.ck 5 = ((v.ck 5).toNat : Int); omega
    | 6 => show v.ck 6 = ((v.ck 6).toNat : Int); omega
  all_goals try (unfold cN; omega)
  intro i
  match i with
  | 0 => exact short_len s0
  | 1 => exact short_len s1
  | 2 => exact short_len s2
  | 3 => exact short_len s3
  | 4 => exact short_len s4
  | 5 => exact short_len s5
end Go.Proofs.YtfeflmpdbejhjaaDoor
