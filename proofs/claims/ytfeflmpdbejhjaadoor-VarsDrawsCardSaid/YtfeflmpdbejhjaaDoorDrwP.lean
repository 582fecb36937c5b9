/- Plain laws of the draws: five numbers in a row, with their dashes. -/
import Derived.Test.YtfeflmpdbejhjaaDoorTold
namespace Go.Proofs.YtfeflmpdbejhjaaDoor
open Go.RowKit
set_option linter.unusedVariables false

/-- A draw, as a natural number. -/
def dN (d : List Int) (k : Nat) : Nat := (drawS d k).toNat
/-- The draws are in their bounds. -/
def DrOk (d : List Int) : Prop := ∀ x ∈ d, 0 ≤ x ∧ x ≤ 16777215
theorem dN_lt {d : List Int} (h : DrOk d) (k : Nat) : dN d k < 16777216 := by
  unfold dN drawS
  split
  · rename_i hk
    have := h _ (nth_mem hk)
    omega
  · decide
theorem dN_eq {d : List Int} (h : DrOk d) (k : Nat) : drawS d k = ((dN d k : Nat) : Int) := by
  unfold dN drawS
  split
  · rename_i hk
    have := h _ (nth_mem hk)
    omega
  · rfl
/-- The digits of so many draws. -/
def hexs (d : List Int) (u : Nat) : Nat → List UInt8
  | 0 => []
  | k + 1 => hexs d u k ++ rowH (dN d (u + k)) 6
theorem hexs_len (d : List Int) (u : Nat) : ∀ k, (hexs d u k).length = 6 * k
  | 0 => rfl
  | k + 1 => by
    unfold hexs
    rw [List.length_append, hexs_len d u k, rowH_len]
    omega
def uuidB (h : List UInt8) : List UInt8 := h.take 8 ++ [45] ++ (h.drop 8).take 4 ++ [45, 52] ++ (h.drop 12).take 3 ++ [45, 56] ++ (h.drop 15).take 3 ++ [45] ++ h.drop 18
def uuidI (h : List Int) : List Int := h.take 8 ++ [45] ++ (h.drop 8).take 4 ++ [45, 52] ++ (h.drop 12).take 3 ++ [45, 56] ++ (h.drop 15).take 3 ++ [45] ++ h.drop 18
theorem ru_uuid (h : List UInt8) : ru (uuidB h) = uuidI (ru h) := by
  unfold uuidB uuidI ru
  simp [List.map_take, List.map_drop]
/-- What the reference's loop has made behind so many rounds. -/
def dashI (i : Nat) : List Int := if i = 8 ∨ i = 18 then [45] else if i = 12 then [45, 52] else if i = 15 then [45, 56] else []
def outI (h : List Int) : Nat → List Int
  | 0 => []
  | i + 1 => outI h i ++ dashI i ++ [nth h i]
theorem outI_all {h : List Int} (hl : h.length = 30) : outI h 30 = uuidI h := by
  obtain ⟨f, rfl⟩ : ∃ f : Nat → Int, h = (List.range 30).map f := ⟨fun i => nth h i, by
    refine List.ext_getElem (by simp [hl]) fun i h1 h2 => ?_
    rw [List.getElem_map, List.getElem_range, nth_eq h1]⟩
  kernel_rfl
def rndK : List UInt8 := [82, 65, 78, 68, 79, 77]
def hexK : List UInt8 := [82, 65, 78, 68, 79, 77, 95, 72, 69, 88]
def uidK : List UInt8 := [85, 85, 73, 68]
/-- What a name of draws tells, and how many it takes. -/
def drawnB (d : List Int) (u : Nat) (S : List UInt8) : List UInt8 × Nat :=
  bif S == [82, 65, 78, 68, 79, 77] then (padD (dN d u % 1000000) 6, 1) else bif S == [82, 65, 78, 68, 79, 77, 95, 72, 69, 88] then (rowH (dN d u) 6, 1) else bif S == [85, 85, 73, 68] then (uuidB (hexs d u 5), 5) else ([], 0)
theorem uuid_asc {h : List UInt8} (ha : ∀ b ∈ h, b.toNat < 128) : ∀ b ∈ uuidB h, b.toNat < 128 := fun b hb => by
  unfold uuidB at hb
  simp only [List.mem_append, List.mem_cons, List.not_mem_nil, or_false] at hb
  rcases hb with (((((((hb | hb) | hb) | hb) | hb) | hb) | hb) | hb) | hb
  · exact ha b (List.mem_of_mem_take hb)
  · subst hb; decide
  · exact ha b (List.mem_of_mem_drop (List.mem_of_mem_take hb))
  · rcases hb with rfl | rfl <;> decide
  · exact ha b (List.mem_of_mem_drop (List.mem_of_mem_take hb))
  · rcases hb with rfl | rfl <;> decide
  · exact ha b (List.mem_of_mem_drop (List.mem_of_mem_take hb))
  · subst hb; decide
  · exact ha b (List.mem_of_mem_drop hb)
theorem rowH_asc (u k : Nat) : ∀ b ∈ rowH u k, b.toNat < 128 := fun b hb => asc_rowH u k b (by simpa using hb)
theorem rowD_asc (u k : Nat) : ∀ b ∈ rowD u k, b.toNat < 128 := fun b hb => asc_rowD u k b (by simpa using hb)
theorem hexs_asc (d : List Int) (u : Nat) : ∀ k, ∀ b ∈ hexs d u k, b.toNat < 128
  | 0 => fun b hb => by cases hb
  | k + 1 => fun b hb => by
    unfold hexs at hb
    rcases List.mem_append.1 hb with h | h
    · exact hexs_asc d u k b h
    · exact rowH_asc _ _ b h
theorem uuidB_len {h : List UInt8} (hl : h.length = 30) : (uuidB h).length = 36 := by
  unfold uuidB
  simp [hl]
theorem drawnB_asc (d : List Int) (u : Nat) (S : List UInt8) : ∀ b ∈ (drawnB d u S).1, b.toNat < 128 := by
  unfold drawnB
  cases S == [82, 65, 78, 68, 79, 77]
  · cases S == [82, 65, 78, 68, 79, 77, 95, 72, 69, 88]
    · cases S == [85, 85, 73, 68]
      · exact fun b hb => by cases hb
      · exact uuid_asc (hexs_asc d u 5)
    · exact rowH_asc _ _
  · exact rowD_asc _ _
theorem drawnB_len {d : List Int} (h : DrOk d) (u : Nat) (S : List UInt8) : (drawnB d u S).1.length ≤ 100 := by
  unfold drawnB
  cases S == [82, 65, 78, 68, 79, 77]
  · cases S == [82, 65, 78, 68, 79, 77, 95, 72, 69, 88]
    · cases S == [85, 85, 73, 68]
      · simp
      · simp [uuidB_len (hexs_len d u 5)]
    · simp [rowH_len]
  · exact padD_len (by have := dN_lt h u; omega) (by omega)
theorem drawnB_by (d : List Int) (u : Nat) (S : List UInt8) : (drawnB d u S).2 ≤ 5 := by
  unfold drawnB
  cases S == [82, 65, 78, 68, 79, 77]
  · cases S == [82, 65, 78, 68, 79, 77, 95, 72, 69, 88]
    · cases S == [85, 85, 73, 68] <;> simp
    · simp
  · simp
end Go.Proofs.YtfeflmpdbejhjaaDoor
