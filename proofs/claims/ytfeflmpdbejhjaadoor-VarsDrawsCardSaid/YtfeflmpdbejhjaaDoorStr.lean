/- Strings and runes: a new slice of a string's runes (bytes below 128); a string of a slice's runes; what a string of plain bytes says of the runes. -/
import Derived.Test.YtfeflmpdbejhjaaDoorPlainD
import Derived.Laws.Cover4
import Derived.Laws.IdiomStrings
namespace Go.Proofs.YtfeflmpdbejhjaaDoor
open Go.RowKit
set_option linter.unusedVariables false

/-- Bytes below 128. -/
def Asc (s : ByteArray) : Prop := ∀ b ∈ s.data.toList, b.toNat < 128
theorem Asc.of {s : ByteArray} (h : (s.data.toList.all fun b => decide (b.toNat < 128)) = true) : Asc s := fun b hb => by
  have := List.all_eq_true.1 h b hb
  simpa using this
theorem ba_at (s : ByteArray) (i : Nat) (h : i < s.size) : s.get! i = s[i] := by
  show s.data[i]! = s.data[i]'h
  exact getElem!_pos s.data i h
theorem ba_mem (s : ByteArray) (i : Nat) (h : i < s.size) : s[i] ∈ s.data.toList := by
  have : s[i] = s.data[i]'h := rfl
  rw [this]
  simp
theorem decode_asc {s : ByteArray} (ha : Asc s) {i : Nat} (h : i < s.size) : Utf8.decode s i = (s[i].toNat, 1) := by
  have h1 := ha _ (ba_mem s i h)
  have h2 : (s.get! (i + 0)).toNat = s[i].toNat := by rw [Nat.add_zero, ba_at s i h]
  unfold Utf8.decode
  dsimp only
  rw [if_pos (by rw [h2]; exact h1), h2]
theorem runesFrom_asc {s : ByteArray} (ha : Asc s) : ∀ (bound i : Nat) (acc : Array Value), s.size ≤ i + bound → Conv.runesFrom s bound i acc = acc ++ (cells32 ((plainS s).drop i)).toArray
  | 0, i, acc, hi => by
    have hl := plainS_len s
    unfold Conv.runesFrom
    rw [List.drop_eq_nil_of_le (by omega)]
    simp [cells32]
  | bound + 1, i, acc, hi => by
    have hl := plainS_len s
    unfold Conv.runesFrom
    by_cases h : i < s.size
    · rw [if_pos h, decode_asc ha h]
      dsimp only
      rw [runesFrom_asc ha bound (i + 1) _ (by omega), List.drop_eq_getElem_cons (by omega : i < (plainS s).length)]
      have e : (plainS s)[i]'(by omega) = (s[i].toNat : Int) := by
        rw [← plainS_at h, nth_eq]
      rw [e]
      simp [cells32]
    · rw [if_neg h, List.drop_eq_nil_of_le (by omega)]
      simp [cells32]
theorem runesFrom_all {s : ByteArray} (ha : Asc s) : Conv.runesFrom s s.size 0 #[] = (cells32 (plainS s)).toArray := by
  rw [runesFrom_asc ha _ _ _ (by omega)]
  simp
theorem w32_plain (s : ByteArray) : W32 (plainS s) := fun x hx => by
  obtain ⟨c, _, rfl⟩ := List.mem_map.1 hx
  have := c.toNat_lt
  omega

/-- The capacity that []rune(s) takes; its cells. -/
def capR (W : World) (n : Nat) : Nat := grownCap W n 0 21
def rowR (W : World) (s : ByteArray) : Array Value := (cells32 (plainS s)).toArray ++ Array.replicate (capR W s.size - s.size) (.int .i32 0)
theorem run_toRunes (s : ByteArray) (ha : Asc s) (hs : s.size ≤ 1000000) (W : World) :
    (convert 9 22 (.string s)).run Tryd.prog W = .ok (.slice (some ⟨W.heap.size, 0, none⟩) s.size (capR W s.size)) (W.drew.alloc (.cells (rowR W s) 21)) := by
  have hz : (Conv.runesFrom s s.size 0 #[]).size = s.size := by rw [runesFrom_all ha]; simp [cells32, plainS_len]
  have h := run_runes_of_string (P := Tryd.prog) W 9 22 21 s Tryd.underlying9 Tryd.underlying22 Tryd.underlying21 (by rw [hz]; omega)
  rw [hz, runesFrom_all ha] at h
  exact h
theorem own_toRunes (s : ByteArray) (hs : s.size ≤ 1000000) (W : World) : Own (W.drew.alloc (.cells (rowR W s) 21)) W.heap.size (some ⟨W.heap.size, 0, none⟩) s.size (capR W s.size) (plainS s) := by
  have h1 := grownCap_ge W s.size 0 21
  have h2 := grownCap_le_maxLen W s.size 0 21 (by unfold maxLen; omega)
  have hl := plainS_len s
  refine ⟨⟨by simp [cells32, hl], .inr ⟨W.heap.size, capR W s.size, rowR W s, rfl, Nat.le_refl _, heap_alloc_new W.drew _, h1, h2, ?_, ?_⟩⟩, w32_plain s⟩
  · simp [rowR, cells32, hl]
    unfold capR
    omega
  · simp [rowR, cells32, hl]
theorem below_toRunes (s : ByteArray) (W : World) : Below W.heap.size W (W.drew.alloc (.cells (rowR W s) 21)) := (Below.refl W.heap.size W).drew.alloc (Nat.le_refl _) _

/-- string(runes). -/
theorem run_toString {W : World} {A : Option Addr} {n : Nat} (c : Nat) {l : List Int} (h : Runes W A n l) : (convert 22 9 (.slice A n c)).run Tryd.prog W = .ok (.string (runesBytes l)) W := by
  cases A with
  | none =>
    obtain ⟨rfl, rfl⟩ := h.none_
    exact run_convert_runes_nil W 22 9 21 0 c Tryd.underlying22 Tryd.underlying21 Tryd.underlying9
  | some a =>
    have hl := h.len
    have := run_convert_runes (P := Tryd.prog) W 22 9 21 a n c l (by omega) Tryd.underlying22 Tryd.underlying21 Tryd.underlying9 (fun j hj => by
      obtain ⟨b, o, ha, hc⟩ := h.at_ j (by omega)
      injection ha with ha
      subst ha
      rw [addr_lit]
      exact hc)
    rw [List.take_of_length_le (by omega)] at this
    exact this
theorem runesBytes_snoc (l : List Int) (x : Int) : runesBytes (l ++ [x]) = runesBytes l ++ Utf8.encode x := by
  unfold runesBytes
  rw [List.foldl_append]
  rfl
theorem foldl_data (l : List Int) : ∀ s : ByteArray, (l.foldl (fun r n => r ++ Utf8.encode n) s).data.toList = s.data.toList ++ (l.flatMap fun n => (Utf8.encode n).data.toList) := by
  induction l with
  | nil => intro s; simp
  | cons x l ih =>
    intro s
    rw [List.foldl_cons, ih]
    simp [ByteArray.data_append]
theorem runesBytes_list (l : List Int) : (runesBytes l).data.toList = l.flatMap fun n => (Utf8.encode n).data.toList := by
  unfold runesBytes
  rw [foldl_data]
  simp
/-- A rune's bytes: the rune itself, or a byte from 128 on at the head. -/
theorem encode_head (x : Int) : (∃ b : UInt8, (Utf8.encode x).data.toList = [b] ∧ x = (b.toNat : Int) ∧ b.toNat < 128) ∨ ∃ (b : UInt8) (r : List UInt8), (Utf8.encode x).data.toList = b :: r ∧ 128 ≤ b.toNat := by
  unfold Utf8.encode
  simp only
  by_cases hv : Utf8.valid x = true
  · rw [if_pos hv]
    have hx : 0 ≤ x ∧ x ≤ 1114111 := by
      simp [Utf8.valid] at hv
      omega
    by_cases h1 : x.toNat < 0x80
    · rw [if_pos h1]
      exact .inl ⟨_, rfl, by simp; omega, by simp; omega⟩
    · rw [if_neg h1]
      refine .inr ?_
      by_cases h2 : x.toNat < 0x800
      · rw [if_pos h2]
        exact ⟨_, _, rfl, by simp; omega⟩
      · rw [if_neg h2]
        by_cases h3 : x.toNat < 0x10000
        · rw [if_pos h3]
          exact ⟨_, _, rfl, by simp; omega⟩
        · rw [if_neg h3]
          exact ⟨_, _, rfl, by simp; omega⟩
  · rw [if_neg hv]
    refine .inr ⟨_, _, rfl, by decide⟩
theorem flat_asc : ∀ (l : List Int) (c : List UInt8), (∀ b ∈ c, b.toNat < 128) → (l.flatMap fun n => (Utf8.encode n).data.toList) = c → l = c.map fun b => (b.toNat : Int)
  | [], c, _, h => by
    rw [← h]
    rfl
  | x :: l, c, hc, h => by
    rw [List.flatMap_cons] at h
    rcases encode_head x with ⟨b, e, hx, hb⟩ | ⟨b, r, e, hb⟩
    · rw [e] at h
      subst h
      have := flat_asc l _ (fun y hy => hc y (by simp [hy])) rfl
      rw [List.singleton_append, List.map_cons, ← this, hx]
    · rw [e] at h
      subst h
      have := hc b (by simp)
      omega
/-- A string of plain bytes is of those runes alone. -/
theorem runesBytes_asc {l : List Int} {s : ByteArray} (ha : Asc s) (h : runesBytes l = s) : l = plainS s := by
  refine flat_asc l s.data.toList ha ?_
  rw [← runesBytes_list, h]
end Go.Proofs.YtfeflmpdbejhjaaDoor
