/- Numbers in so many digits: vars.padded at ten and at sixteen. -/
import Derived.Test.YtfeflmpdbejhjaaDoorHexB
namespace Go.Proofs.YtfeflmpdbejhjaaDoor
open Go.RowKit
set_option linter.unusedVariables false

/-- A number's row of k digits, by ten. -/
def rowD (u k : Nat) : List UInt8 := (List.range k).map fun t => Lib.dg u (k - 1 - t)
theorem rowD_len (u k : Nat) : (rowD u k).length = k := by simp [rowD]
theorem rowD_succ (u k : Nat) : rowD u (k + 1) = Lib.dg u k :: rowD u k := by
  unfold rowD
  rw [List.range_succ_eq_map, List.map_cons, List.map_map]
  refine congr (congrArg _ ?_) (List.map_congr_left fun t ht => ?_)
  · simp
  · have := List.mem_range.1 ht
    simp only [Function.comp, Nat.succ_eq_add_one]
    congr 1
    omega
theorem dg_out {u k : Nat} (h : u / 10 ^ k = 0) : Lib.dg u k = 48 := by
  unfold Lib.dg
  rw [h]
  rfl
theorem rowD_dec (u : Nat) : Lib.decDigits u = rowD u (Lib.nDigits u) := Lib.decDigits_eq u
theorem div_more {u L k b : Nat} (hb : 0 < b) (h : u / b ^ L = 0) (hk : L ≤ k) : u / b ^ k = 0 := by
  have h1 := (Nat.div_eq_zero_iff_lt (Nat.pow_pos hb)).1 h
  exact (Nat.div_eq_zero_iff_lt (Nat.pow_pos hb)).2 (Nat.lt_of_lt_of_le h1 (Nat.pow_le_pow_right hb hk))
theorem nD_div (u : Nat) : u / 10 ^ Lib.nDigits u = 0 := (Nat.div_eq_zero_iff_lt (Nat.pow_pos (by omega))).2 (Lib.lt_pow_nDigits u)
/-- In at least so many digits. -/
def padD (u least : Nat) : List UInt8 := rowD u (max least (Lib.nDigits u))

theorem ba_size (l : List UInt8) : (⟨l.toArray⟩ : ByteArray).size = l.length := by simp [ByteArray.size]
theorem ba_zero (l : List UInt8) : (⟨#[48]⟩ : ByteArray) ++ ⟨l.toArray⟩ = ⟨(48 :: l).toArray⟩ := by
  apply ByteArray.ext
  simp [ByteArray.data_append]

set_option maxRecDepth 100000 in
set_option maxHeartbeats 1000000 in
theorem padded_gen (row : Nat → List UInt8) (hlen : ∀ k, (row k).length = k) (Q : Nat → Prop) (u base : Int) (wide : Nat) (hw : wide ≤ 100) (w : World)
    (HF : Calls Tryd.prog 51 #[.int .i64 u, .int .i64 base] w fun e w' => ∃ L, L ≤ 100 ∧ Q L ∧ (∀ k, L ≤ k → row (k + 1) = 48 :: row k) ∧ e = .returned (.string ⟨(row L).toArray⟩) ∧ Below w.heap.size w w') :
    Calls Tryd.prog 41 #[.int .i64 u, .int .i64 base, .int .i64 wide] w fun e w' => ∃ L, L ≤ 100 ∧ Q L ∧ e = .returned (.string ⟨(row (max wide L)).toArray⟩) ∧ Below w.heap.size w w' := by
  have H := hide HF
  have HLN := hide hlen
  clear HF hlen
  go_enter Tryd.func41, Tryd.ntmps41
  go_wp2_with (go_at_call 51; (with_reducible refine H.out.mono ?_); rintro e w1 ⟨L, hL, hQ, hr, rfl, hb⟩)
  have HQ := hide hQ
  have HR := hide hr
  have HB := hide hb
  clear hQ hr hb
  go_loop [7] (fun s => ∃ k : Nat, L ≤ k ∧ k ≤ max wide L ∧ s = .string ⟨(row k).toArray⟩) (fun s => match s with | .string b => 200 - b.size | _ => 0)
  case atStart => exact ⟨L, Nat.le_refl _, by omega, rfl⟩
  case round =>
    obtain ⟨k, hk1, hk2, rfl⟩ := hrel
    have hsz : (⟨(row k).toArray⟩ : ByteArray).size = k := by rw [ba_size, HLN.out]
    have hln : ∀ W, (Builtin.len_ #[9] 3 #[.string ⟨(row k).toArray⟩]).run Tryd.prog W = .ok (.int .i64 (k : Int)) W := fun W => by
      rw [run_len_string W 9 3 _ Tryd.underlying9, hsz]
      rfl
    by_cases hlt : k < wide
    · go_wp2_with fail
      refine ⟨⟨k + 1, by omega, by omega, ?_⟩, ?_⟩
      · rw [ba_zero, HR.out k hk1]
      · rw [ba_zero, ← HR.out k hk1]
        show 200 - (⟨(row (k + 1)).toArray⟩ : ByteArray).size < 200 - (⟨(row k).toArray⟩ : ByteArray).size
        rw [ba_size, ba_size, HLN.out, HLN.out]
        omega
    · go_wp2_with fail
      go_ret
      exact ⟨L, hL, HQ.out, by rw [show max wide L = k by omega]; rfl, HB.out⟩

/-- padded, at ten. -/
theorem padded10_any (u wide : Nat) (hu : u < 16777216) (hw : wide ≤ 100) (w : World) (h : Tabs w) :
    Calls Tryd.prog 41 #[.int .i64 u, .int .i64 10, .int .i64 wide] w fun e w' => e = .returned (.string ⟨(padD u wide).toArray⟩) ∧ Below w.heap.size w w' := by
  have h8 : Lib.nDigits u ≤ 20 := by
    rcases Nat.eq_zero_or_pos u with rfl | h0
    · rw [Lib.nDigits_small (by omega)]; omega
    · have := Lib.numDigits_eq u h0 (by omega); split at this <;> omega
  refine (padded_gen (rowD u) (rowD_len u) (fun L => L = Lib.nDigits u) u 10 wide hw w ((formatInt10_any u hu w h).mono ?_)).mono ?_
  · rintro e w' ⟨rfl, hb⟩
    refine ⟨Lib.nDigits u, by omega, rfl, fun k hk => ?_, by rw [rowD_dec], hb⟩
    rw [rowD_succ, dg_out (div_more (by omega) (nD_div u) hk)]
  · rintro e w' ⟨L, h1, rfl, rfl, hb⟩
    exact ⟨rfl, hb⟩
/-- padded, at sixteen, six wide. -/
theorem padded16_any (u : Nat) (hu : u < 16777216) (w : World) (h : Tabs w) :
    Calls Tryd.prog 41 #[.int .i64 u, .int .i64 16, .int .i64 6] w fun e w' => e = .returned (.string ⟨(rowH u 6).toArray⟩) ∧ Below w.heap.size w w' := by
  refine (padded_gen (rowH u) (rowH_len u) (fun L => L ≤ 6) u 16 6 (by omega) w ((formatInt16_any u hu w h).mono ?_)).mono ?_
  · rintro e w' ⟨L, h1, h2, h3, rfl, hb⟩
    refine ⟨L, by omega, h2, fun k hk => ?_, rfl, hb⟩
    rw [rowH_succ, dgh_out (div_more (by omega) h3 hk)]
  · rintro e w' ⟨L, h1, h2, rfl, hb⟩
    rw [show max 6 L = 6 by omega]
    exact ⟨rfl, hb⟩
set_option maxRecDepth 100000 in
theorem itoa_any (u : Nat) (hu : u < 16777216) (w : World) (h : Tabs w) :
    Calls Tryd.prog 42 #[.int .i64 u] w fun e w' => e = .returned (.string ⟨(padD u 1).toArray⟩) ∧ Below w.heap.size w w' := by
  refine (strconv_Itoa u (by omega) (by omega) w h.p10).mono ?_
  rintro e w' ⟨rfl, k, os, rfl⟩
  refine ⟨?_, grow_below w k os⟩
  rw [Lib.itoa_nonneg, rowD_dec]
  unfold padD
  rw [show max 1 (Lib.nDigits u) = Lib.nDigits u by have := Lib.nDigits_pos u; omega]
end Go.Proofs.YtfeflmpdbejhjaaDoor
