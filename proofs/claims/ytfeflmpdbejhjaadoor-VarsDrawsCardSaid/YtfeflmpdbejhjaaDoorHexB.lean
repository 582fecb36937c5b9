/- Numbers by sixteen: internal/strconv.formatBits at base 16, FormatInt at base 16. -/
import Derived.Test.YtfeflmpdbejhjaaDoorHexA
namespace Go.Proofs.YtfeflmpdbejhjaaDoor
open Go.RowKit
set_option linter.unusedVariables false

/-- A digit; the digit at a place; a number's row of k digits. -/
def hxd (d : Nat) : UInt8 := Lib.digits36.data.toList.getD d 0
def dgh (u j : Nat) : UInt8 := hxd (u / 16 ^ j % 16)
def rowH (u k : Nat) : List UInt8 := (List.range k).map fun t => dgh u (k - 1 - t)
theorem rowH_len (u k : Nat) : (rowH u k).length = k := by simp [rowH]
theorem rowH_succ (u k : Nat) : rowH u (k + 1) = dgh u k :: rowH u k := by
  unfold rowH
  rw [List.range_succ_eq_map, List.map_cons, List.map_map]
  refine congr (congrArg _ ?_) (List.map_congr_left fun t ht => ?_)
  · simp
  · have := List.mem_range.1 ht
    simp only [Function.comp, Nat.succ_eq_add_one]
    congr 1
    omega
theorem dgh_out {u k : Nat} (h : u / 16 ^ k = 0) : dgh u k = 48 := by
  unfold dgh
  rw [h]
  decide +kernel

theorem and_15 (x : Nat) (h : x < 16777216) : bits .and .u64 (x : Int) 15 = ((x % 16 : Nat) : Int) := by
  have h0 : bits .and .u64 (x : Int) 15 = IntKind.u64.wrap ((BitVec.ofInt 64 x &&& BitVec.ofInt 64 15).toNat : Int) := rfl
  have h1 : (BitVec.ofInt 64 (x : Int)).toNat = x := by
    rw [BitVec.toNat_ofInt]
    have : ((x : Int) % (2 ^ 64 : Nat)).toNat = x := by omega
    exact this
  have hb : (BitVec.ofInt 64 (x : Int) &&& BitVec.ofInt 64 15).toNat = x % 16 := by
    rw [BitVec.toNat_and, h1]
    exact Nat.and_two_pow_sub_one_eq_mod x 4
  rw [h0, hb, IntKind.wrap_u64]
  omega

theorem ba_get (s : ByteArray) (i : Nat) (h : i < s.size) : s[i] = s.data.toList.getD i 0 := by
  have h1 : i < s.data.toList.length := by simpa using h
  rw [List.getD_eq_getElem?_getD, List.getElem?_eq_getElem h1]
  simp
  rfl
theorem idx36 (d : Nat) (h : d < 36) (W : World) : (Instr.index 9 (.string ⟨#[48, 49, 50, 51, 52, 53, 54, 55, 56, 57, 97, 98, 99, 100, 101, 102, 103, 104, 105, 106, 107, 108, 109, 110, 111, 112, 113, 114, 115, 116, 117, 118, 119, 120, 121, 122]⟩) (.int .u64 (d : Int))).run Tryd.prog W = .ok (.int .u8 ((hxd d).toNat : Int)) W := by
  have h36 : (⟨#[48, 49, 50, 51, 52, 53, 54, 55, 56, 57, 97, 98, 99, 100, 101, 102, 103, 104, 105, 106, 107, 108, 109, 110, 111, 112, 113, 114, 115, 116, 117, 118, 119, 120, 121, 122]⟩ : ByteArray).size = 36 := rfl
  rw [run_index_string W 9 _ _ _ Tryd.underlying9, dif_pos ⟨by omega, by rw [h36]; omega⟩]
  have e : ((⟨#[48, 49, 50, 51, 52, 53, 54, 55, 56, 57, 97, 98, 99, 100, 101, 102, 103, 104, 105, 106, 107, 108, 109, 110, 111, 112, 113, 114, 115, 116, 117, 118, 119, 120, 121, 122]⟩ : ByteArray)[((d : Int)).toNat]'(by rw [h36]; omega)) = hxd d := by
    rw [ba_get]
    have e2 : (⟨#[48, 49, 50, 51, 52, 53, 54, 55, 56, 57, 97, 98, 99, 100, 101, 102, 103, 104, 105, 106, 107, 108, 109, 110, 111, 112, 113, 114, 115, 116, 117, 118, 119, 120, 121, 122]⟩ : ByteArray).data.toList = Lib.digits36.data.toList := by decide +kernel
    rw [e2]
    simp [hxd]
  rw [e]

/-- The block's cells behind k stores. -/
def cellsH (u k : Nat) : Array Value := (List.replicate (65 - k) (Value.int .u8 0) ++ (rowH u k).map fun b => Value.int .u8 (b.toNat : Int)).toArray
theorem cellsH_zero (u : Nat) : cellsH u 0 = (List.replicate 65 (Value.int .u8 0)).toArray := by simp [cellsH, rowH]
theorem cellsH_set (u k : Nat) (h : k ≤ 64) : (cellsH u k).setIfInBounds (64 - k) (.int .u8 ((dgh u k).toNat : Int)) = cellsH u (k + 1) := by
  unfold cellsH
  rw [rowH_succ, show 65 - k = (64 - k) + 1 by omega, show 65 - (k + 1) = 64 - k by omega, List.replicate_succ']
  simp
theorem cellsH_at (u k j : Nat) (hk : k ≤ 65) (hj : j < k) : (cellsH u k)[65 - k + j]? = some (.int .u8 (((rowH u k)[j]'(by rw [rowH_len]; exact hj)).toNat : Int)) := by
  unfold cellsH
  simp [List.getElem?_append_right, rowH_len, hj]

set_option maxRecDepth 100000 in
set_option maxHeartbeats 2000000 in
theorem fbits_any (u : Nat) (hu : u < 16777216) (w : World) (h : Tabs w) :
    Calls Tryd.prog 65 #[.slice none 0 0, .int .u64 u, .int .i64 16, .bool false, .bool false] w fun e w' => ∃ L, 1 ≤ L ∧ L ≤ 6 ∧ u / 16 ^ L = 0 ∧ e = .returned (.tuple #[.slice none 0 0, .string ⟨(rowH u L).toArray⟩]) ∧ Below w.heap.size w w' := by
  have HT := hide h
  clear h
  go_enter Tryd.func65, Tryd.ntmps65
  go_wp2_with (first
    | (go_at_call 69; (with_reducible refine (pow2_any _).mono ?_); rintro e w' ⟨rfl, rfl⟩)
    | (go_at_call 70; (with_reducible refine (tz_any _ (HT.out.below ((Below.refl _ _).alloc (Nat.le_refl _) _))).mono ?_); rintro e w' ⟨rfl, rfl⟩))
  obtain ⟨g, hg⟩ : ∃ g, w.heap.size = g := ⟨_, rfl⟩
  have hzc : Tryd.zeroCells87 = cellsH u 0 := by rw [cellsH_zero]; kernel_rfl
  have HX := hide (show Box (w.alloc (.cells Tryd.zeroCells87 87)) g 87 (cellsH u 0) from hzc ▸ Box.newAt hg _ _)
  have HB := hide (show Below w.heap.size w (w.alloc (.cells Tryd.zeroCells87 87)) from (Below.refl _ _).alloc (Nat.le_refl _) _)
  clear hzc
  generalize w.alloc (.cells Tryd.zeroCells87 87) = w1 at HX HB ⊢
  rw [hg] at HB ⊢
  go_loopw [1, 13] (fun s1 s13 wx => ∃ k j : Nat, j + k = 64 ∧ k ≤ 5 ∧ s1 = .int .u64 ((u / 16 ^ k : Nat) : Int) ∧ s13 = .int .i64 ((j + 1 : Nat) : Int) ∧ Hid (Box wx g 87 (cellsH u k)) ∧ Hid (Below g w wx)) (fun s1 _ _ => (intOf s1).toNat)
  case atStart => exact ⟨0, 64, rfl, by omega, by simp, rfl, HX.out, HB.out⟩
  case round =>
    obtain ⟨k, j, hjk, hk, rfl, rfl, HXX, HBB⟩ := hrel
    clear HX HB
    obtain ⟨x, hx⟩ : ∃ x, u / 16 ^ k = x := ⟨_, rfl⟩
    have hxu : x < 16777216 := by rw [← hx]; exact Nat.lt_of_le_of_lt (Nat.div_le_self _ _) hu
    have hxk : x / 16 = u / 16 ^ (k + 1) := by rw [Nat.pow_succ, ← Nat.div_div_eq_div_mul, hx]
    have e1 : (((j + 1 : Nat)) : Int) - 1 = (j : Int) := by omega
    have j0 : (0 : Int) ≤ (j : Int) := by omega
    have j1 : (j : Int) < 65 := by omega
    have hc : wr.cell? ⟨g, j, none⟩ = some (.int .u8 0) := by
      rw [HXX.out.cell]
      unfold cellsH
      rw [show 65 - k = j + 1 by omega, List.getElem?_toArray, List.getElem?_append_left (by simp), List.getElem?_replicate, if_pos (by omega)]
    have hf := HXX.out.frozen j
    have hk2 : 64 - k = j := by omega
    have HS := hide (show Box (wr.setCell ⟨g, j, none⟩ (.int .u8 ((dgh u k).toNat : Int))) g 87 (cellsH u (k + 1)) from by
      rw [← cellsH_set u k (by omega), hk2]
      exact HXX.out.set _ _)
    have HSB := hide (show Below g w (wr.setCell ⟨g, j, none⟩ (.int .u8 ((dgh u k).toNat : Int))) from HBB.out.setCell (Nat.le_refl g) _)
    rw [hx]
    by_cases h16 : 16 ≤ x
    · have h16' : (16 : Int) ≤ (x : Int) := by omega
      have hk4 : k ≤ 4 := by
        rcases Nat.lt_or_ge k 5 with h | h
        · omega
        · exfalso
          have : k = 5 := by omega
          subst this
          omega
      have hix : ∀ W, (Instr.index 9 (.string ⟨#[48, 49, 50, 51, 52, 53, 54, 55, 56, 57, 97, 98, 99, 100, 101, 102, 103, 104, 105, 106, 107, 108, 109, 110, 111, 112, 113, 114, 115, 116, 117, 118, 119, 120, 121, 122]⟩) (.int .u64 (bits BinOp.and IntKind.u64 (x : Int) 15))).run Tryd.prog W = .ok (.int .u8 ((dgh u k).toNat : Int)) W := fun W => by
        rw [and_15 x hxu, idx36 _ (by omega)]
        unfold dgh
        rw [hx]
      go_wp2_with fail
      refine ⟨⟨k + 1, j - 1, by omega, by omega, ?_, ?_, HS.out, HSB.out⟩, ?_⟩
      · rw [← hxk]
        rfl
      · rw [show j - 1 + 1 = j by omega]
      · simp [intOf]
        omega
    · have h16' : ¬ (16 : Int) ≤ (x : Int) := by omega
      have hix : ∀ W, (Instr.index 9 (.string ⟨#[48, 49, 50, 51, 52, 53, 54, 55, 56, 57, 97, 98, 99, 100, 101, 102, 103, 104, 105, 106, 107, 108, 109, 110, 111, 112, 113, 114, 115, 116, 117, 118, 119, 120, 121, 122]⟩) (.int .u64 (x : Int))).run Tryd.prog W = .ok (.int .u8 ((dgh u k).toNat : Int)) W := fun W => by
        rw [idx36 _ (by omega)]
        unfold dgh
        rw [hx, Nat.mod_eq_of_lt (by omega)]
      have hal : Tryd.prog.arrayLen 87 = 65 := by kernel_rfl
      have hsl : ∀ W, (Instr.sliceAt 87 (.pointer (some ⟨g, 0, none⟩)) (some (.int .i64 (j : Int))) none none).run Tryd.prog W = .ok (.slice (some ⟨g, j, none⟩) (k + 1) (k + 1)) W := fun W => by
        rw [run_sliceAt_array_l W 87 ⟨g, 0, none⟩ (by simp [Program.arrayLen, Program.elem, Tryd.underlying87]) .i64 (j : Int) (by omega) (by rw [hal]; omega)]
        rw [hal]
        go_simp
        omega
      have hcv : (convert 81 9 (.slice (some ⟨g, j, none⟩) (k + 1) (k + 1))).run Tryd.prog (wr.setCell ⟨g, j, none⟩ (.int .u8 ((dgh u k).toNat : Int))) = .ok (.string ⟨(rowH u (k + 1)).toArray⟩) (wr.setCell ⟨g, j, none⟩ (.int .u8 ((dgh u k).toNat : Int))) := by
        have h := run_convert_bytes_back (P := Tryd.prog) (wr.setCell ⟨g, j, none⟩ (.int .u8 ((dgh u k).toNat : Int))) 81 9 5 ⟨g, j, none⟩ (k + 1) (rowH u (k + 1)) Tryd.underlying81 Tryd.underlying5 Tryd.underlying9 (fun i hi => by
          rw [rowH_len] at hi
          rw [addr_lit, HS.out.cell, ← cellsH_at u (k + 1) i (by omega) hi, show 65 - (k + 1) = j by omega])
        rw [rowH_len] at h
        exact h
      clear hal
      go_wp2_with fail
      go_ret2
      refine ⟨k + 1, by omega, by omega, ?_, rfl, hg ▸ HSB.out⟩
      exact (Nat.div_eq_zero_iff_lt (Nat.pow_pos (by omega))).1 (by rw [← hxk]; omega)

set_option maxRecDepth 100000 in
theorem fint16_any (u : Nat) (hu : u < 16777216) (w : World) (h : Tabs w) :
    Calls Tryd.prog 61 #[.int .i64 u, .int .i64 16] w fun e w' => ∃ L, 1 ≤ L ∧ L ≤ 6 ∧ u / 16 ^ L = 0 ∧ e = .returned (.string ⟨(rowH u L).toArray⟩) ∧ Below w.heap.size w w' := by
  have HF := hide (fbits_any u hu w h)
  clear h
  have h0 : (0 : Int) ≤ (u : Int) := by omega
  have h1 : ¬ (u : Int) < 0 := by omega
  have e1 : IntKind.u64.wrap (u : Int) = (u : Int) := by rw [IntKind.wrap_u64]; omega
  go_enter Tryd.func61, Tryd.ntmps61
  go_wp2_with (go_at_call 65; (with_reducible refine HF.out.mono ?_); rintro e w1 ⟨L, q1, q2, q3, rfl, hb⟩)
  go_ret
  exact ⟨L, q1, q2, q3, rfl, hb⟩
set_option maxRecDepth 100000 in
theorem formatInt16_any (u : Nat) (hu : u < 16777216) (w : World) (h : Tabs w) :
    Calls Tryd.prog 51 #[.int .i64 u, .int .i64 16] w fun e w' => ∃ L, 1 ≤ L ∧ L ≤ 6 ∧ u / 16 ^ L = 0 ∧ e = .returned (.string ⟨(rowH u L).toArray⟩) ∧ Below w.heap.size w w' := by
  go_enter Tryd.func51, Tryd.ntmps51
  go_wp2_with (go_at_call 61; (with_reducible refine (fint16_any u hu w h).mono ?_); rintro e w1 ⟨L, q1, q2, q3, rfl, hb⟩)
  go_ret
  exact ⟨L, q1, q2, q3, rfl, hb⟩
theorem grow_below (w : World) (k : Nat) (os : Array Obj) : Below w.heap.size w (Sort.grow (w.drewN k) os) :=
  ⟨rfl, rfl, rfl, by simp [Sort.grow, World.drewN], fun i hi => by
    show (w.heap ++ os)[i]? = _
    rw [Array.getElem?_append_left hi]⟩
set_option maxRecDepth 100000 in
theorem formatInt10_any (u : Nat) (hu : u < 16777216) (w : World) (h : Tabs w) :
    Calls Tryd.prog 51 #[.int .i64 u, .int .i64 10] w fun e w' => e = .returned (.string ⟨(Lib.decDigits u).toArray⟩) ∧ Below w.heap.size w w' := by
  go_enter Tryd.func51, Tryd.ntmps51
  go_wp2_with (go_at_call 61; (with_reducible refine (internal_strconv_FormatInt_10 u (by omega) (by omega) w h.p10).mono ?_); rintro e w1 ⟨rfl, k, os, rfl⟩)
  go_ret
  exact ⟨by rw [Lib.itoa_nonneg]; rfl, grow_below w k os⟩
end Go.Proofs.YtfeflmpdbejhjaaDoor
