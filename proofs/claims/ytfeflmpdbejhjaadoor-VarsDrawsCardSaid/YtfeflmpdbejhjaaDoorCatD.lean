/- Contracts of slices.Grow, slices.Concat at runes. -/
import Derived.Test.YtfeflmpdbejhjaaDoorTextD
import Derived.Lib.AppendZerosOnto
import Derived.Lib.Walk
namespace Go.Proofs.YtfeflmpdbejhjaaDoor
open Go.RowKit
set_option linter.unusedVariables false

set_option maxHeartbeats 1000000 in
/-- slices.Grow of nil. -/
theorem grow_nil (n : Nat) (w : World) (hn : n ≤ 35184372088832) :
    Calls Tryd.prog 53 #[.slice none 0 0, .int .i64 n] w (NewR w []) := by
  rcases Nat.eq_zero_or_pos n with h0 | h0
  · subst h0
    go_enter Tryd.func53, Tryd.ntmps53
    go_wp2
    go_ret
    exact ⟨none, 0, 0, rfl, Own.nil _ _, Below.refl _ _⟩
  · obtain ⟨i0, hi, hz0, hz1, hz2⟩ := info_parts runeInfo
    have hrz := fun ty => Lib.run_append_grow_zeros (P := Tryd.prog) w 22 3 ty 21 i0 (.int .i32 0) .i64 .i64 Tryd.underlying22 Tryd.underlying3 hi hz0 none 0 0 [] (run_firstCells_none w.drew i0.size 0 0 0) n h0
      (by rw [hz1]; omega) (by omega) (by simp only [Nat.zero_add]; omega) (by rw [hz2]; omega) (by rw [hz2]; exact growslice_fits (by omega) (by simp only [Nat.zero_add]; omega))
    simp only [Nat.zero_add] at hrz
    have hge : n ≤ grownCap w n 0 21 := grownCap_ge w _ _ _
    have hle : grownCap w n 0 21 ≤ maxLen := grownCap_le_maxLen w _ _ _ (by unfold maxLen; omega)
    have hown : ∀ cs : Array Value, cs.size = grownCap w n 0 21 → Own (w.drew.alloc (.cells cs 21)) w.heap.size (some ⟨w.heap.size, 0, none⟩) 0 (grownCap w n 0 21) [] := fun cs hcs =>
      ⟨World.ownsRow_made w.drew cs _ (Nat.le_refl _) hle (by rw [hcs, Nat.mul_one]), W32.nil⟩
    have hown' := hown (([] : List Value).toArray ++ Builtin.zeroCells (Value.int .i32 0).cells n ++ Builtin.zeroCells (Value.int .i32 0).cells (grownCap w n 0 21 - n))
      (by simp [size_zeroCells, Value.cells]; omega)
    have HO := hide hown'
    have h63 : grownCap w n 0 21 ≤ 9223372036854775807 := by unfold maxLen at hle; exact hle
    clear hown hown' hle
    obtain ⟨G, hG⟩ : ∃ G, G = grownCap w n 0 21 := ⟨_, rfl⟩
    rw [← hG] at hrz hge h63 HO
    clear hG
    obtain ⟨O, hO⟩ : ∃ O, O = (Obj.cells (([] : List Value).toArray ++ Builtin.zeroCells (Value.int .i32 0).cells n ++ Builtin.zeroCells (Value.int .i32 0).cells (G - n)) 21) := ⟨_, rfl⟩
    rw [← hO] at hrz HO
    clear hO
    have HR := hide hrz
    clear hrz
    go_enter Tryd.func53, Tryd.ntmps53
    go_wp2_with (at_builtin; refine Lib.wpList_append_run _ rfl _ _ _ _ rfl _ _ rfl rfl _ _ (HR.out _) ?_)
    go_ret
    exact ⟨_, 0, G, rfl, HO.out, (Below.refl _ _).drew.alloc (Nat.le_refl _) _⟩

/-- A slice of texts. -/
structure Texts (w : World) (A : Option Addr) (n : Nat) (ls : List (List Int)) : Prop where
  len : ls.length = n
  at_ : ∀ j, j < n → ∃ b o T m d l, A = some ⟨b, o, none⟩ ∧ w.cell? ⟨b, o + j, none⟩ = some (.slice T m d) ∧ ls[j]? = some l ∧ Runes w T m l

def tot (ls : List (List Int)) (k : Nat) : Nat := ((ls.take k).map List.length).sum
theorem tot_succ {ls : List (List Int)} {k : Nat} {l : List Int} (h : ls[k]? = some l) : tot ls (k + 1) = tot ls k + l.length := by
  obtain ⟨hk, rfl⟩ := List.getElem?_eq_some_iff.1 h
  unfold tot
  rw [List.take_succ_eq_append_getElem hk, List.map_append, List.sum_append]
  simp only [List.map_cons, List.map_nil, List.sum_cons, List.sum_nil, Nat.add_zero]
theorem tot_le (ls : List (List Int)) (k : Nat) : tot ls k ≤ (ls.map List.length).sum := by
  unfold tot
  have : ls.map List.length = (ls.take k).map List.length ++ (ls.drop k).map List.length := by rw [← List.map_append, List.take_append_drop]
  rw [this, List.sum_append]
  omega
theorem flat_succ {ls : List (List Int)} {k : Nat} {l : List Int} (h : ls[k]? = some l) : (ls.take (k + 1)).flatten = (ls.take k).flatten ++ l := by
  obtain ⟨hk, rfl⟩ := List.getElem?_eq_some_iff.1 h
  rw [List.take_succ_eq_append_getElem hk, List.flatten_append]
  simp only [List.flatten_cons, List.flatten_nil, List.append_nil]
theorem flatT_len (ls : List (List Int)) (k : Nat) : ((ls.take k).flatten).length = tot ls k := by
  unfold tot
  rw [List.length_flatten]

section
variable {w w' : World} {A : Option Addr} {n : Nat} {ls : List (List Int)}
theorem Texts.below (h : Texts w A n ls) (hb : Below w.heap.size w w') : Texts w' A n ls :=
  ⟨h.len, fun j hj => by
    obtain ⟨b, o, T, m, d, l, h1, h2, h3, h4⟩ := h.at_ j hj
    exact ⟨b, o, T, m, d, l, h1, (hb.cell (World.block_lt_of_cell? w _ h2)).trans h2, h3, h4.below hb⟩⟩
end

set_option maxHeartbeats 1000000 in
theorem concat_any (A : Option Addr) (n c : Nat) (ls : List (List Int)) (w : World) (hT : Texts w A n ls) (hn : n ≤ 1000000) (hs : (ls.map List.length).sum ≤ 35184372088832) :
    Calls Tryd.prog 44 #[.slice A n c] w (NewR w ls.flatten) := by
  have HT := hide hT
  have HL := hide hT.len
  clear hT
  go_enter Tryd.func44, Tryd.ntmps44
  go_wp2_with fail
  go_loop [3, 5, 11] (fun t _ i => ∃ k : Nat, k ≤ n ∧ i = .int .i64 k ∧ t = .int .i64 (tot ls k)) (fun _ _ i => n - (intOf i).toNat)
  case atStart => exact ⟨0, Nat.zero_le _, rfl, rfl⟩
  case round =>
    obtain ⟨k, hk, rfl, rfl⟩ := hrel
    by_cases hlt : k < n
    · obtain ⟨b, o, T, m, d, l, rfl, hc, hl, hr⟩ := HT.out.at_ k hlt
      have h1 := tot_succ hl
      have h2 := tot_le ls (k + 1)
      have h3 := hr.len
      have h4 : tot ls k + m ≤ 35184372088832 := by omega
      have h5 : tot ls (k + 1) = tot ls k + m := by omega
      have H5 := hide h5
      clear h1 h2 h3 h5 hl hr
      go_wp2
      go_round
      case rel => exact ⟨k + 1, by omega, by go_num, by rw [H5.out]; go_num⟩
      case measure => simp [intOf]; omega
    · obtain rfl : k = n := by omega
      have h2 := tot_le ls k
      go_wp2_with (go_at_call 53; refine (grow_nil _ _ (by omega)).mono ?_; rintro e w1 ⟨A1, n1, c1, rfl, hown1, hb1⟩)
      have hn1 : n1 = 0 := by have := hown1.len; simpa using this.symm
      subst hn1
      have HO := hide hown1
      have HB := hide hb1
      clear hown1 hb1
      go_loopw [6, 8, 27] (fun v _ i wr => ∃ (j : Nat) (A2 : Option Addr) (c2 : Nat), j ≤ k ∧ i = .int .i64 j ∧ v = .slice A2 (tot ls j) c2 ∧ Own wr w.heap.size A2 (tot ls j) c2 ((ls.take j).flatten) ∧ Below w.heap.size w wr) (fun _ _ i _ => k - (intOf i).toNat)
      case atStart => exact ⟨0, A1, c1, Nat.zero_le _, rfl, rfl, HO.out, HB.out⟩
      case round =>
        obtain ⟨j, A2, c2, hj, rfl, rfl, hown2, hb2⟩ := hrel
        have HO2 := hide hown2
        have HB2 := hide hb2
        clear hown2 hb2
        by_cases hjk : j < k
        · obtain ⟨b, o, T, m, d, l, rfl, hc, hl, hr⟩ := (HT.out.below HB2.out).at_ j hjk
          have h1 := tot_succ hl
          have h2 := tot_le ls (j + 1)
          have h3 := hr.len
          have h4 : tot ls j + m ≤ 35184372088832 := by omega
          have h5 : tot ls (j + 1) = tot ls j + m := by omega
          have H5 := hide h5
          have HF := hide (flat_succ hl)
          have HR := hide hr
          clear h1 h2 h3 h5 hl hr
          go_wp2_with (at_builtin
                       refine wpList_app rfl (.tmp 31) (.tmp 32) rfl w.heap.size rfl HO2.out rfl HR.out (by omega) HB2.out.size ?_
                       intro A3 c3 w3 hown3 hg3 hb3 _ _)
          rw [← HF.out] at hown3
          have HO3 := hide hown3
          have HB3 := hide (HB2.out.trans hb3)
          clear hown3 hb3 hg3
          go_roundw
          case rel => exact ⟨j + 1, A3, c3, by omega, by go_num, by rw [H5.out], by rw [H5.out]; exact HO3.out, HB3.out⟩
          case measure => simp [intOf]; omega
        · obtain rfl : j = k := by omega
          go_wp2
          go_ret
          refine ⟨A2, _, c2, rfl, ?_, HB2.out⟩
          have := HO2.out
          rwa [List.take_of_length_le (by rw [HL.out]; exact Nat.le_refl _)] at this

theorem Texts.news3 {w : World} {T1 T2 T3 : Option Addr} {m1 m2 m3 d1 d2 d3 : Nat} {l1 l2 l3 : List Int} (h1 : Runes w T1 m1 l1) (h2 : Runes w T2 m2 l2) (h3 : Runes w T3 m3 l3) (t : TypeId) :
    Texts (w.alloc (.cells #[.slice T1 m1 d1, .slice T2 m2 d2, .slice T3 m3 d3] t)) (some ⟨w.heap.size, 0, none⟩) 3 [l1, l2, l3] := by
  have hb := Box.new w t #[.slice T1 m1 d1, .slice T2 m2 d2, .slice T3 m3 d3]
  refine ⟨rfl, fun j hj => ?_⟩
  match j, hj with
  | 0, _ => exact ⟨_, _, T1, m1, d1, l1, rfl, hb.cell 0, rfl, h1.alloc _⟩
  | 1, _ => exact ⟨_, _, T2, m2, d2, l2, rfl, hb.cell 1, rfl, h2.alloc _⟩
  | 2, _ => exact ⟨_, _, T3, m3, d3, l3, rfl, hb.cell 2, rfl, h3.alloc _⟩
  | j + 3, hj => omega

end Go.Proofs.YtfeflmpdbejhjaaDoor
