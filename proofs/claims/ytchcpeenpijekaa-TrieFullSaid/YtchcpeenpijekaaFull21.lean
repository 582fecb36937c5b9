/- The walk of standishlaw21.TrieFull: it answers true. -/
import Derived.Test.YtchcpeenpijekaaKnown21
import Derived.Test.YtchcpeenpijekaaMake
namespace Go.Proofs.Ytchcpeenpijekaa
open Go.RowKit
set_option linter.unusedVariables false

/-- How often each word is there after i rounds. -/
def fcnt (i : Nat) (v : List Int) : Nat := if v = [97, 98] then (i + 2) / 3 else if v = [98, 98] then (i + 1) / 3 else if v = [99, 98] then i / 3 else 0
structure FullL (i : Nat) (L : List Itm) : Prop where
  bag : BagW L
  all : allB L = i
  cnt : ∀ v, cntB L v = fcnt i v
theorem FullL.nil : FullL 0 [] := ⟨BagW.nil, rfl, fun v => by simp [cntB, fcnt]⟩
theorem FullL.next {i : Nat} {L : List Itm} (h : FullL i L) : FullL (i + 1) (addB L [97 + (i : Int) % 3, 98]) := by
  refine ⟨addB_bag _ h.bag, by rw [all_addB, h.all], fun v => ?_⟩
  rw [cnt_addB _ _ h.bag]
  have hr : (i : Int) % 3 = 0 ∨ (i : Int) % 3 = 1 ∨ (i : Int) % 3 = 2 := by omega
  by_cases hv : v = [97 + (i : Int) % 3, 98]
  · rw [if_pos hv, h.cnt, hv]
    rcases hr with e | e | e
    · rw [e]; simp [fcnt]; omega
    · rw [e]; simp [fcnt]; omega
    · rw [e]; simp [fcnt]; omega
  · rw [if_neg hv, h.cnt]
    unfold fcnt
    rcases hr with e | e | e
    all_goals
      rw [e] at hv
      simp only [Int.reduceAdd, Int.add_zero] at hv
      split <;> (try split) <;> (try split) <;> first | omega | rfl | contradiction
theorem FullL.end_ {L : List Itm} (h : FullL 1000 L) : L = [([97, 98], 334), ([98, 98], 333), ([99, 98], 333)] := by
  refine bag_ext h.bag ?_ fun v => ?_
  · exact ⟨by decide, by decide⟩
  · rw [h.cnt]
    simp only [fcnt, cntB]
    by_cases h1 : v = [97, 98]
    · subst h1; decide
    · by_cases h2 : v = [98, 98]
      · subst h2; decide
      · by_cases h3 : v = [99, 98]
        · subst h3; decide
        · rw [if_neg h1, if_neg h2, if_neg h3, if_neg (fun e => h1 e.symm), if_neg (fun e => h2 e.symm), if_neg (fun e => h3 e.symm)]
theorem FullL.adds {i : Nat} {L : List Itm} (h : FullL i L) (hi : i < 1000) : addE L [97 + (i : Int) % 3, 98] = 0 := by
  have hr : (i : Int) % 3 = 0 ∨ (i : Int) % 3 = 1 ∨ (i : Int) % 3 = 2 := by omega
  unfold addE
  rw [if_neg, if_neg]
  · rw [h.all]; simp; omega
  · rcases hr with e | e | e
    · rw [e]; decide
    · rw [e]; decide
    · rw [e]; decide

/-- The words that are there when one is dropped. -/
abbrev L999 : List Itm := [([97, 98], 333), ([98, 98], 333), ([99, 98], 333)]
theorem may_zeros (n : Nat) : mayS (List.replicate n 0) = true := by
  unfold mayS
  rw [List.all_eq_true]
  intro x hx
  obtain ⟨_, rfl⟩ := List.mem_replicate.1 hx
  decide
theorem zeros_none (n : Nat) (hn : 2 < n) : cntB L999 (List.replicate n 0) = 0 := by
  have h : ∀ l : List Int, l.length = 2 → ¬ l = List.replicate n 0 := fun l hl e => by
    have := congrArg List.length e
    rw [List.length_replicate] at this
    omega
  simp only [cntB]
  rw [if_neg (h _ rfl), if_neg (h _ rfl), if_neg (h _ rfl)]
theorem bag999 : BagW L999 := ⟨by decide, by decide⟩
theorem zeros_add : addE L999 (List.replicate 1000 0) = 0 := by
  unfold addE
  rw [if_neg, if_neg]
  · rw [List.length_replicate]; decide
  · rw [List.length_replicate, may_zeros]; decide
theorem zeros_no : addE L999 (List.replicate 1001 0) = 3 := by
  unfold addE
  rw [if_neg, if_pos]
  · rw [List.length_replicate]; decide
  · rw [List.length_replicate, may_zeros]; decide
theorem idx2_any (k : Int) : (∀ w, Calls Try.prog 27 #[.int .i64 k, .int .i64 2] w fun e w' => e = .returned (.int .i64 0) ∧ w = w') ∨ (∀ w, Calls Try.prog 27 #[.int .i64 k, .int .i64 2] w fun e w' => e = .returned (.int .i64 1) ∧ w = w') := by
  have h : idxN k (Int.toNat 2) < 2 := idxN_lt (by decide)
  rcases (show idxN k (Int.toNat 2) = 0 ∨ idxN k (Int.toNat 2) = 1 by omega) with h | h
  · refine .inl fun w => ?_
    have h2 := index_any k 2 w (by omega) (by omega)
    rw [h] at h2
    exact h2
  · refine .inr fun w => ?_
    have h2 := index_any k 2 w (by omega) (by omega)
    rw [h] at h2
    exact h2
theorem w32_two {a b : Int} (ha : 0 ≤ a ∧ a ≤ 1114111) (hb : 0 ≤ b ∧ b ≤ 1114111) : W32 [a, b] := fun x hx => by
  rcases List.mem_cons.1 hx with h | h
  · omega
  · rw [List.mem_singleton.1 h]; omega

set_option maxRecDepth 100000 in
set_option maxHeartbeats 1000000 in
theorem full21_any (k : Int) (w : World) : Calls Try.prog 6 #[.int .i64 k] w fun e w' => e = .returned (.bool true) ∧ Below w.heap.size w w' := by
  go_enter Try.func6, Try.ntmps6
  go_wp2_with fail
  refine (tnew_all _).mono ?_
  rintro e w1 ⟨t, rfl, h1, hb1⟩
  have HT := hide h1
  have HB := hide hb1
  clear h1 hb1
  go_wp2_with fail
  go_loopw [4] (fun s4 wx => ∃ (i : Nat) (L : List Itm), i ≤ 1000 ∧ s4 = .int .i64 i ∧ Hid (TrieB wx w.heap.size t (1000 * i) L) ∧ Hid (FullL i L) ∧ Hid (Below w.heap.size w wx)) (fun s4 _ => 1000 - (intOf s4).toNat)
  case atStart => exact ⟨0, [], Nat.zero_le _, rfl, HT.out, FullL.nil, HB.out⟩
  case round =>
    obtain ⟨i, L, hi, rfl, HT, HF, HB⟩ := hrel
    by_cases hlt : i < 1000
    · have i0 : (0 : Int) ≤ (i : Int) := by omega
      have i1 : (i : Int) < 1000 := by omega
      have HT2 := hide (HT.out.alloc (.cells #[.int .i32 (97 + (i : Int) % 3), .int .i32 98] 21))
      have HB2 := hide (HB.out.alloc HB.out.size (.cells #[.int .i32 (97 + (i : Int) % 3), .int .i32 98] 21))
      have HR2 := hide (Runes.news wr #[.int .i32 (97 + (i : Int) % 3), .int .i32 98] 21 [97 + (i : Int) % 3, 98] rfl (w32_two (by omega) (by omega)))
      clear HT HB
      go_wp2_with fail
      generalize wr.alloc (.cells #[.int .i32 (97 + (i : Int) % 3), .int .i32 98] 21) = W2 at HT2 HB2 HR2 ⊢
      refine (tadd_yes HT2.out HR2.out HB2.out.size (by simp) (by omega) (HF.out.adds hlt) rfl).mono ?_
      rintro e w3 ⟨rfl, hc3, h3⟩
      have HT3 := hide h3
      have HB3 := hide (HB2.out.trans hc3.low)
      have HF3 := hide HF.out.next
      clear h3 hc3 HT2 HB2 HR2 HF
      go_wp2_with fail
      go_roundw
      case rel => exact ⟨i + 1, _, by omega, by go_num, by rw [Nat.mul_add]; exact HT3.out, HF3.out, HB3.out⟩
      case measure => simp [intOf]; omega
    · obtain rfl : i = 1000 := by omega
      obtain rfl := HF.out.end_
      clear HF hlt hi
      obtain ⟨Z0, e0⟩ : ∃ Z, Z = (cells32 (List.replicate 1000 0)).toArray := ⟨_, rfl⟩
      obtain ⟨Z1, e1⟩ : ∃ Z, Z = (cells32 (List.replicate 1001 0)).toArray := ⟨_, rfl⟩
      have hm0 : ∀ W, (Instr.makeSlice 29 (.int .i64 1000) (.int .i64 1000)).run Try.prog W = .ok (.slice (some ⟨W.heap.size, 0, none⟩) 1000 1000) (W.alloc (.cells Z0 21)) := fun W => by rw [e0]; exact run_make32 1000 (by omega) W
      have hm1 : ∀ W, (Instr.makeSlice 29 (.int .i64 1001) (.int .i64 1001)).run Try.prog W = .ok (.slice (some ⟨W.heap.size, 0, none⟩) 1001 1001) (W.alloc (.cells Z1 21)) := fun W => by rw [e1]; exact run_make32 1001 (by omega) W
      have HR0 := hide (show ∀ W : World, Runes (W.alloc (.cells Z0 21)) (some ⟨W.heap.size, 0, none⟩) 1000 (List.replicate 1000 0) from fun W => by rw [e0]; exact made_runes 1000 W)
      have HR1 := hide (show ∀ W : World, Runes (W.alloc (.cells Z1 21)) (some ⟨W.heap.size, 0, none⟩) 1001 (List.replicate 1001 0) from fun W => by rw [e1]; exact made_runes 1001 W)
      clear e0 e1
      rcases idx2_any k with hidx | hidx
      · have HI := hide hidx
        clear hidx
        go_upto_region 10 with (go_at_call 27; refine (HI.out _).mono ?_; rintro e w2 ⟨rfl, rfl⟩)
        have HZ1 := hide (HR0.out wr)
        have HT1 := hide (HT.out.alloc (.cells Z0 21))
        have HB1 := hide (HB.out.alloc HB.out.size (.cells Z0 21))
        obtain ⟨z, hz⟩ : ∃ z, wr.heap.size = z := ⟨_, rfl⟩
        rw [hz] at HZ1 ⊢
        clear HI HR0 HR1 HT HB hm0 hm1
        generalize wr.alloc (.cells Z0 21) = W1 at HZ1 HT1 HB1 ⊢
        have HT2 := hide (HT1.out.alloc (.cells #[.int .i32 122] 21))
        have HB2 := hide (HB1.out.alloc HB1.out.size (.cells #[.int .i32 122] 21))
        have HZ2 := hide (HZ1.out.alloc (.cells #[.int .i32 122] 21))
        have HR2 := hide (news_word W1 #[.int .i32 122] [122] rfl rfl (n := 1) rfl)
        clear HT1 HB1 HZ1 hz
        go_wp2_with fail
        generalize W1.alloc (.cells #[.int .i32 122] 21) = W2 at HT2 HB2 HR2 HZ2 ⊢
        refine (tadd_any HT2.out HR2.out (by omega) HB2.out.size (by omega)).mono ?_
        rintro e w3 ⟨he, hc3, h3⟩
        have hd : addE [([97, 98], 334), ([98, 98], 333), ([99, 98], 333)] [122] = 3 := by decide
        have hd2 : addL [([97, 98], 334), ([98, 98], 333), ([99, 98], 333)] [122] = [([97, 98], 334), ([98, 98], 333), ([99, 98], 333)] := if_neg (by rw [hd]; decide)
        rw [hd] at he
        rw [hd2] at h3
        subst he
        have HT3 := hide h3
        have HB3 := hide (HB2.out.trans hc3.low)
        have HZ3 := hide (hc3.runes HZ2.out)
        clear HT2 HB2 HR2 HZ2 hc3 h3 hd hd2
        go_wp2_with fail
        refine (tlen_any HT3.out).mono ?_
        rintro e w4 ⟨rfl, rfl⟩
        have HT4 := hide (HT3.out.alloc (.cells #[.int .i32 97, .int .i32 98] 21))
        have HB4 := hide (HB3.out.alloc HB3.out.size (.cells #[.int .i32 97, .int .i32 98] 21))
        have HZ4 := hide (HZ3.out.alloc (.cells #[.int .i32 97, .int .i32 98] 21))
        have HR4 := hide (news_word w3 #[.int .i32 97, .int .i32 98] [97, 98] rfl rfl (n := 2) rfl)
        clear HT3 HB3 HZ3
        go_wp2_with fail
        generalize w3.alloc (.cells #[.int .i32 97, .int .i32 98] 21) = W4 at HT4 HB4 HR4 HZ4 ⊢
        refine (tdrop_any HT4.out HR4.out (by omega) HB4.out.size (by omega)).mono ?_
        rintro e w5 ⟨he, hc5, h5⟩
        have hd : dropE [([97, 98], 334), ([98, 98], 333), ([99, 98], 333)] [97, 98] = 0 := by decide
        have hd2 : dropB [([97, 98], 334), ([98, 98], 333), ([99, 98], 333)] [97, 98] = L999 := by decide
        rw [hd] at he
        rw [hd2] at h5
        subst he
        have HT5 := hide h5
        have HB5 := hide (HB4.out.trans hc5.low)
        have HZ5 := hide (hc5.runes HZ4.out)
        clear HT4 HB4 HR4 HZ4 hc5 h5 hd hd2
        go_wp2_with fail
        refine (tadd_yes HT5.out HZ5.out HB5.out.size (by omega) (by omega) zeros_add rfl).mono ?_
        rintro e w6 ⟨rfl, hc6, h6⟩
        have HT6 := hide h6
        have HB6 := hide (HB5.out.trans hc6.low)
        have HZ6 := hide (hc6.runes HZ5.out)
        clear HT5 HB5 HZ5 hc6 h6
        go_wp2_with fail
        refine (tcount_all HT6.out HZ6.out (by omega)).mono ?_
        rintro e w7 ⟨rfl, rfl⟩
        rw [cnt_addB _ _ bag999, if_pos rfl, zeros_none 1000 (by omega)]
        go_wp2_with fail
        refine (known21_any _).mono ?_
        rintro e w8 ⟨rfl, hb8⟩
        have HB8 := hide (HB6.out.trans (hb8.mono HB6.out.size))
        clear hb8
        go_wp2_with fail
        go_ret
        exact ⟨rfl, HB8.out⟩
      · have HI := hide hidx
        clear hidx
        go_upto_region 10 with (go_at_call 27; refine (HI.out _).mono ?_; rintro e w2 ⟨rfl, rfl⟩)
        have HZ1 := hide (HR1.out wr)
        have HT1 := hide (HT.out.alloc (.cells Z1 21))
        have HB1 := hide (HB.out.alloc HB.out.size (.cells Z1 21))
        obtain ⟨z, hz⟩ : ∃ z, wr.heap.size = z := ⟨_, rfl⟩
        rw [hz] at HZ1 ⊢
        clear HI HR0 HR1 HT HB hm0 hm1
        generalize wr.alloc (.cells Z1 21) = W1 at HZ1 HT1 HB1 ⊢
        have HT2 := hide (HT1.out.alloc (.cells #[.int .i32 122] 21))
        have HB2 := hide (HB1.out.alloc HB1.out.size (.cells #[.int .i32 122] 21))
        have HZ2 := hide (HZ1.out.alloc (.cells #[.int .i32 122] 21))
        have HR2 := hide (news_word W1 #[.int .i32 122] [122] rfl rfl (n := 1) rfl)
        clear HT1 HB1 HZ1 hz
        go_wp2_with fail
        generalize W1.alloc (.cells #[.int .i32 122] 21) = W2 at HT2 HB2 HR2 HZ2 ⊢
        refine (tadd_any HT2.out HR2.out (by omega) HB2.out.size (by omega)).mono ?_
        rintro e w3 ⟨he, hc3, h3⟩
        have hd : addE [([97, 98], 334), ([98, 98], 333), ([99, 98], 333)] [122] = 3 := by decide
        have hd2 : addL [([97, 98], 334), ([98, 98], 333), ([99, 98], 333)] [122] = [([97, 98], 334), ([98, 98], 333), ([99, 98], 333)] := if_neg (by rw [hd]; decide)
        rw [hd] at he
        rw [hd2] at h3
        subst he
        have HT3 := hide h3
        have HB3 := hide (HB2.out.trans hc3.low)
        have HZ3 := hide (hc3.runes HZ2.out)
        clear HT2 HB2 HR2 HZ2 hc3 h3 hd hd2
        go_wp2_with fail
        refine (tlen_any HT3.out).mono ?_
        rintro e w4 ⟨rfl, rfl⟩
        have HT4 := hide (HT3.out.alloc (.cells #[.int .i32 97, .int .i32 98] 21))
        have HB4 := hide (HB3.out.alloc HB3.out.size (.cells #[.int .i32 97, .int .i32 98] 21))
        have HZ4 := hide (HZ3.out.alloc (.cells #[.int .i32 97, .int .i32 98] 21))
        have HR4 := hide (news_word w3 #[.int .i32 97, .int .i32 98] [97, 98] rfl rfl (n := 2) rfl)
        clear HT3 HB3 HZ3
        go_wp2_with fail
        generalize w3.alloc (.cells #[.int .i32 97, .int .i32 98] 21) = W4 at HT4 HB4 HR4 HZ4 ⊢
        refine (tdrop_any HT4.out HR4.out (by omega) HB4.out.size (by omega)).mono ?_
        rintro e w5 ⟨he, hc5, h5⟩
        have hd : dropE [([97, 98], 334), ([98, 98], 333), ([99, 98], 333)] [97, 98] = 0 := by decide
        have hd2 : dropB [([97, 98], 334), ([98, 98], 333), ([99, 98], 333)] [97, 98] = L999 := by decide
        rw [hd] at he
        rw [hd2] at h5
        subst he
        have HT5 := hide h5
        have HB5 := hide (HB4.out.trans hc5.low)
        have HZ5 := hide (hc5.runes HZ4.out)
        clear HT4 HB4 HR4 HZ4 hc5 h5 hd hd2
        go_wp2_with fail
        refine (tadd_any HT5.out HZ5.out (by omega) HB5.out.size (by omega)).mono ?_
        rintro e w6 ⟨he, hc6, h6⟩
        rw [zeros_no] at he
        have hd2 : addL L999 (List.replicate 1001 0) = L999 := if_neg (by rw [zeros_no]; decide)
        rw [hd2] at h6
        subst he
        have HT6 := hide h6
        have HB6 := hide (HB5.out.trans hc6.low)
        have HZ6 := hide (hc6.runes HZ5.out)
        clear HT5 HB5 HZ5 hc6 h6 hd2
        go_wp2_with fail
        refine (tcount_all HT6.out HZ6.out (by omega)).mono ?_
        rintro e w7 ⟨rfl, rfl⟩
        rw [zeros_none 1001 (by omega)]
        go_wp2_with fail
        refine (known21_any _).mono ?_
        rintro e w8 ⟨rfl, hb8⟩
        have HB8 := hide (HB6.out.trans (hb8.mono HB6.out.size))
        clear hb8
        go_wp2_with fail
        go_ret
        exact ⟨rfl, HB8.out⟩
end Go.Proofs.Ytchcpeenpijekaa
