/- The walk of standishlaw23's AbbrevNamed: it answers true. -/
import Derived.Test.YtkoieceifplphaaNamedP
import Derived.Test.YtkoieceifplphaaKnown23
import Derived.Test.YtkoieceifplphaaBytes
import Derived.Deep.CutBlock
import Derived.Outline
import Derived.Deep.DeepCutAuto
namespace Go.Proofs.Ytkoieceifplphaa
open Go.RowKit
set_option linter.unusedVariables false

theorem Own.news (w : World) (cs : Array Value) (l : List Int) (h : cs = (cells32 l).toArray) (hw : W32 l) (hl : l.length ≤ 9223372036854775807) : Own (w.alloc (.cells cs 21)) w.heap.size (some ⟨w.heap.size, 0, none⟩) l.length l.length l := by
  subst h
  refine ⟨⟨by simp [cells32], .inr ⟨w.heap.size, l.length, (cells32 l).toArray, rfl, Nat.le_refl _, heap_alloc_new w _, Nat.le_refl _, by unfold maxLen; omega, by simp [cells32], by simp [cells32, List.take_of_length_le]⟩⟩, hw⟩
theorem tabN {w : World} {g : Nat} (hg : w.heap.size = g) {A T : Option Addr} {n c k d : Nat} {t : List Int} (hA : Runes w A n (65 :: t)) (hT : Runes w T k t) (hc : n ≤ c ∧ c ≤ 9223372036854775807) (hd : k ≤ d ∧ d ≤ 9223372036854775807) (h1 : 1 ≤ k) :
    ∃ us, Snips (w.alloc (.cells #[.slice A n c, .slice none 0 0, .slice T k d, .slice none 0 0, .slice T 1 d, .slice none 0 0, .slice T k d, .slice none 0 0] 36)) (some ⟨g, 0, none⟩) 4 us (rowsN t) := by
  have hT1 := hT.take (m := 1) h1
  refine ⟨fun j => match j with | 0 => ⟨A, n, c, none, 0, 0⟩ | 1 => ⟨T, k, d, none, 0, 0⟩ | 2 => ⟨T, 1, d, none, 0, 0⟩ | _ => ⟨T, k, d, none, 0, 0⟩, Snips.lit (Box.newAt hg _ _) rfl (fun j hj => ?_) (fun j hj => ?_)⟩
  · match j, hj with
    | 0, _ => exact ⟨rfl, rfl⟩
    | 1, _ => exact ⟨rfl, rfl⟩
    | 2, _ => exact ⟨rfl, rfl⟩
    | 3, _ => exact ⟨rfl, rfl⟩
  · match j, hj with
    | 0, _ => exact ⟨_, rfl, ⟨hA.alloc _, Runes.nil _ _, hc, by simp⟩⟩
    | 1, _ => exact ⟨_, rfl, ⟨hT.alloc _, Runes.nil _ _, hd, by simp⟩⟩
    | 2, _ => exact ⟨_, rfl, ⟨hT1.alloc _, Runes.nil _ _, by simp only; omega, by simp⟩⟩
    | 3, _ => exact ⟨_, rfl, ⟨hT.alloc _, Runes.nil _ _, hd, by simp⟩⟩
theorem Own.newsAt {w : World} {g : Nat} (hg : w.heap.size = g) (cs : Array Value) (l : List Int) (h : cs = (cells32 l).toArray) (hw : W32 l) (hl : l.length ≤ 9223372036854775807) : Own (w.alloc (.cells cs 21)) g (some ⟨g, 0, none⟩) l.length l.length l := by
  subst hg
  exact Own.news w cs l h hw hl

/-- The letters that bytes stand for. -/
def lowOf (z : List Int) : List Int := z.map fun x => 97 + x % 26
theorem lowOf_low {z : List Int} : Low (lowOf z) := fun x hx => by
  obtain ⟨y, _, rfl⟩ := List.mem_map.1 hx
  omega
theorem lowOf_snoc {z : List Int} {k : Nat} (h : k < z.length) : lowOf (z.take (k + 1)) = lowOf (z.take k) ++ [97 + nth z k % 26] := by
  rw [take_snoc h]
  simp [lowOf]
theorem lowOf_len (z : List Int) : (lowOf z).length = z.length := by simp [lowOf]

set_option maxRecDepth 100000 in
set_option maxHeartbeats 4000000 in
theorem named23_any (Z H : Option Addr) (m cz h ch : Nat) (n : Int) (z a : List Int) (w : World) (hZ : BytesR w Z m z) (hm : m ≤ 140737488351232) (hH : Runes w H h a) (hh : h ≤ ch) (hh2 : ch ≤ 9223372036854775807) :
    Calls Try.prog 6 #[.slice Z m cz, .slice H h ch, .int .i64 n] w fun e w' => e = .returned (.bool true) ∧ Below w.heap.size w w' := by
  have HZ := hide hZ
  have HZL := hide hZ.len
  have HH := hide hH
  clear hZ hH
  go_enter Try.func6, Try.ntmps6
  go_upto_block 0 with fail
  go_cut [7] (fun v wx => ∃ (T : Option Addr) (k ct : Nat), v = .slice T k ct ∧ k ≤ 19 ∧ Own wx w.heap.size T k ct (lowOf (z.take k)) ∧ Hid (Below w.heap.size w wx))
  case first =>
    go_wp2_with fail
    go_loopw [7, 8] (fun v i wx => ∃ (T : Option Addr) (k ct : Nat), v = .slice T k ct ∧ i = .int .i64 k ∧ k ≤ m ∧ k ≤ 19 ∧ Own wx w.heap.size T k ct (lowOf (z.take k)) ∧ Hid (Below w.heap.size w wx)) (fun _ i _ => m - (intOf i).toNat)
    case atStart => exact ⟨none, 0, 0, rfl, rfl, Nat.zero_le _, by omega, Own.nil _ _, Below.refl _ _⟩
    case round =>
      obtain ⟨T, k, ct, rfl, rfl, hkm, hk19, hown, hb⟩ := hrel
      have HO := hide hown
      have hsz := hb.out.size
      clear hown
      by_cases hlt : k < m
      · by_cases h19 : k < 19
        · obtain ⟨b, o, rfl, hc⟩ := (HZ.out.below hb.out).at_ k hlt
          have hz := HZ.out.wf _ (nth_mem (l := z) (j := k) (by rw [HZL.out]; exact hlt))
          have HSN := hide (lowOf_snoc (z := z) (k := k) (by rw [HZL.out]; exact hlt))
          have d19 : (k : Int) < 19 := by omega
          generalize nth z k = x at hc hz HSN
          have hz1 := hz.1
          have hx : 0 ≤ x % 26 ∧ x % 26 < 26 := by omega
          clear hz
          go_wp2_with (at_builtin
                       refine wpList_app rfl (.tmp 27) (.tmp 35) rfl w.heap.size rfl (HO.out.alloc _) rfl (Runes.news _ _ _ [97 + x % 26] rfl (W32.one (by omega))) (by simp; omega) (by simp; omega) ?_
                       intro A3 c3 w3 ho3 hg3 hb3 hbk _)
          rw [← HSN.out] at ho3
          have HO3 := hide ho3
          have HB3 := hide ((hb.out.alloc hsz (.cells #[.int .i32 (97 + x % 26)] 21)).trans hb3)
          clear ho3 hg3 hb3 hbk
          go_roundw
          case rel => exact ⟨A3, k + 1, c3, rfl, by first | rfl | go_num, by omega, by omega, HO3.out, HB3.out⟩
          case measure => simp [intOf]; omega
        · have d19 : ¬ ((k : Int) < 19) := by omega
          go_wp2_with fail
          go_meet
          exact ⟨T, k, ct, rfl, hk19, HO.out, hb.out⟩
      · go_wp2_with fail
        go_meet
        exact ⟨T, k, ct, rfl, hk19, HO.out, hb.out⟩
  case rest =>
    obtain ⟨T, k, ct, rfl, hk19, hown, hb⟩ := hcut
    have hlow : Low (lowOf (z.take k)) := lowOf_low
    have hkl := hown.len
    generalize lowOf (z.take k) = t at hlow hkl hown
    have HLOW := hide hlow
    have HKL := hide hkl
    have HO := hide hown
    have hct := hown.cap
    clear hown hlow hkl
    by_cases hk0 : k = 0
    · have d0 : ((k : Int) == 0) = true := by simp; omega
      have K0 := hide hk0
      clear hk0
      go_wp2_with fail
      refine (known23_any _).mono ?_
      rintro e w1 ⟨rfl, hb1⟩
      have HB1 := hide (hb.out.trans (hb1.mono hb.out.size))
      go_wp2_with fail
      go_ret
      exact ⟨rfl, HB1.out⟩
    · have d0 : ((k : Int) == 0) = false := by simp; omega
      have hk1 : 1 ≤ k := by omega
      have hsz := hb.out.size
      clear hk0
      go_wp2_with fail
      refine (cut_any H h ch 20 _ hh hh2 (by omega)).mono ?_
      rintro e w' ⟨rfl, rfl⟩
      have hh20 : min h 20 ≤ 20 := by omega
      have hha : (a.take (min h 20)).length = min h 20 := by rw [List.length_take, HH.out.len]; omega
      have HA := hide ((HH.out.below hb.out).take (m := min h 20) (by omega))
      generalize a.take (min h 20) = a2 at HA hha
      generalize min h 20 = h2 at HA hh20 hha
      have HHA := hide hha
      clear hha HH
      go_wp2_with (first
        | (at_builtin
           refine wpList_app0 rfl (.const (.slice none 0 0)) (.tmp 42) rfl wc.heap.size rfl rfl HA.out (by omega) (Nat.le_refl _) ?_
           intro A1 c1 w1 hown1 hb1 _ _)
        | (at_builtin
           refine wpList_app rfl (.tmp 43) (.tmp 44) rfl wc.heap.size rfl (hown1.alloc _) rfl (Runes.news _ _ _ [45] rfl (W32.one (by omega))) (by simp; omega) (by have := hb1.size; simp; omega) ?_
           intro A2 c2 w2 hown2 hg2 hb2 _ hsome))
      have HO2 := hide hown2
      have HB2 := hide ((hb1.alloc hb1.size (.cells #[.int .i32 45] 21)).trans hb2)
      clear hown1 hb1 hown2 hg2 hb2
      have HOT := hide (HO.out.below HB2.out).runes
      have hsz2 := HB2.out.size
      have hrun := run_sub_h T k ct 1 (by omega)
      have hrun1 : ∀ W, (Instr.slice 23 (.slice T k ct) none (some (.int .i64 1)) none).run Try.prog W = .ok (.slice T 1 ct) W := fun W => hrun W
      have HC2 := hide HO2.out.cap
      have HO65 := hide (show Own (w2.drew.alloc (.cells #[.int .i32 65] 21)) w2.heap.size (some ⟨w2.heap.size, 0, none⟩) 1 1 [65] from Own.newsAt (w := w2.drew) (g := w2.heap.size) rfl #[.int .i32 65] [65] rfl (W32.one (by omega)) (by simp))
      have HOT65 := hide (HOT.out.drew.alloc (.cells #[.int .i32 65] 21))
      have HS65 := hide (show w2.heap.size ≤ (w2.drew.alloc (.cells #[.int .i32 65] 21)).heap.size by simp)
      clear hrun
      go_region_held3 (fun _ => True) (first | trivial | go_keep)
        (first
         | (refine step_app (by rfl) (.tmp 46) (.tmp 47) (by rfl) w2.heap.size (by rfl) HO65.out (by rfl) HOT65.out (by omega) HS65.out ?_; intro A3 c3 w3 hown3 hg3 hb3 hat3 hsome3))
      have HB3 := hide ((((Below.refl w2.heap.size w2).alloc (Nat.le_refl _) (.cells #[.int .i32 65] 21)).drew).trans hb3)
      have HO3 := hide (show Runes w3 A3 (1 + k) (65 :: t) from hown3.runes)
      have hc3 := hown3.cap
      clear hown3 hg3 hb3 hat3 hsome3 HO65 HOT65 HS65
      obtain ⟨us, hs⟩ := tabN rfl HO3.out (HOT.out.below HB3.out) hc3 hct hk1
      have HS := hide hs
      have HB4 := hide (HB3.out.alloc HB3.out.size (.cells #[.slice A3 (1 + k) c3, .slice none 0 0, .slice T k ct, .slice none 0 0, .slice T 1 ct, .slice none 0 0, .slice T k ct, .slice none 0 0] 36))
      generalize hW : World.alloc w3 _ = w4 at HS HB4 ⊢
      clear hW hs
      have HA2 := hide ((HO2.out.runes).below HB4.out)
      have HT4 := hide ((HOT.out).below HB4.out)
      have hsz4 := HB4.out.size
      go_wp2_with (first
        | (at_builtin
           refine wpList_app0 rfl (.const (.slice none 0 0)) (.tmp 58) rfl w4.heap.size rfl rfl HA2.out (by omega) (Nat.le_refl _) ?_
           intro A5 c5 w5 hown5 hb5 _ _)
        | (at_builtin
           refine wpList_app rfl (.tmp 59) (.tmp 60) rfl w4.heap.size rfl hown5 rfl (HT4.out.below hb5) (by omega) hb5.size ?_
           intro A6 c6 w6 hown6 hg6 hb6 _ _))
      have HO6 := hide hown6.runes
      have hc6 := hown6.cap
      have HB6 := hide (Below.trans (B := w4.heap.size) hb5 hb6)
      clear hown5 hb5 hown6 hg6 hb6
      have HS6 := hide (HS.out.below HB6.out)
      have HNW := hide (fun (j : Nat) (hj : j ≤ t.length) => named_word (s := a2 ++ [45] ++ t) rfl HLOW.out (by rw [HKL.out]; exact hk1) (by rw [HKL.out]; exact hk19) hj)
      rw [HKL.out, HHA.out] at HNW
      have N1 := hide (show namedS (rowsN t) (a2 ++ [45] ++ t) ((h2 : Int) + 1 + (k : Int)) = 1 by
        have := HNW.out k (Nat.le_refl _)
        rw [if_pos rfl] at this
        exact (congrArg (namedS (rowsN t) (a2 ++ [45] ++ t)) (by omega)).trans this)
      refine (anamed_any _ _ _ _ _ _ ((h2 : Int) + 1 + (k : Int)) us (rowsN t) (a2 ++ [45] ++ t) _ HS6.out HO6.out (by omega) hc6.1 hc6.2).mono ?_
      rw [N1.out]
      rintro e w7 ⟨rfl, hb7⟩
      have HB7 := hide (HB6.out.trans (hb7.mono HB6.out.size))
      have HS7 := hide (HS6.out.below hb7)
      have HO7 := hide (HO6.out.below hb7)
      clear hb7 HS6 HO6
      have ij : idxN n k < k := idxN_lt (by omega)
      go_wp2_with fail
      refine (index_any n (k : Int) _ (by omega) (by omega)).mono ?_
      rw [Int.toNat_natCast]
      generalize idxN n k = j at ij ⊢
      rintro e w' ⟨rfl, rfl⟩
      have HNJ := hide (show namedS (rowsN t) (a2 ++ [45] ++ t) ((h2 : Int) + 1 + (j : Int)) = if j = 1 then 2 else -1 by
        have := HNW.out j (by omega)
        rw [if_neg (by omega)] at this
        exact (congrArg (namedS (rowsN t) (a2 ++ [45] ++ t)) (by omega)).trans this)
      clear HNW N1
      go_wp2_with fail
      refine (anamed_any _ _ _ _ _ _ ((h2 : Int) + 1 + (j : Int)) us (rowsN t) (a2 ++ [45] ++ t) _ HS7.out HO7.out (by omega) hc6.1 hc6.2).mono ?_
      rw [HNJ.out]
      by_cases hj1 : j = 1
      · rw [if_pos hj1]
        have d1 : ((h2 : Int) + 1 + (j : Int) == (h2 : Int) + 1 + 1) = true := by simp; omega
        clear hj1 HNJ
        rintro e w8 ⟨rfl, hb8⟩
        have HB8 := hide (HB7.out.trans (hb8.mono HB7.out.size))
        clear hb8
        go_wp2_with fail
        refine (known23_any _).mono ?_
        rintro e w9 ⟨rfl, hb9⟩
        have HB9 := hide (HB8.out.trans (hb9.mono HB8.out.size))
        clear hb9
        go_wp2_with fail
        go_ret
        exact ⟨rfl, (hb.out.trans (HB2.out.mono hsz)).trans ((HB4.out.trans (HB9.out.mono hsz4)).mono (by omega))⟩
      · rw [if_neg hj1]
        have d1 : ((h2 : Int) + 1 + (j : Int) == (h2 : Int) + 1 + 1) = false := by simp; omega
        clear hj1 HNJ
        rintro e w8 ⟨rfl, hb8⟩
        have HB8 := hide (HB7.out.trans (hb8.mono HB7.out.size))
        clear hb8
        go_wp2_with fail
        refine (known23_any _).mono ?_
        rintro e w9 ⟨rfl, hb9⟩
        have HB9 := hide (HB8.out.trans (hb9.mono HB8.out.size))
        clear hb9
        go_wp2_with fail
        go_ret
        exact ⟨rfl, (hb.out.trans (HB2.out.mono hsz)).trans ((HB4.out.trans (HB9.out.mono hsz4)).mono (by omega))⟩
end Go.Proofs.Ytkoieceifplphaa
