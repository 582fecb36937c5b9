/- The contract of standishlaw22.text: words by letters, a blank behind each. -/
import Derived.Test.YtchcpeenpijekaaQ33
import Derived.Test.YtchcpeenpijekaaQTxtP
import Derived.Test.YtchcpeenpijekaaQ34
namespace Go.Proofs.Ytchcpeenpijekaa
open Go.RowKit
set_option linter.unusedVariables false

theorem intT : RowT 52 3 1 8 := ⟨Try.underlying52, ⟨.int .i64 0, by kernel_rfl, by kernel_rfl⟩, by omega⟩
def icell (b : Nat) : List Value := [.int .i64 (b : Nat)]
/-- A row of places of the call's own. -/
abbrev PlO (w : World) (B : Nat) (A : Option Addr) (n c : Nat) (l : List Nat) : Prop := RowG w 3 1 B A n c (l.map icell)
theorem places_kept {w w' : World} {B B2 n c m e : Nat} {A C : Option Addr} {l : List Int} {ps : List Nat} (hp : PlO w B2 C m e ps) (ho : Own w B A n c l) (hg : w.grownBy w' (blk A)) : PlO w' B2 C m e ps := by
  refine RowG.kept hp hg ?_
  cases hC : blk C with
  | none => exact .inl rfl
  | some g =>
    refine .inr fun e => ?_
    rcases own_ne_row ho hp (by decide) with h1 | h1
    · rw [h1] at e; cases e
    · exact h1 (by rw [← e, hC])
def TextQ (w : World) (m : Nat) (e : Ending) (w' : World) : Prop := ∃ A n c B k d ws, e = .returned (.tuple #[.slice A n c, .slice B k d]) ∧ Own w' w.heap.size A n c (txtL ws) ∧ PlO w' w.heap.size B k d (bgL ws) ∧ (∀ u ∈ ws, GoodW u) ∧ ws.length ≤ 60 ∧ Below w.heap.size w w'

theorem and_8 (x : Int) (m : Nat) (hm : m ≤ 255) : 0 ≤ bits .and .u8 x (m : Int) ∧ bits .and .u8 x (m : Int) ≤ m := by
  have h : bits .and .u8 x (m : Int) = IntKind.u8.wrap ((BitVec.ofInt 8 x &&& BitVec.ofInt 8 (m : Int)).toNat : Int) := rfl
  have hb : (BitVec.ofInt 8 x &&& BitVec.ofInt 8 (m : Int)).toNat ≤ m := by
    rw [BitVec.toNat_and]
    refine Nat.le_trans Nat.and_le_right ?_
    rw [BitVec.toNat_ofInt]
    omega
  rw [h, IntKind.wrap_u8]
  omega

set_option maxRecDepth 100000 in
set_option maxHeartbeats 4000000 in
theorem text22_any (L : Option Addr) (m d : Nat) (l : List Int) (w : World) (hL : BytesR w L m l) (hm : m ≤ 140737488351232) :
    Calls Try.prog 38 #[.slice L m d] w (TextQ w m) := by
  have HL := hide hL
  clear hL
  go_enter Try.func38, Try.ntmps38
  go_wp2_with fail
  go_loopw [4, 5, 6, 7] (fun s4 s5 s6 _ wx => ∃ (i n c e : Nat) (A B : Option Addr) (ws : List (List Int)), i ≤ m ∧ i ≤ 60 ∧ s6 = .int .i64 i ∧ s4 = .slice A n c ∧ s5 = .slice B i e ∧ n ≤ 5 * i ∧ Hid (Own wx w.heap.size A n c (txtL ws)) ∧ Hid (PlO wx w.heap.size B i e (bgL ws)) ∧ Hid (ws.length = i) ∧ Hid (∀ u ∈ ws, GoodW u) ∧ Hid (Below w.heap.size w wx)) (fun _ _ s6 _ _ => m - (intOf s6).toNat)
  case atStart => exact ⟨0, 0, 0, 0, none, none, [], Nat.zero_le _, by omega, rfl, rfl, rfl, Nat.zero_le _, Own.nil _ _, RowG.nil _ _ _ _, rfl, (fun u hu => by cases hu), Below.refl _ _⟩
  case round =>
    obtain ⟨i, n, c, e, A, B, ws, hi, hi6, rfl, rfl, rfl, hn, HO, HP, HW, HG, HB⟩ := hrel
    have i0 : (0 : Int) ≤ (i : Int) := by omega
    by_cases hlt : i < m ∧ i < 60
    · obtain ⟨hlt, hlt6⟩ := hlt
      have i1 : (i : Int) < (m : Int) := by omega
      have i6 : (i : Int) < 60 := by omega
      go_upto_region 7 with (at_builtin; refine wpList_appG intT rfl (.tmp 18) (.tmp 21) rfl w.heap.size rfl (RowG.alloc HP.out _) (m := 1) (d := 1) rfl (us := [icell n]) (news_box (cs := (icell n).toArray) (Box.new _ _ _)) (Each.one rfl (fun u hu => by rw [List.mem_singleton.1 hu]; rfl)) rfl (by omega) (by omega) (by omega) (by have := HB.out.size; simp; omega) ?_; intro g' c' w2 hr2 hg2 hb2 hor2)
      have HP2 := hide (show PlO w2 w.heap.size (some ⟨g', 0, none⟩) (i + 1) c' (bgL ws ++ [n]) from by rw [PlO, List.map_append]; exact hr2)
      have HO2 := hide (show Own w2 w.heap.size A n c (txtL ws) from by
        have hrow := RowG.alloc HP.out (.cells (icell n).toArray 3)
        have ho := HO.out.alloc (.cells (icell n).toArray 3)
        exact ho.kept hg2 (own_ne_row ho hrow (by decide)))
      have HB2 := hide ((HB.out.alloc HB.out.size (.cells (icell n).toArray 3)).trans hb2)
      clear hr2 hg2 hb2 hor2 HP HB
      obtain ⟨bb, oo, hLL, hlc⟩ := (HL.out.below HB2.out).at_ i hlt
      have hx := HL.out.wf (nth l i) (nth_mem (by rw [HL.out.len]; exact hlt))
      obtain ⟨x, hxe⟩ : ∃ x, nth l i = x := ⟨_, rfl⟩
      rw [hxe] at hlc hx
      have HXE := hide hxe
      clear hxe
      subst hLL
      obtain ⟨r, hr, hr3⟩ : ∃ r : Nat, bits .and .u8 (x / 16) 3 = (r : Int) ∧ r ≤ 3 := by
        have h := and_8 (x / 16) 3 (by omega)
        have e : ((3 : Nat) : Int) = 3 := rfl
        rw [e] at h
        exact ⟨(bits .and .u8 (x / 16) 3).toNat, by omega, by omega⟩
      go_wp2_with fail
      go_loopw [4, 7] (fun s4 s7 wx => ∃ (j n2 c2 : Nat) (A2 : Option Addr) (v : List Int), j ≤ r + 1 ∧ s7 = .int .i64 j ∧ s4 = .slice A2 n2 c2 ∧ n2 ≤ n + j ∧ Hid (v.length = j) ∧ Hid (∀ y ∈ v, y = 97 ∨ y = 98) ∧ Hid (Own wx w.heap.size A2 n2 c2 (txtL ws ++ v)) ∧ Hid (PlO wx w.heap.size (some ⟨g', 0, none⟩) (i + 1) c' (bgL ws ++ [n])) ∧ Hid (Below w.heap.size w wx)) (fun _ s7 _ => 5 - (intOf s7).toNat)
      case atStart => exact ⟨0, n, c, A, [], Nat.zero_le _, rfl, rfl, Nat.le_refl _, rfl, (fun y hy => by cases hy), (by rw [List.append_nil]; exact HO2.out), HP2.out, HB2.out⟩
      case round =>
        obtain ⟨j, n2, c2, A2, v, hj, rfl, rfl, hn2, HV, HAB, HO3, HP3, HB3⟩ := hrel
        obtain ⟨bb2, oo2, hLL, hlc⟩ := (HL.out.below HB3.out).at_ i hlt
        injection hLL with hLL
        injection hLL with hL1 hL2
        subst hL1 hL2
        rw [HXE.out] at hlc
        have hj0 : (0 : Int) ≤ (j : Int) := by omega
        by_cases hjr : j ≤ r
        · obtain ⟨z, hz, hz01⟩ : ∃ z : Int, bits .and .u8 (x / 2 ^ j) 1 = z ∧ 0 ≤ z ∧ z ≤ 1 := by
            have h := and_8 (x / 2 ^ j) 1 (by omega)
            have e : ((1 : Nat) : Int) = 1 := rfl
            rw [e] at h
            exact ⟨_, rfl, h.1, h.2⟩
          obtain ⟨z0, z1⟩ := hz01
          have hs2 := HB3.out.size
          have HOA := hide (Own.alloc HO3.out (.cells #[.int .i32 (97 + z)] 21))
          have HPA := hide (RowG.alloc HP3.out (.cells #[.int .i32 (97 + z)] 21))
          have HRN := hide (Runes.news wr #[.int .i32 (97 + z)] 21 [97 + z] rfl (W32.one (by omega)))
          go_wp2_with (at_builtin; refine wpList_app rfl (.tmp 34) (.tmp 45) rfl w.heap.size rfl HOA.out rfl HRN.out (by simp; omega) (by simp; omega) ?_; intro A4 c4 w4 ho4 hg4 hb4 hbk _)
          have HO4 := hide (show Own w4 w.heap.size A4 (n2 + 1) c4 (txtL ws ++ (v ++ [97 + z])) from by rw [← List.append_assoc]; exact ho4)
          have HP4 := hide (places_kept HPA.out HOA.out hg4)
          have HB4 := hide ((HB3.out.alloc HB3.out.size (.cells #[.int .i32 (97 + z)] 21)).trans hb4)
          have HV4 := hide (show (v ++ [97 + z]).length = j + 1 from by rw [List.length_append, HV.out]; rfl)
          have HAB4 := hide (show ∀ y ∈ v ++ [97 + z], y = 97 ∨ y = 98 from fun y hy => by
            rcases List.mem_append.1 hy with hy | hy
            · exact HAB.out y hy
            · rw [List.mem_singleton.1 hy]; omega)
          clear ho4 hg4 hb4 hbk HOA HPA HRN hz HO3 HP3 HB3 HV HAB
          go_roundw
          case rel => exact ⟨j + 1, n2 + 1, c4, A4, v ++ [97 + z], by omega, by go_num, rfl, by omega, HV4.out, HAB4.out, HO4.out, HP4.out, HB4.out⟩
          case measure => simp [intOf]; omega
        · obtain rfl : j = r + 1 := by omega
          have hs2 := HB3.out.size
          have HOA := hide (Own.alloc HO3.out (.cells #[.int .i32 32] 21))
          have HPA := hide (RowG.alloc HP3.out (.cells #[.int .i32 32] 21))
          have HRN := hide (Runes.news wr #[.int .i32 32] 21 [32] rfl (W32.one (by omega)))
          go_wp2_with (at_builtin; refine wpList_app rfl (.tmp 47) (.tmp 48) rfl w.heap.size rfl HOA.out rfl HRN.out (by simp; omega) (by simp; omega) ?_; intro A4 c4 w4 ho4 hg4 hb4 hbk _)
          have HO4 := hide (show Own w4 w.heap.size A4 (n2 + 1) c4 (txtL (ws ++ [v])) from by
            rw [txtL_app]
            show Own w4 w.heap.size A4 (n2 + 1) c4 (txtL ws ++ (v ++ [32]))
            rw [← List.append_assoc]
            exact ho4)
          have HP4 := hide (show PlO w4 w.heap.size (some ⟨g', 0, none⟩) (i + 1) c' (bgL (ws ++ [v])) from by
            rw [bgL_snoc, HO.out.len]
            exact places_kept HPA.out HOA.out hg4)
          have HB4 := hide ((HB3.out.alloc HB3.out.size (.cells #[.int .i32 32] 21)).trans hb4)
          have HW4 := hide (show (ws ++ [v]).length = i + 1 from by rw [List.length_append, HW.out]; rfl)
          have HG4 := hide (show ∀ u ∈ ws ++ [v], GoodW u from fun u hu => by
            rcases List.mem_append.1 hu with hu | hu
            · exact HG.out u hu
            · rw [List.mem_singleton.1 hu]
              have h := HV.out
              exact ⟨by omega, by omega, HAB.out⟩)
          clear ho4 hg4 hb4 hbk HOA HPA HRN HO3 HP3 HB3 HV HAB
          go_roundw
          case rel => exact ⟨i + 1, n2 + 1, c4, c', A4, some ⟨g', 0, none⟩, ws ++ [v], by omega, by omega, by go_num, rfl, rfl, by omega, HO4.out, HP4.out, HW4.out, HG4.out, HB4.out⟩
          case measure => simp [intOf]; omega
    · have hd : (¬ i < m) ∨ ((i : Int) < (m : Int) ∧ decide ((i : Int) < 60) = false) := by
        by_cases h : i < m
        · exact .inr ⟨by omega, by simp; omega⟩
        · exact .inl h
      have HF := hide (show TextQ w m (.returned (.tuple #[.slice A n c, .slice B i e])) wr from ⟨A, n, c, B, i, e, ws, rfl, HO.out, HP.out, HG.out, by rw [HW.out]; exact hi6, HB.out⟩)
      clear hlt
      rcases hd with d1 | ⟨d1, d2⟩
      all_goals
        go_wp2_with fail
        go_ret2
        exact HF.out
end Go.Proofs.Ytchcpeenpijekaa
