/- Contracts of change.Row and standishref1.Row: one function of lists. -/
import Derived.Test.YtjhnenljmmeflaaApply
import Derived.Test.YtjhnenljmmeflaaChgs
namespace Go.Proofs.Ytjhnenljmmeflaa
open Go.RowKit
set_option linter.unusedVariables false

/-- What a row of changes does to a text, and the error's number. -/
def rowS (s : List Int) : List Chg → List Int × Int
  | [] => (s, 0)
  | x :: l => if appE s x.at_ x.cut x.put = 0 then rowS (appS s x.at_ x.cut x.put) l else ([], 1)

theorem appE_cases (s : List Int) (x : Chg) : appE s x.at_ x.cut x.put = 0 ∧ (appS s x.at_ x.cut x.put).length ≤ 1000 ∨ appE s x.at_ x.cut x.put = 1 := by
  unfold appE appS
  cases h : mayC s x.at_ x.cut x.put with
  | false => exact .inr rfl
  | true =>
    refine .inl ⟨rfl, ?_⟩
    simp only [mayC, Bool.and_eq_true, fitC, decide_eq_true_eq] at h
    have h1 := h.1
    simp only [if_true, applyS, List.length_append, List.length_take, List.length_drop]
    omega
theorem rowS_step {s : List Int} {l : List Chg} {k : Nat} {x : Chg} (h : l[k]? = some x) : rowS s (l.drop k) = if appE s x.at_ x.cut x.put = 0 then rowS (appS s x.at_ x.cut x.put) (l.drop (k + 1)) else ([], 1) := by
  obtain ⟨hk, hx⟩ := List.getElem?_eq_some_iff.1 h
  rw [List.drop_eq_getElem_cons hk, hx]
  rfl

set_option maxHeartbeats 2000000 in
theorem crow_any (S A : Option Addr) (k0 d n c : Nat) (us : Nat → CV) (s : List Int) (l : List Chg) (w : World) (hS : Runes w S k0 s) (h : Chgs w A n us l) (hk0 : k0 ≤ 35184372088832) (hn : n ≤ 9223372036854775806) :
    Calls Try.prog 43 #[.slice S k0 d, .slice A n c] w (NewE w (rowS s l).1 (rowS s l).2) := by
  have H := hide h
  have HS := hide hS
  clear h hS
  go_enter Try.func43, Try.ntmps43
  go_wp2_with fail
  refine (clone_any S k0 d s _ HS.out hk0).mono ?_
  rintro e w1 ⟨O0, o0, oc0, rfl, ho0, hb1⟩
  have hlen0 : o0 ≤ 35184372088832 := by rw [← ho0.len, HS.out.len]; exact hk0
  have HO := hide ho0
  have HB1 := hide hb1
  clear ho0 hb1
  go_wp2_with fail
  go_loopw [6, 15] (fun u i wr => ∃ (k : Nat) (O : Option Addr) (o oc : Nat) (cur : List Int), k ≤ n ∧ i = .int .i64 k ∧ u = .slice O o oc ∧ o ≤ 35184372088832 ∧ Own wr w.heap.size O o oc cur ∧ Below w.heap.size w wr ∧ rowS s l = rowS cur (l.drop k))
    (fun _ i _ => n - (intOf i).toNat)
  case atStart => exact ⟨0, O0, o0, oc0, s, Nat.zero_le _, rfl, rfl, hlen0, HO.out, HB1.out, rfl⟩
  case round =>
    obtain ⟨k, O, o, oc, cur, hk, rfl, rfl, ho, hown, hbel, hrow⟩ := hrel
    have HO := hide hown
    have HB := hide hbel
    have HR := hide hrow
    have hcap := hown.cap
    clear hown hbel hrow
    by_cases hlt : k < n
    · obtain ⟨ab, ao, rfl, h1, h2, h3⟩ := (H.out.below HB.out).at_ k hlt
      obtain ⟨x, hx1, hx⟩ := (H.out.below HB.out).rd k hlt
      have hok := hx.ok
      have hxat := hx.at_
      have HC := hide (fun W (hb : Below wr.heap.size wr W) => capply_any O o oc (us k).at_ (us k).C (us k).P (us k).n (us k).c (us k).m (us k).d cur x.cut x.put W (HO.out.runes.below hb) (hx.cut.below hb) (hx.put.below hb) ho (by have := hok.2.1; have := hx.cut.len; omega) (by have := hok.2.2; have := hx.put.len; omega) hcap.1 hcap.2 (by rw [hxat]; exact hok.1))
      have HX := hide hx1
      rw [hxat] at HC h1
      generalize hat : (us k).at_ = z at *
      clear hx hx1 hok hxat hat
      have i0 : (0 : Int) ≤ (k : Int) := by omega
      have i1 : (k : Int) < (n : Int) := by omega
      have hbx := (Below.refl wr.heap.size wr).alloc (Nat.le_refl _) (.cells #[.int .i64 x.at_, .slice (us k).C (us k).n (us k).c, .slice (us k).P (us k).m (us k).d] 31)
      have HBX := hide hbx
      clear hbx
      go_wp2_with fail
      refine (HC.out _ HBX.out).mono ?_
      have hcase := appE_cases cur x
      have hstep := rowS_step (s := cur) HX.out
      generalize appE cur x.at_ x.cut x.put = er at hcase hstep ⊢
      generalize appS cur x.at_ x.cut x.put = nx at hcase hstep ⊢
      rintro e w2 ⟨O2, o2, oc2, rfl, ho2, hb2⟩
      have HB2 := hide (HB.out.trans ((HBX.out.trans (hb2.mono HBX.out.size)).mono HB.out.size))
      have HO2 := hide (ho2.mono (Nat.le_trans HB.out.size HBX.out.size))
      have hl2 := ho2.len
      clear ho2 hb2
      rcases hcase with ⟨rfl, hnl⟩ | rfl
      · rw [if_pos rfl] at hstep
        have HST := hide hstep
        clear hstep
        go_wp2_with fail
        go_roundw
        case rel => exact ⟨k + 1, O2, o2, oc2, nx, by omega, by go_num, rfl, by omega, HO2.out, HB2.out, by rw [HR.out, HST.out]⟩
        case measure => simp [intOf]; omega
      · rw [if_neg (by omega)] at hstep
        have HST := hide (HR.out.trans hstep)
        clear hstep
        go_wp2_with fail
        go_ret2
        rw [HST.out]
        exact ⟨none, 0, 0, rfl, Own.nil _ _, HB2.out⟩
    · obtain rfl : k = n := by omega
      have hfin : rowS s l = (cur, 0) := by rw [HR.out, List.drop_of_length_le (by rw [H.out.len]; exact Nat.le_refl _)]; rfl
      have HF := hide hfin
      clear hfin
      go_wp2_with fail
      go_ret2
      rw [HF.out]
      exact ⟨O, o, oc, rfl, HO.out, HB.out⟩
set_option maxHeartbeats 2000000 in
theorem rrow_any (S A : Option Addr) (k0 d n c : Nat) (us : Nat → CV) (s : List Int) (l : List Chg) (w : World) (hS : Runes w S k0 s) (h : Chgs w A n us l) (hk0 : k0 ≤ 35184372088832) (hn : n ≤ 9223372036854775806) :
    Calls Try.prog 21 #[.slice S k0 d, .slice A n c] w (NewE w (rowS s l).1 (rowS s l).2) := by
  have H := hide h
  have HS := hide hS
  clear h hS
  go_enter Try.func21, Try.ntmps21
  go_wp2_with (at_builtin
               refine wpList_app0 rfl (.const (.slice none 0 0)) (.tmp 10) rfl w.heap.size rfl rfl HS.out hk0 (Nat.le_refl _) ?_
               intro O0 oc0 w1 ho0 hb1 _ _)
  have HO := hide ho0
  have HB1 := hide hb1
  clear ho0 hb1
  go_loopw [6, 7] (fun u i wr => ∃ (k : Nat) (O : Option Addr) (o oc : Nat) (cur : List Int), k ≤ n ∧ i = .int .i64 k ∧ u = .slice O o oc ∧ o ≤ 35184372088832 ∧ Own wr w.heap.size O o oc cur ∧ Below w.heap.size w wr ∧ rowS s l = rowS cur (l.drop k))
    (fun _ i _ => n - (intOf i).toNat)
  case atStart => exact ⟨0, O0, k0, oc0, s, Nat.zero_le _, rfl, rfl, hk0, HO.out, HB1.out, rfl⟩
  case round =>
    obtain ⟨k, O, o, oc, cur, hk, rfl, rfl, ho, hown, hbel, hrow⟩ := hrel
    have HO := hide hown
    have HB := hide hbel
    have HR := hide hrow
    have hcap := hown.cap
    clear hown hbel hrow
    by_cases hlt : k < n
    · obtain ⟨ab, ao, rfl, h1, h2, h3⟩ := (H.out.below HB.out).at_ k hlt
      obtain ⟨x, hx1, hx⟩ := (H.out.below HB.out).rd k hlt
      have hok := hx.ok
      have hxat := hx.at_
      have HC := hide (fun W (hb : Below wr.heap.size wr W) => rapply_any O o oc (us k).at_ (us k).C (us k).P (us k).n (us k).c (us k).m (us k).d cur x.cut x.put W (HO.out.runes.below hb) (hx.cut.below hb) (hx.put.below hb) ho (by have := hok.2.1; have := hx.cut.len; omega) (by have := hok.2.2; have := hx.put.len; omega) hcap.1 hcap.2)
      have HX := hide hx1
      rw [hxat] at HC h1
      generalize hat : (us k).at_ = z at *
      clear hx hx1 hok hxat hat
      have i0 : (0 : Int) ≤ (k : Int) := by omega
      have i1 : (k : Int) < (n : Int) := by omega
      have hbx := Below.refl wr.heap.size wr
      have HBX := hide hbx
      clear hbx
      go_wp2_with fail
      refine (HC.out _ HBX.out).mono ?_
      have hcase := appE_cases cur x
      have hstep := rowS_step (s := cur) HX.out
      generalize appE cur x.at_ x.cut x.put = er at hcase hstep ⊢
      generalize appS cur x.at_ x.cut x.put = nx at hcase hstep ⊢
      rintro e w2 ⟨O2, o2, oc2, rfl, ho2, hb2⟩
      have HB2 := hide (HB.out.trans ((HBX.out.trans (hb2.mono HBX.out.size)).mono HB.out.size))
      have HO2 := hide (ho2.mono (Nat.le_trans HB.out.size HBX.out.size))
      have hl2 := ho2.len
      clear ho2 hb2
      rcases hcase with ⟨rfl, hnl⟩ | rfl
      · rw [if_pos rfl] at hstep
        have HST := hide hstep
        clear hstep
        go_wp2_with fail
        go_roundw
        case rel => exact ⟨k + 1, O2, o2, oc2, nx, by omega, by go_num, rfl, by omega, HO2.out, HB2.out, by rw [HR.out, HST.out]⟩
        case measure => simp [intOf]; omega
      · rw [if_neg (by omega)] at hstep
        have HST := hide (HR.out.trans hstep)
        clear hstep
        go_wp2_with fail
        go_ret2
        rw [HST.out]
        exact ⟨none, 0, 0, rfl, Own.nil _ _, HB2.out⟩
    · obtain rfl : k = n := by omega
      have hfin : rowS s l = (cur, 0) := by rw [HR.out, List.drop_of_length_le (by rw [H.out.len]; exact Nat.le_refl _)]; rfl
      have HF := hide hfin
      clear hfin
      go_wp2_with fail
      go_ret2
      rw [HF.out]
      exact ⟨O, o, oc, rfl, HO.out, HB.out⟩
end Go.Proofs.Ytjhnenljmmeflaa
