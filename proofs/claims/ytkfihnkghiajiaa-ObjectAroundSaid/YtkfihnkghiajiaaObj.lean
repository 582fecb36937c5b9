/- Contracts of layer 25's functions: sort, third, grown. -/
import Derived.Test.YtkfihnkghiajiaaObjP
import Derived.Test.YtkfihnkghiajiaaSgn
import Derived.Test.YtkfihnkghiajiaaLin
import Derived.Deep.LoopGhost
import Derived.Deep.CutBlock
import Derived.Deep.DeepCutAuto
namespace Go.Proofs.Ytkfihnkghiajiaa
open Go.RowKit
set_option linter.unusedVariables false

theorem cls_vals (r : Int) : (clsS r = 0 ∨ clsS r = 1 ∨ clsS r = 2 ∨ clsS r = 3 ∨ clsS r = 4) := by have := cls_bd r; omega

set_option maxHeartbeats 1000000 in
theorem sort_any (r : Int) (w : World) : Calls Try.prog 63 #[.int .i32 r] w fun e w' => e = .returned (.int .i64 (sortS r)) ∧ w = w' := by
  have HC := hide (class_any r)
  have hs : sortS r = if clsS r = 2 then 0 else if clsS r = 1 then 1 else if clsS r = 3 then 2 else 3 := rfl
  have HS := hide hs
  clear hs
  have h := cls_vals r
  generalize clsS r = c at HC HS h
  rcases h with rfl | rfl | rfl | rfl | rfl
  all_goals go_enter Try.func63, Try.ntmps63
  all_goals go_wp2_with fail
  all_goals refine (HC.out _).mono ?_
  all_goals rintro e w' ⟨rfl, rfl⟩
  all_goals go_wp2_with fail
  all_goals go_ret
  all_goals exact ⟨retI (by rw [HS.out]; decide), rfl⟩

set_option maxHeartbeats 1000000 in
theorem third_any (r : Int) (w : World) : Calls Try.prog 71 #[.int .i32 r] w fun e w' => e = .returned (.int .i64 (thirdS r)) ∧ w = w' := by
  have HC := hide (rclass_any r)
  have hs : thirdS r = if clsS r = 1 then 0 else if clsS r = 3 then 1 else if clsS r = 2 then 2 else 3 := rfl
  have HS := hide hs
  clear hs
  have h := cls_vals r
  generalize clsS r = c at HC HS h
  rcases h with rfl | rfl | rfl | rfl | rfl
  all_goals go_enter Try.func71, Try.ntmps71
  all_goals go_wp2_with fail
  all_goals refine (HC.out _).mono ?_
  all_goals rintro e w' ⟨rfl, rfl⟩
  all_goals go_wp2_with fail
  all_goals go_ret
  all_goals exact ⟨retI (by rw [HS.out]; decide), rfl⟩

/-- Elements of a sort, by its number. -/
def ofK (kk : Int) : Int → Bool := fun x => decide (sortS x = kk)

set_option maxRecDepth 100000 in
set_option maxHeartbeats 4000000 in
theorem grown_any (S : Option Addr) (k d f t : Nat) (kk : Int) (ah bh : Bool) (s : List Int) (w : World) (F T : Nat) (hS : Runes w S k s) (hk : k ≤ 35184372088832) (hf : f ≤ k) (ht : t ≤ k)
    (hF0 : F = f - (if ah then backN (ofK kk) s f else 0)) (hT0 : T = t + (if bh then fwdN (ofK kk) (s.drop t) else 0)) :
    Calls Try.prog 64 #[.slice S k d, .agg #[.int .i64 f, .int .i64 t], .int .i64 kk, .bool ah, .bool bh] w fun e w' =>
      e = .returned (.agg #[.int .i64 F, .int .i64 T]) ∧ Below w.heap.size w w' := by
  have HF := hide hF0
  have HT := hide hT0
  clear hF0 hT0
  have HS := hide hS
  have HL := hide hS.len
  have HSO := hide sort_any
  have hb0 : Below w.heap.size w ((w.alloc (.cells #[.int .i64 f, .int .i64 t] 47)).alloc (.cells #[.int .i64 0, .int .i64 0] 47)) := ((Below.refl _ w).alloc (Nat.le_refl _) _).alloc (by simp) _
  have hx0 := (Box.new w 47 #[.int .i64 f, .int .i64 t]).alloc (.cells #[.int .i64 0, .int .i64 0] 47)
  have hy0 := Box.newAt (w := w.alloc (.cells #[.int .i64 f, .int .i64 t] 47)) (g := w.heap.size + 1) (by simp) 47 #[.int .i64 0, .int .i64 0]
  have HB0 := hide hb0
  have HX0 := hide hx0
  have HY0 := hide hy0
  clear hS hb0 hx0 hy0
  go_enter Try.func64, Try.ntmps64
  go_upto_block 0 with fail
  go_cut [] (fun wx => Box wx w.heap.size 47 #[.int .i64 F, .int .i64 t] ∧ Box wx (w.heap.size + 1) 47 #[.int .i64 0, .int .i64 0] ∧ Below w.heap.size w wx)
  case first =>
    go_wp2_with fail
    go_loopg [] f (fun z wx => ∃ a : Nat, a ≤ f ∧ z = a ∧ Box wx w.heap.size 47 #[.int .i64 a, .int .i64 t] ∧ Box wx (w.heap.size + 1) 47 #[.int .i64 0, .int .i64 0] ∧ Below w.heap.size w wx ∧ Hid (if ah then a - backN (ofK kk) s a = f - backN (ofK kk) s f else a = f))
    case atStart => exact ⟨f, Nat.le_refl _, rfl, HX0.out, HY0.out, HB0.out, by cases ah <;> simp [Hid]⟩
    case round =>
      obtain ⟨a, haf, hza, hx, hy, hb, hst⟩ := hrel
      obtain rfl : a = gk := hza.symm
      clear hza
      have HX := hide hx
      have HY := hide hy
      have HB := hide hb
      clear hx hy hb
      obtain ⟨⟨x0, x1⟩, z0, z1⟩ := HX.out.c2
      cases ah
      · have hst' : a = f := hst.out
        subst hst'
        go_wp2_with fail
        go_meet
        exact ⟨by rw [HF.out]; simpa using HX.out, HY.out, HB.out⟩
      · have HST := hide (show a - backN (ofK kk) s a = f - backN (ofK kk) s f from hst.out)
        clear hst
        rcases Nat.eq_zero_or_pos a with rfl | hpos
        · have HE := hide (show f - backN (ofK kk) s f = 0 from HST.out.symm)
          go_wp2_with fail
          go_meet
          exact ⟨by rw [HF.out]; simpa [HE.out] using HX.out, HY.out, HB.out⟩
        · obtain ⟨b, rfl⟩ : ∃ b, a = b + 1 := ⟨a - 1, by omega⟩
          have e1 : (((b + 1 : Nat) : Int)) - 1 = (b : Int) := by omega
          obtain ⟨ab, ao, rfl, hc⟩ := (HS.out.below HB.out).at_ b (by omega)
          have HBN := hide (show backN (ofK kk) s (b + 1) = if ofK kk (nth s b) then backN (ofK kk) s b + 1 else 0 from rfl)
          by_cases hs : sortS (nth s b) = kk
          · have HS2 := hide hs
            have e2 : (sortS (nth s b) == kk) = true := by simpa using hs
            have HP := hide (show ofK kk (nth s b) = true by unfold ofK; simpa using hs)
            clear hs
            go_wp2_with fail
            refine (HSO.out _ _).mono ?_
            rintro e w1 ⟨rfl, rfl⟩
            go_wp2_with fail
            go_roundg b
            case measure => omega
            case rel => exact ⟨b, by omega, rfl, (HX.out.set 0 (.int .i64 b)), HY.out.far (p := ⟨w.heap.size, 0, none⟩) (by simp) _, HB.out.setCell (p := ⟨w.heap.size, 0, none⟩) (Nat.le_refl _) _, by
              have h1 := HST.out
              rw [HBN.out, HP.out, if_pos rfl] at h1
              show (if true = true then b - backN (ofK kk) s b = f - backN (ofK kk) s f else b = f)
              rw [if_pos rfl]
              omega⟩
          · have e2 : (sortS (nth s b) == kk) = false := by simpa using hs
            have HP := hide (show ofK kk (nth s b) = false by unfold ofK; simpa using hs)
            have HE := hide (show f - backN (ofK kk) s f = b + 1 by
              have h1 := HST.out
              rw [HBN.out, HP.out] at h1
              simpa using h1.symm)
            clear hs
            go_wp2_with fail
            refine (HSO.out _ _).mono ?_
            rintro e w1 ⟨rfl, rfl⟩
            go_wp2_with fail
            go_meet
            exact ⟨by rw [HF.out]; simpa [HE.out] using HX.out, HY.out, HB.out⟩
  case rest =>
    obtain ⟨hx1, hy1, hb1⟩ := hcut
    have HX1 := hide hx1
    have HY1 := hide hy1
    have HB1 := hide hb1
    have HS1 := hide HS.out
    clear hx1 hy1 hb1 HX0 HY0
    go_wp2_with fail
    go_loopg [] (k - t) (fun z wx => ∃ a : Nat, t ≤ a ∧ a ≤ k ∧ z = k - a ∧ Box wx w.heap.size 47 #[.int .i64 F, .int .i64 a] ∧ Box wx (w.heap.size + 1) 47 #[.int .i64 0, .int .i64 0] ∧ Below w.heap.size w wx ∧ Hid (if bh then a + fwdN (ofK kk) (s.drop a) = t + fwdN (ofK kk) (s.drop t) else a = t))
    case atStart => exact ⟨t, Nat.le_refl _, ht, rfl, HX1.out, HY1.out, HB1.out, by cases bh <;> simp [Hid]⟩
    case round =>
      obtain ⟨a, hta, hak, hza, hx, hy, hb, hst⟩ := hrel
      subst hza
      have HX := hide hx
      have HY := hide hy
      have HB := hide hb
      clear hx hy hb
      obtain ⟨⟨x0, x1⟩, z0, z1⟩ := HX.out.c2
      obtain ⟨⟨y0, y1⟩, v0, v1⟩ := HY.out.c2
      have HYS := hide (show Box _ (w.heap.size + 1) 47 #[.int .i64 F, .int .i64 a] from (HY.out.set 0 (.int .i64 F)).set 1 (.int .i64 a))
      have HBS := hide ((HB.out.setCell (p := ⟨w.heap.size + 1, 0, none⟩) (by simp) (.int .i64 F)).setCell (p := ⟨w.heap.size + 1, 1, none⟩) (by simp) (.int .i64 a))
      cases bh
      · have hst' : a = t := hst.out
        obtain rfl : T = a := by have := HT.out; simp at this; omega
        clear hst hst'
        go_wp2_with fail
        obtain ⟨⟨r0, r1⟩, _⟩ := HYS.out.c2
        exact bodyPost_ret (v := .agg #[.int .i64 F, .int .i64 T]) (by simp [results, Try.results64, go_sem, r0, r1]) rfl ⟨rfl, HBS.out⟩
      · have HST := hide (show a + fwdN (ofK kk) (s.drop a) = t + fwdN (ofK kk) (s.drop t) from hst.out)
        have HTT := hide (show T = t + fwdN (ofK kk) (s.drop t) by have := HT.out; simpa using this)
        clear hst
        by_cases hlt : a < k
        · obtain ⟨ab, ao, rfl, hc⟩ := (HS.out.below HB.out).at_ a hlt
          have HFW := hide (fwdN_drop (p := ofK kk) (l := s) (k := a) (by rw [HL.out]; exact hlt))
          have h0 : (0 : Int) ≤ (a : Int) := by omega
          have h1' : (a : Int) < (k : Int) := by omega
          by_cases hs : sortS (nth s a) = kk
          · have e2 : (sortS (nth s a) == kk) = true := by simpa using hs
            have HP := hide (show ofK kk (nth s a) = true by unfold ofK; simpa using hs)
            clear hs
            go_wp2_with fail
            refine (HSO.out _ _).mono ?_
            rintro e w1 ⟨rfl, rfl⟩
            go_wp2_with fail
            go_roundg (k - (a + 1))
            case measure => omega
            case rel => exact ⟨a + 1, by omega, by omega, rfl, HX.out.set 1 (.int .i64 ((a + 1 : Nat) : Int)), HY.out.far (p := ⟨w.heap.size, 1, none⟩) (by simp) _, HB.out.setCell (p := ⟨w.heap.size, 1, none⟩) (Nat.le_refl _) _, by
              have h1 := HST.out
              rw [HFW.out, HP.out, if_pos rfl] at h1
              show (if true = true then (a + 1) + fwdN (ofK kk) (s.drop (a + 1)) = t + fwdN (ofK kk) (s.drop t) else a + 1 = t)
              rw [if_pos rfl]
              omega⟩
          · have e2 : (sortS (nth s a) == kk) = false := by simpa using hs
            have HP := hide (show ofK kk (nth s a) = false by unfold ofK; simpa using hs)
            obtain rfl : T = a := by
              have h1 := HST.out
              have h2 := HTT.out
              rw [HFW.out, HP.out] at h1
              simp at h1
              omega
            clear hs
            go_wp2_with fail
            refine (HSO.out _ _).mono ?_
            rintro e w1 ⟨rfl, rfl⟩
            go_wp2_with fail
            obtain ⟨⟨r0, r1⟩, _⟩ := HYS.out.c2
            exact bodyPost_ret (v := .agg #[.int .i64 F, .int .i64 T]) (by simp [results, Try.results64, go_sem, r0, r1]) rfl ⟨rfl, HBS.out⟩
        · obtain rfl : T = a := by
            have h1 := HST.out
            have h2 := HTT.out
            rw [fwdN_end (by rw [HL.out]; omega)] at h1
            omega
          go_wp2_with fail
          obtain ⟨⟨r0, r1⟩, _⟩ := HYS.out.c2
          exact bodyPost_ret (v := .agg #[.int .i64 F, .int .i64 T]) (by simp [results, Try.results64, go_sem, r0, r1]) rfl ⟨rfl, HBS.out⟩
end Go.Proofs.Ytkfihnkghiajiaa
