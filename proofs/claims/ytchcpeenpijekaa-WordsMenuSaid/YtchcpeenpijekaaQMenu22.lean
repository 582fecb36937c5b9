/- The walk of standishlaw22.WordsMenu: it answers true. -/
import Derived.Test.YtchcpeenpijekaaQText22
import Derived.Test.YtchcpeenpijekaaQMenF
namespace Go.Proofs.Ytchcpeenpijekaa
open Go.RowKit
set_option linter.unusedVariables false

theorem PlO.at_ {w : World} {B n c j b : Nat} {A : Option Addr} {l : List Nat} (h : PlO w B A n c l) (hb : l[j]? = some b) : ∃ g, A = some ⟨g, 0, none⟩ ∧ w.cell? ⟨g, j, none⟩ = some (.int .i64 (b : Nat)) := by
  have hv : (l.map icell)[j]? = some (icell b) := by rw [List.getElem?_map, hb]; rfl
  obtain ⟨g, e, h1, _⟩ := h.cell (i := 0) hv (by omega) rfl
  rw [Nat.mul_one, Nat.add_zero] at h1
  exact ⟨g, e, h1⟩
theorem cntP_next {α : Type} {f : α → Bool} {l : List α} {i : Nat} {x : α} (h : l[i]? = some x) : (l.take (i + 1)).countP f = (l.take i).countP f + if f x = true then 1 else 0 := by
  obtain ⟨hi, rfl⟩ := List.getElem?_eq_some_iff.1 h
  rw [List.take_succ_eq_append_getElem hi, List.countP_append, List.countP_singleton]
theorem any_next {α : Type} {f : α → Bool} {l : List α} {i : Nat} {x : α} (h : l[i]? = some x) : (l.take (i + 1)).any f = ((l.take i).any f || f x) := by
  obtain ⟨hi, rfl⟩ := List.getElem?_eq_some_iff.1 h
  rw [List.take_succ_eq_append_getElem hi, List.any_append]
  simp
theorem all_next {l : List Itm} {i : Nat} {x : Itm} (h : l[i]? = some x) : allB (l.take (i + 1)) = allB (l.take i) + x.2 := by
  obtain ⟨hi, rfl⟩ := List.getElem?_eq_some_iff.1 h
  unfold allB
  rw [List.take_succ_eq_append_getElem hi, List.map_append, List.sum_append]
  simp
theorem all_take_le (l : List Itm) (i : Nat) : allB (l.take i) ≤ allB l := by
  have h := congrArg allB (List.take_append_drop i l)
  unfold allB at h ⊢
  rw [List.map_append, List.sum_append] at h
  omega
theorem idx_lt (k : Int) (q : Nat) (hq : 0 < q) (h2 : q ≤ 1000) (w : World) : ∃ r, r < q ∧ Calls Try.prog 27 #[.int .i64 k, .int .i64 (q : Nat)] w fun e w' => e = .returned (.int .i64 (r : Nat)) ∧ w = w' :=
  ⟨idxN k q, idxN_lt hq, index_any k q w (by omega) (by omega)⟩
/-- Word number i of the text: its span, its signs. -/
structure WAt (ws : List (List Int)) (i b t : Nat) (u : List Int) : Prop where
  sp : (spF 0 ws)[i]? = some (b, t)
  bg : (bgL ws)[i]? = some b
  wd : wdS (txtL ws) (b, t) = u
  len : u.length = t - b
  lt : b < t
  le : t ≤ (txtL ws).length
  good : GoodW u
  touch : ∀ a : Int, (b : Int) ≤ a → a ≤ (t : Int) → touchL (spansS (txtL ws)) a = some (b, t)
theorem wat {ws : List (List Int)} (hg : ∀ w ∈ ws, GoodW w) {i : Nat} (hi : i < ws.length) : ∃ b t u, WAt ws i b t u := by
  have h := List.getElem?_eq_getElem hi
  obtain ⟨b, h1, h2, h3, h4⟩ := spF_get h
  have hgo := hg _ (List.getElem_mem hi)
  have hp := hgo.pos
  refine ⟨b, b + ws[i].length, ws[i], h1, h2, h3, by omega, by omega, h4, hgo, fun a h5 h6 => touch_one ?_ h5 h6⟩
  rw [spans_txt hg]
  exact List.mem_of_getElem? h1

set_option maxRecDepth 100000 in
set_option maxHeartbeats 4000000 in
theorem menu22_any (L : Option Addr) (m d : Nat) (l : List Int) (k part : Int) (w : World) (hL : BytesR w L m l) (hm : m ≤ 140737488351232) :
    Calls Try.prog 8 #[.slice L m d, .int .i64 k, .int .i64 part] w fun e w' => e = .returned (.bool true) ∧ Below w.heap.size w w' := by
  have HTX := hide (text22_any L m d l w hL hm)
  clear hL
  go_enter Try.func8, Try.ntmps8
  go_upto_region 2 with (go_at_call 38; (with_reducible refine HTX.out.mono ?_); rintro e w1 ⟨A, n, c, B, q, qc, ws, rfl, hO, hP, hg, hw60, hb1⟩)
  have hq : ws.length = q := by have h := hP.cnt; rw [List.length_map, bgL_len] at h; exact h
  have hn : (txtL ws).length = n := hO.len
  have hnc := hO.cap
  have hn300 : n ≤ 300 := by have := txt_len hg; omega
  have HR := hide hO.runes
  have HP := hide hP
  have HG := hide hg
  have HB := hide hb1
  have HN := hide hn
  have HQ := hide hq
  clear hO hP hg hb1 hn hq HTX
  by_cases hq0 : q = 0
  · subst hq0
    go_wp2_with (go_at_call 37; (with_reducible refine (known22_any _).mono ?_); rintro e w2 ⟨rfl, hb2⟩)
    have HB2 := hide (HB.out.trans (hb2.mono HB.out.size))
    clear hb2
    go_ret
    exact ⟨rfl, HB2.out⟩
  · have hqp : 0 < q := by omega
    have hq1 : ((q : Int) == 0) = false := by simp; omega
    have hq60 : q ≤ 60 := by have := HQ.out; omega
    obtain ⟨j0, hj0, hidx⟩ := idx_lt k q hqp (by omega) w1
    obtain ⟨b0, t0, u0, hW0⟩ := wat HG.out (i := j0) (by rw [HQ.out]; exact hj0)
    obtain ⟨gB, rfl, hcB⟩ := HP.out.at_ hW0.bg
    have HIX := hide hidx
    have HW0 := hide hW0
    have hb0 : b0 < t0 := hW0.lt
    have ht0 : t0 ≤ n := by have h1 := hW0.le; have h2 := HN.out; omega
    have j00 : (0 : Int) ≤ (j0 : Int) := by omega
    have j01 : (j0 : Int) < (q : Int) := by omega
    have HT0 := hide (show Calls Try.prog 39 #[.slice A n c, .int .i64 (b0 : Nat)] w1 fun e w' => e = .returned (.tuple #[.agg #[.int .i64 (b0 : Nat), .int .i64 (t0 : Nat)], .bool true]) ∧ Below w1.heap.size w1 w' from touched_any A n c (txtL ws) b0 w1 HR.out (by omega) _ (hW0.touch b0 (by omega) (by omega)))
    clear hidx hW0 hq0
    go_upto_region 6 with (first
      | (go_at_call 27; (with_reducible refine HIX.out.mono ?_); rintro e w2 ⟨rfl, rfl⟩)
      | (go_at_call 39; (with_reducible refine HT0.out.mono ?_); rintro e w2 ⟨rfl, hb2⟩))
    obtain ⟨ob, hob⟩ : ∃ ob, w2.heap.size = ob := ⟨_, rfl⟩
    have hba := (Below.refl w2.heap.size w2).alloc (Nat.le_refl _) (.cells #[.int .i64 (b0 : Nat), .int .i64 (t0 : Nat)] 61)
    have HX2 := hide (Box.newAt hob 61 #[.int .i64 (b0 : Nat), .int .i64 (t0 : Nat)])
    have HB2 := hide (hb2.trans (hba.mono hb2.size))
    rw [hob]
    clear hb2 hba hob HIX HT0 hcB
    generalize w2.alloc (.cells #[.int .i64 (b0 : Nat), .int .i64 (t0 : Nat)] 61) = W2 at HX2 HB2 ⊢
    obtain ⟨⟨o0, o1⟩, -⟩ := HX2.out.c2
    obtain ⟨ln, hln⟩ : ∃ ln, t0 - b0 = ln := ⟨_, rfl⟩
    obtain ⟨j1, hj1, hidx2⟩ := idx_lt part ln (by omega) (by omega) W2
    have v1 : (t0 : Int) - (b0 : Int) = (ln : Int) := by omega
    obtain ⟨a, ha⟩ : ∃ a, b0 + (j1 + 1) = a := ⟨_, rfl⟩
    have v2 : (b0 : Int) + 1 + (j1 : Int) = (a : Int) := by omega
    have ht1 : ¬ t0 ≤ b0 := by omega
    have ht2 : ¬ n < t0 := by omega
    have ht3 : decide (t0 ≤ b0) = false := by simp; omega
    have ht4 : decide (n < t0) = false := by simp; omega
    have hb1 : ((b0 : Int) != (b0 : Int)) = false := by simp
    have HIX2 := hide hidx2
    obtain ⟨fa, fp, hMF⟩ := menu_facts HG.out (by rw [HQ.out]; omega) (own := (b0, t0)) (List.mem_of_getElem? HW0.out.sp) (c := j1 + 1) (by omega) (by dsimp only; omega)
    dsimp only at fa fp hMF
    rw [ha] at fa fp hMF
    obtain ⟨pre, hpre⟩ : ∃ pre, ((txtL ws).drop b0).take (j1 + 1) = pre := ⟨_, rfl⟩
    rw [hpre] at fp hMF
    have HPR := hide hpre
    have HFP := hide fp
    have HMF := hide hMF
    have hMA := menu_any A n c (txtL ws) (a : Int) W2 (HR.out.below HB2.out) (by omega) hnc.1 hnc.2
    have HMA := hide hMA
    clear hidx2 fa fp hMF hMA hpre
    go_upto_region 10 with (first
      | (go_at_call 27; (with_reducible refine HIX2.out.mono ?_); rintro e w3 ⟨rfl, rfl⟩)
      | (go_at_call 40; (with_reducible refine HMA.out.mono ?_); rintro e w3 ⟨P, pn, pc, Ao, no, co, us, kk, rfl, hP3, hO3, hko, hno, hme, -, hus, hb3⟩))
    have hPl := hP3
    rw [HFP.out] at hPl
    obtain ⟨lp, hlp⟩ : ∃ lp, j1 + 1 = lp := ⟨_, rfl⟩
    rw [hlp] at HPR
    have hsl0 : ∀ W, (Instr.slice 29 (.slice A n c) (some (.int .i64 (b0 : Int))) (some (.int .i64 (a : Int))) none).run Try.prog W = .ok (.slice (sub A c b0) lp (c - b0)) W := fun W => by
      rw [show (a : Int) = (b0 : Int) + (lp : Int) by omega]
      exact run_sub_lh A n c b0 lp (by omega) W
    have HB3 := hide (HB2.out.trans (hb3.mono HB2.out.size))
    have HR3 := hide (HR.out.below HB3.out)
    have h9 := refSame_any P (sub A c b0) pn pc lp (c - b0) pre pre w3 hPl.runes (by have h := HR3.out.mid (a := b0) (m := lp) (by omega) hnc.1; rw [HPR.out] at h; exact h) (by have := hPl.cap; omega) (by omega)
    rw [show sameS pre pre = true from by simp [sameS]] at h9
    have HSA := hide h9
    have HPP := hide hPl.runes
    have HPC := hide hPl.cap
    have HO3 := hide hO3
    have HME := hide hme
    have HUS := hide hus
    clear hP3 hPl h9 hO3 hme hus hb3 HIX2 HMA
    go_upto_region 12 with (go_at_call 31; (with_reducible refine HSA.out.mono ?_); rintro e w4 ⟨rfl, q4, rfl⟩)
    have HRz := hide (HR3.out.drewN q4)
    have HPz := hide (RowG.drewN (RowG.below HP.out HB3.out) q4)
    have HOz := hide (HO3.out.below (lt_drewN w3 q4))
    have HPPz := hide (HPP.out.drewN q4)
    have HBz := hide (HB.out.trans ((HB3.out.trans ((lt_drewN w3 q4).mono HB3.out.size)).mono HB.out.size))
    clear HR3 HP HO3 HPP HB3 HSA HB HX2 HB2 o0 o1 hsl0 v1 v2 ht1 ht2 ht3 ht4 hb1
    generalize w3.drewN q4 = wz at HRz HPz HOz HPPz HBz ⊢
    go_wp2_with fail
    go_loopw [15, 92] (fun s15 s92 wx => ∃ (i N : Nat), i ≤ q ∧ s92 = .int .i64 i ∧ s15 = .int .i64 N ∧ N ≤ i ∧ Hid (N = ((spF 0 ws).take i).countP (okB (txtL ws) (b0, t0) pre)) ∧ Hid (Below wz.heap.size wz wx)) (fun _ s92 _ => q - (intOf s92).toNat)
    case atStart => exact ⟨0, 0, Nat.zero_le _, rfl, rfl, Nat.le_refl _, by rw [List.take_zero]; rfl, Below.refl _ _⟩
    case round =>
      obtain ⟨i, N, hi, rfl, rfl, hN, HNC, HBX⟩ := hrel
      by_cases hlt : i < q
      · obtain ⟨b, t, u, hW⟩ := wat HG.out (i := i) (by rw [HQ.out]; exact hlt)
        obtain ⟨gB', hgB, hcB⟩ := PlO.at_ (RowG.below HPz.out HBX.out) hW.bg
        injection hgB with hgB
        injection hgB with hgB
        subst hgB
        have HW := hide hW
        have hbt : b < t := hW.lt
        have htn : t ≤ n := by have h1 := hW.le; have h2 := HN.out; omega
        have i0 : (0 : Int) ≤ (i : Int) := by omega
        have i1 : (i : Int) < (q : Int) := by omega
        have HTB := hide (show Calls Try.prog 39 #[.slice A n c, .int .i64 (b : Nat)] wr fun e w' => e = .returned (.tuple #[.agg #[.int .i64 (b : Nat), .int .i64 (t : Nat)], .bool true]) ∧ Below wr.heap.size wr w' from touched_any A n c (txtL ws) b wr (HRz.out.below HBX.out) (by omega) _ (hW.touch b (by omega) (by omega)))
        have hcn := cntP_next (f := okB (txtL ws) (b0, t0) pre) hW.sp
        have HCN := hide hcn
        have hown : b = b0 → (b, t) = (b0, t0) := fun e => by
          have h1 := hW.touch b (by omega) (by omega)
          have h2 := HW0.out.touch b (by omega) (by omega)
          rw [h1] at h2
          exact Option.some.inj h2
        have HOWN := hide hown
        clear hW hcn hown
        go_upto_region 17 with (go_at_call 39; (with_reducible refine HTB.out.mono ?_); rintro e w5 ⟨rfl, hb5⟩)
        obtain ⟨xb, hxb⟩ : ∃ xb, w5.heap.size = xb := ⟨_, rfl⟩
        have hba := (Below.refl w5.heap.size w5).alloc (Nat.le_refl _) (.cells #[.int .i64 (b : Nat), .int .i64 (t : Nat)] 61)
        have HX5 := hide (Box.newAt hxb 61 #[.int .i64 (b : Nat), .int .i64 (t : Nat)])
        have HB5 := hide (HBX.out.trans ((hb5.trans (hba.mono hb5.size)).mono HBX.out.size))
        rw [hxb]
        clear hb5 hba hxb HTB hcB HBX
        generalize w5.alloc (.cells #[.int .i64 (b : Nat), .int .i64 (t : Nat)] 61) = W5 at HX5 HB5 ⊢
        obtain ⟨⟨x0, x1⟩, -⟩ := HX5.out.c2
        have t1 : ¬ n < t := by omega
        have t2 : ¬ t ≤ b := by omega
        have t3 : decide (n < t) = false := by simp; omega
        have t4 : decide (t ≤ b) = false := by simp; omega
        by_cases hbb : b = b0
        · have e1 : ((b : Int) == (b0 : Int)) = true := by simp; omega
          have HNN := hide (show N = ((spF 0 ws).take (i + 1)).countP (okB (txtL ws) (b0, t0) pre) from by
            rw [HCN.out, HNC.out, HOWN.out hbb]
            simp [okB])
          clear hbb HCN HNC HOWN
          go_wp2_with fail
          go_roundw
          case rel => exact ⟨i + 1, N, by omega, by go_num, rfl, by omega, HNN.out, HB5.out⟩
          case measure => simp [intOf]; omega
        · have e1 : ((b : Int) == (b0 : Int)) = false := by simp; omega
          have e2 : ¬ b = b0 := hbb
          obtain ⟨lu, hlu⟩ : ∃ lu, t - b = lu := ⟨_, rfl⟩
          have hsl : ∀ W, (Instr.slice 29 (.slice A n c) (some (.int .i64 (b : Int))) (some (.int .i64 (t : Int))) none).run Try.prog W = .ok (.slice (sub A c b) lu (c - b)) W := fun W => by
            rw [show (t : Int) = (b : Int) + (lu : Int) by omega]
            exact run_sub_lh A n c b lu (by omega) W
          have HRU := hide (show Runes W5 (sub A c b) lu u from by
            have h := (HRz.out.below HB5.out).mid (a := b) (m := lu) (by omega) hnc.1
            have h2 := HW.out.wd
            unfold wdS at h2
            dsimp only at h2
            rw [hlu] at h2
            rw [h2] at h
            exact h)
          obtain ⟨z, hz⟩ : ∃ z, begS u pre = z := ⟨_, rfl⟩
          have h9 := begins_any (sub A c b) P lu (c - b) pn pc u pre W5 HRU.out (HPPz.out.below HB5.out) (by omega) (by omega) (by have := HPC.out; omega)
          rw [hz] at h9
          have HBG := hide h9
          have hok : okB (txtL ws) (b0, t0) pre (b, t) = z := by
            unfold okB
            rw [HW.out.wd, hz, decide_eq_true (by intro h; injection h with h1 h2; exact hbb h1), Bool.true_and]
          have HOK := hide hok
          have hlu3 : lu ≤ 300 := by omega
          clear hbb h9 hz hok hlu
          cases z
          · have HNN := hide (show N = ((spF 0 ws).take (i + 1)).countP (okB (txtL ws) (b0, t0) pre) from by
              rw [HCN.out, HNC.out, HOK.out]
              simp)
            clear HCN HNC HOWN
            go_wp2_with (go_at_call 30; (with_reducible refine HBG.out.mono ?_); rintro e w6 ⟨rfl, q6, rfl⟩)
            have HB6 := hide (HB5.out.trans ((lt_drewN W5 q6).mono HB5.out.size))
            go_roundw
            case rel => exact ⟨i + 1, N, by omega, by go_num, rfl, by omega, HNN.out, HB6.out⟩
            case measure => simp [intOf]; omega
          · have HNN := hide (show N + 1 = ((spF 0 ws).take (i + 1)).countP (okB (txtL ws) (b0, t0) pre) from by
              rw [HCN.out, HNC.out, HOK.out]
              simp)
            clear HCN HNC HOWN
            go_upto_region 21 with (go_at_call 30; (with_reducible refine HBG.out.mono ?_); rintro e w6 ⟨rfl, q6, rfl⟩)
            have HX6 := hide (HX5.out.drewN q6)
            have HB6 := hide (HB5.out.trans ((lt_drewN W5 q6).mono HB5.out.size))
            have HRU6 := hide (HRU.out.drewN q6)
            have HFND := hide (show ∃ v ∈ us.take kk, v.t = u from by
              obtain ⟨x, hx, he⟩ := HMF.out.has (b, t) (List.mem_of_getElem? HW.out.sp) HOK.out
              rw [← HME.out] at hx
              obtain ⟨v, hv, rfl⟩ := List.mem_map.1 hx
              rw [HW.out.wd] at he
              exact ⟨v, hv, he⟩)
            clear x0 x1 HX5 HB5 HRU HBG
            generalize W5.drewN q6 = W6 at HX6 HB6 HRU6 ⊢
            go_wp2_with fail
            go_loopw [20, 135] (fun s20 s135 wx => ∃ (j : Nat) (F : Bool), j ≤ kk ∧ s135 = .int .i64 j ∧ s20 = .bool F ∧ Hid (F = ((us.take kk).take j).any fun v => decide (v.t = u)) ∧ Hid (Below W6.heap.size W6 wx)) (fun _ s135 _ => kk - (intOf s135).toNat)
            case atStart => exact ⟨0, false, Nat.zero_le _, rfl, rfl, (by rw [List.take_zero]; rfl), Below.refl _ _⟩
            case round =>
              obtain ⟨j, F, hj, rfl, rfl, HF, HBY⟩ := hrel
              by_cases hjk : j < kk
              · obtain ⟨v, hv⟩ : ∃ v, us[j]? = some v := ⟨_, List.getElem?_eq_getElem (by rw [HOz.out.len]; omega)⟩
                have hvk : (us.take kk)[j]? = some v := by rw [List.getElem?_take, if_pos hjk]; exact hv
                have hOy := (HOz.out.below HB6.out).below HBY.out
                obtain ⟨go, hgo, d0, d1⟩ := RowG.itm_at hOy.row hv
                have hvo := hOy.own v (List.mem_of_getElem? hv)
                have hvn := HUS.out v (List.mem_of_getElem? hv)
                have j0' : (0 : Int) ≤ (j : Int) := by omega
                have j1' : (j : Int) < (kk : Int) := by omega
                obtain ⟨yb, hyb⟩ : ∃ yb, wr.heap.size = yb := ⟨_, rfl⟩
                have hba := (Below.refl wr.heap.size wr).alloc (Nat.le_refl _) (.cells #[.slice v.A v.n v.c, .int .i64 (v.k : Nat)] 49)
                have HY7 := hide (Box.newAt hyb 49 #[.slice v.A v.n v.c, .int .i64 (v.k : Nat)])
                have HB7 := hide (HBY.out.trans (hba.mono HBY.out.size))
                have HV7 := hide (hvo.runes.below hba)
                have HAN := hide (any_next (f := fun v : IV => decide (v.t = u)) hvk)
                clear hba hv hvk hOy hvo HBY
                subst hgo
                go_upto_region 25 with fail
                generalize wr.alloc (.cells #[.slice v.A v.n v.c, .int .i64 (v.k : Nat)] 49) = W7 at HY7 HB7 HV7 ⊢
                clear d0 d1 hyb
                obtain ⟨⟨y0, y1⟩, -⟩ := HY7.out.c2
                obtain ⟨⟨x0, x1⟩, -⟩ := (HX6.out.below HB7.out).c2
                have HRU7 := hide (HRU6.out.below HB7.out)
                cases F
                · obtain ⟨z2, hz2⟩ : ∃ z2, sameS v.t u = z2 := ⟨_, rfl⟩
                  have h9 := fun r => refSame_any v.A (sub A c b) v.n v.c lu (c - b) v.t u (W7.drewN r) (HV7.out.drewN r) (HRU7.out.drewN r) (by omega) (by omega)
                  rw [hz2] at h9
                  have HS7 := hide h9
                  have HFN := hide (show z2 = ((us.take kk).take (j + 1)).any fun v => decide (v.t = u) from by
                    rw [HAN.out, ← HF.out, Bool.false_or, ← hz2]
                    rfl)
                  clear h9 hz2 HAN HF
                  go_big_quiet ((go_at_call 31; exact Calls.quiet_of (HS7.out _)))
                  go_wp2_with fail
                  have HB8 := hide (HB7.out.trans ((lt_drewN W7 nq).mono HB7.out.size))
                  go_roundw
                  case rel => exact ⟨j + 1, z2, by omega, by go_num, rfl, HFN.out, HB8.out⟩
                  case measure => simp [intOf]; omega
                · have HFN := hide (show true = ((us.take kk).take (j + 1)).any fun v => decide (v.t = u) from by
                    rw [HAN.out, ← HF.out, Bool.true_or])
                  clear HAN HF
                  go_big_quiet (fail)
                  go_wp2_with fail
                  have HB8 := hide (HB7.out.trans ((lt_drewN W7 nq).mono HB7.out.size))
                  go_roundw
                  case rel => exact ⟨j + 1, true, by omega, by go_num, rfl, HFN.out, HB8.out⟩
                  case measure => simp [intOf]; omega
              · obtain rfl : j = kk := by omega
                have hFt : F = true := by
                  rw [HF.out, List.take_of_length_le (by rw [List.length_take]; omega), List.any_eq_true]
                  obtain ⟨v, hv, he⟩ := HFND.out
                  exact ⟨v, hv, by simpa using he⟩
                subst hFt
                have HB8 := hide (HB6.out.trans (HBY.out.mono HB6.out.size))
                clear HF HBY HFND
                go_wp2_with fail
                go_roundw
                case rel => exact ⟨i + 1, N + 1, by omega, by go_num, by go_num, by omega, HNN.out, HB8.out⟩
                case measure => simp [intOf]; omega
      · obtain rfl : i = q := by omega
        have HTOT := hide (show N = allB ((us.take kk).map IV.itm) from by
          rw [HNC.out, List.take_of_length_le (by rw [spF_len, HQ.out]; exact Nat.le_refl _), HME.out, HMF.out.all])
        have HB9 := hide (HBz.out.trans (HBX.out.mono HBz.out.size))
        have HO9 := hide (HOz.out.below HBX.out)
        clear HNC HBX HBz HOz HPz HPPz hlt
        obtain ⟨w9, rfl⟩ : ∃ w9, w9 = wr := ⟨_, rfl⟩
        go_wp2_with fail
        go_loopw [15, 156] (fun s15 s156 wx => ∃ (j R : Nat), j ≤ kk ∧ s156 = .int .i64 j ∧ s15 = .int .i64 R ∧ R ≤ 60 ∧ Hid (R + allB (((us.take kk).map IV.itm).take j) = N) ∧ Hid (Below w9.heap.size w9 wx)) (fun _ s156 _ => kk - (intOf s156).toNat)
        case atStart => exact ⟨0, N, Nat.zero_le _, rfl, rfl, by omega, (show N + allB (((us.take kk).map IV.itm).take 0) = N from by rw [List.take_zero]; rfl), Below.refl _ _⟩
        case round =>
          obtain ⟨j, R, hj, rfl, rfl, hR, HRR, HBY⟩ := hrel
          by_cases hjk : j < kk
          · obtain ⟨v, hv⟩ : ∃ v, us[j]? = some v := ⟨_, List.getElem?_eq_getElem (by rw [HO9.out.len]; omega)⟩
            have hvk : ((us.take kk).map IV.itm)[j]? = some v.itm := by rw [List.getElem?_map, List.getElem?_take, if_pos hjk, hv]; rfl
            have hOy := HO9.out.below HBY.out
            obtain ⟨go, hgo, d0, d1⟩ := RowG.itm_at hOy.row hv
            have hvn := HUS.out v (List.mem_of_getElem? hv)
            have hvp : 0 < v.k := HMF.out.pos v.itm (by rw [← HME.out]; exact List.mem_of_getElem? hvk)
            have hnx := all_next hvk
            have htl := all_take_le ((us.take kk).map IV.itm) (j + 1)
            have hrr := HRR.out
            have htt := HTOT.out
            have hvR : v.k ≤ R := by
              have e : v.itm.2 = v.k := rfl
              rw [e] at hnx
              omega
            have HRN := hide (show (R - v.k) + allB (((us.take kk).map IV.itm).take (j + 1)) = N from by
              have e : v.itm.2 = v.k := rfl
              rw [e] at hnx
              omega)
            have HSUB := hide (show (R : Int) - (v.k : Int) = ((R - v.k : Nat) : Int) from by omega)
            have HVO := hide (hOy.own v (List.mem_of_getElem? hv)).runes
            have j0' : (0 : Int) ≤ (j : Int) := by omega
            have j1' : (j : Int) < (kk : Int) := by omega
            obtain ⟨yb, hyb⟩ : ∃ yb, wr.heap.size = yb := ⟨_, rfl⟩
            have hba := (Below.refl wr.heap.size wr).alloc (Nat.le_refl _) (.cells #[.slice v.A v.n v.c, .int .i64 (v.k : Nat)] 49)
            have HY7 := hide (Box.newAt hyb 49 #[.slice v.A v.n v.c, .int .i64 (v.k : Nat)])
            have HB7 := hide (HBY.out.trans (hba.mono HBY.out.size))
            have HV7 := hide (HVO.out.below hba)
            have HVK := hide hvk
            subst hgo
            have HOY := hide (hOy.below hba)
            clear hba hv hvk hOy HBY hnx htl hrr htt
            go_upto_region 33 with fail
            generalize wr.alloc (.cells #[.slice v.A v.n v.c, .int .i64 (v.k : Nat)] 49) = W7 at HY7 HB7 HV7 HOY ⊢
            clear d0 d1 hyb
            obtain ⟨⟨y0, y1⟩, -⟩ := HY7.out.c2
            have u1 : ¬ v.k < 1 := by omega
            have u2 : ¬ v.k = 0 := by omega
            have u3 : decide ((v.k : Int) < 1) = false := by simp; omega
            by_cases hj0 : 0 < j
            · obtain ⟨p, hp⟩ : ∃ p, j = p + 1 := ⟨j - 1, by omega⟩
              obtain ⟨y, hy⟩ : ∃ y, us[p]? = some y := ⟨_, List.getElem?_eq_getElem (by rw [HO9.out.len]; omega)⟩
              have hyk : ((us.take kk).map IV.itm)[p]? = some y.itm := by rw [List.getElem?_map, List.getElem?_take, if_pos (by omega), hy]; rfl
              obtain ⟨go', hgo', f0, f1⟩ := RowG.itm_at HOY.out.row hy
              injection hgo' with hgo'
              injection hgo' with hgo'
              subst hgo'
              have hyn := HUS.out y (List.mem_of_getElem? hy)
              have HYR := hide (HOY.out.own y (List.mem_of_getElem? hy)).runes
              have hbet : betB y.itm v.itm = true := by
                have htop := HMF.out.top
                rw [← HME.out] at htop
                obtain ⟨h1, h2⟩ := List.getElem?_eq_some_iff.1 hyk
                obtain ⟨h3, h4⟩ := List.getElem?_eq_some_iff.1 HVK.out
                have h5 := List.pairwise_iff_getElem.1 htop p j h1 h3 (by omega)
                rw [h2, h4] at h5
                exact h5
              rw [betB_iff] at hbet
              have hbet2 : v.k < y.k ∨ (y.k = v.k ∧ lessS y.t v.t = true) := hbet
              have p0 : (0 : Int) ≤ (p : Int) := by omega
              have p1 : (p : Int) < (kk : Int) := by omega
              have hv3 : IntKind.i64.wrap ((j : Int) - 1) = (p : Int) := by rw [IntWalk.i64_in _ (by omega)]; omega
              have HLS := hide (fun r => rless_any y.A v.A y.n y.c v.n v.c y.t v.t (W7.drewN r) (HYR.out.drewN r) (HV7.out.drewN r) (by omega) (by omega))
              have u4 : ¬ y.k < v.k := by rcases hbet2 with h | ⟨h, _⟩ <;> omega
              have u5 : decide (y.k < v.k) = false := by simp; rcases hbet2 with h | ⟨h, _⟩ <;> omega
              clear hp hy hyk hbet
              rcases hbet2 with hb2 | ⟨hb2, hb3⟩
              case' inl =>
                have u6 : ((y.k : Int) == (v.k : Int)) = false := by simp; omega
                have u7 : ¬ y.k = v.k := by omega
                clear hb2
              case' inr =>
                have hls := HLS.out
                rw [hb3] at hls
                have HLT := hide hls
                have u6 : ((y.k : Int) == (v.k : Int)) = true := by simp; omega
                have HKK := hide hb2
                clear hb2 hb3 hls HLS
              case inl =>
                go_wp2_with fail
                go_big_quiet (fail)
                clear hv3
                go_wp2_with fail
                have HB8 := hide (HB7.out.trans ((lt_drewN W7 nq).mono HB7.out.size))
                go_roundw
                case rel => exact ⟨j + 1, R - v.k, by omega, by go_num, by rw [← HSUB.out], by omega, HRN.out, HB8.out⟩
                case measure => simp [intOf]; omega
              case inr =>
                go_wp2_with fail
                go_big_quiet ((go_at_call 29; exact Calls.quiet_of (HLT.out _)))
                clear hv3
                go_wp2_with fail
                have HB8 := hide (HB7.out.trans ((lt_drewN W7 nq).mono HB7.out.size))
                go_roundw
                case rel => exact ⟨j + 1, R - v.k, by omega, by go_num, by rw [← HSUB.out], by omega, HRN.out, HB8.out⟩
                case measure => simp [intOf]; omega
            · go_wp2_with fail
              go_big_quiet (fail)
              go_wp2_with fail
              have HB8 := hide (HB7.out.trans ((lt_drewN W7 nq).mono HB7.out.size))
              go_roundw
              case rel => exact ⟨j + 1, R - v.k, by omega, by go_num, by rw [← HSUB.out], by omega, HRN.out, HB8.out⟩
              case measure => simp [intOf]; omega
          · obtain rfl : j = kk := by omega
            have hR0 : R = 0 := by
              have h1 := HRR.out
              rw [List.take_of_length_le (by rw [List.length_map, List.length_take]; omega)] at h1
              have h2 := HTOT.out
              omega
            subst hR0
            have HBF := hide (HB9.out.trans (HBY.out.mono HB9.out.size))
            clear HRR HBY
            go_wp2_with (go_at_call 37; (with_reducible refine (known22_any _).mono ?_); rintro e w11 ⟨rfl, hb11⟩)
            have HB11 := hide (HBF.out.trans (hb11.mono HBF.out.size))
            clear hb11
            go_ret
            exact ⟨rfl, HB11.out⟩
end Go.Proofs.Ytchcpeenpijekaa
