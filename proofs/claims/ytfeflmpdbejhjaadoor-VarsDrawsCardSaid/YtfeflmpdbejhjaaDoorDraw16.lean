/- The walk of VarsDraws. -/
import Derived.Test.YtfeflmpdbejhjaaDoorDrawL
import Derived.Test.YtfeflmpdbejhjaaDoorNameE
import Derived.Test.YtfeflmpdbejhjaaDoorTurn16
namespace Go.Proofs.YtfeflmpdbejhjaaDoor
open Go.RowKit
set_option linter.unusedVariables false

theorem EB.copy {w0 w : World} {ge gf : Nat} {e : EnvH} {v : EnvV} (h : EB w0 w ge e v) (hgf : w.heap.size = gf) : EB w0 (w.alloc (.cells e.cells 26)) gf e v := by
  have hba := (Below.refl w.heap.size w).alloc (Nat.le_refl _) (.cells e.cells 26)
  refine ⟨Box.newAt hgf _ _, h.rd.below hba, fun i b o ha hn => ?_, fun b o ha hn => ?_, h.bel.trans (hba.mono h.bel.size), by have := h.bel.size; omega⟩
  · have := (h.rd.tx i).lt hn ha
    omega
  · have := h.rd.dr.lt hn ha
    omega
theorem EB.over {w0 w w' : World} {gf : Nat} {e : EnvH} {v : EnvV} (hb : Below w0.heap.size w0 w) (hl : w0.heap.size ≤ gf) (hE : EnvR w e v) (hx : Box w' gf 26 e.cells) (hG : w.grownBy w' (some gf)) (ht : ∀ i b, blk (e.t i).A = some b → gf < b) (hd : ∀ b, blk e.d.A = some b → gf < b) : EB w0 w' gf e v := by
  refine ⟨hx, ⟨fun i => (hE.tx i).keep fun b o ha hn => hG.block b ((hE.tx i).lt hn ha) (fun e2 => ?_), hE.tn, hE.dr.keep fun b o ha hn => hG.block b (hE.dr.lt hn ha) (fun e2 => ?_), hE.dn, hE.ix, hE.ck, hE.ib, hE.cb⟩, fun i b o ha _ => ?_, fun b o ha _ => ?_, hb.grown hG hb.size (fun j hj => by injection hj with hj; omega), hl⟩
  · have := ht i b (by rw [ha]; rfl)
    injection e2 with e2
    omega
  · have := hd b (by rw [ha]; rfl)
    injection e2 with e2
    omega
  · have := ht i b (by rw [ha]; rfl)
    omega
  · have := hd b (by rw [ha]; rfl)
    omega
theorem EB.ownK {w0 w : World} {gf : Nat} {e : EnvH} {v : EnvV} (h : EB w0 w gf e v) (p : Nat) (u : Value) {B n c : Nat} {A : Option Addr} {l : List Int} (ho : Own w B A n c l) (hne : ∀ b, blk A = some b → b < gf) : Own (w.setCell ⟨gf, p, none⟩ u) B A n c l :=
  ho.far (p := ⟨gf, p, none⟩) (fun e => by have := hne gf e; omega) u
theorem IntsR.sub {w : World} {A : Option Addr} {n c a : Nat} {l : List Int} (h : IntsR w A n l) (ha : a ≤ n) (hc : n ≤ c) : IntsR w (Go.Proofs.YtfeflmpdbejhjaaDoor.sub A c a) (n - a) (l.drop a) := by
  have hv := IntV.sub (c := c) (a := a) (l := l) ⟨h.len, h.at_⟩ ha hc
  exact ⟨hv.len, hv.at_, fun x hx => h.wf x (List.mem_of_mem_drop hx)⟩

set_option maxRecDepth 100000 in
set_option maxHeartbeats 16000000 in
theorem varsDraws_any (Z : Option Addr) (zn zc : Nat) (z : List Int) (k used : Int) (L : Option Addr) (ln lc : Nat) (l : List Int) (w : World) (hz : IntsR w Z zn z) (hzn : zn ≤ 35184372088832) (hl : IntsR w L ln l) (hln : ln ≤ 35184372088832) (hT : Tabs w) :
    Calls Tryd.prog 6 #[.slice Z zn zc, .int .i64 k, .int .i64 used, .slice L ln lc] w fun r w' => r = .returned (.bool true) ∧ Below w.heap.size w w' := by
  obtain ⟨g, hg⟩ : ∃ g, w.heap.size = g := ⟨_, rfl⟩
  have HB0 := hide ((Below.refl w.heap.size w).alloc (Nat.le_refl _) (.cells #[.slice Z zn zc, .int .i64 0] 29))
  have HT0 := hide (show Tap (w.alloc (.cells #[.slice Z zn zc, .int .i64 0] 29)) g Z zn zc z from hg ▸ Tap.new hz)
  have HT := hide (fun W (hb : Below w.heap.size w W) => hT.below hb)
  have HL := hide (fun W (hb : Below w.heap.size w W) => hl.below hb)
  clear hT hz hl
  go_enter Tryd.func6, Tryd.ntmps6
  go_upto_region 2 with (go_at_call 7; (with_reducible refine (tenv_any g Z zn zc z _ HT0.out hzn).mono ?_); rintro r w2 ⟨e, v, B', rfl, hE, hM, -, -, -, -, hG⟩; (unfold EnvH.v EnvH.cells))
  obtain ⟨ge, hge⟩ : ∃ ge, w2.heap.size = ge := ⟨_, rfl⟩
  rw [hge]
  have HE := hide (show EB w (w2.alloc (.cells #[.slice (e.t 0).A (e.t 0).n (e.t 0).c, .slice (e.t 1).A (e.t 1).n (e.t 1).c, .slice (e.t 2).A (e.t 2).n (e.t 2).c, .slice (e.t 3).A (e.t 3).n (e.t 3).c, .slice (e.t 4).A (e.t 4).n (e.t 4).c, .slice (e.t 5).A (e.t 5).n (e.t 5).c, .int .i64 e.ix, .int .i64 (e.ck 0), .int .i64 (e.ck 1), .int .i64 (e.ck 2), .int .i64 (e.ck 3), .int .i64 (e.ck 4), .int .i64 (e.ck 5), .int .i64 (e.ck 6), .slice e.d.A e.d.n e.d.c] 26)) ge e v from EB.make HB0.out (by omega) hE hG hge)
  have HM := hide hM
  clear hE hG HB0 HT0 hM
  generalize w2.alloc (.cells #[.slice (e.t 0).A (e.t 0).n (e.t 0).c, .slice (e.t 1).A (e.t 1).n (e.t 1).c, .slice (e.t 2).A (e.t 2).n (e.t 2).c, .slice (e.t 3).A (e.t 3).n (e.t 3).c, .slice (e.t 4).A (e.t 4).n (e.t 4).c, .slice (e.t 5).A (e.t 5).n (e.t 5).c, .int .i64 e.ix, .int .i64 (e.ck 0), .int .i64 (e.ck 1), .int .i64 (e.ck 2), .int .i64 (e.ck 3), .int .i64 (e.ck 4), .int .i64 (e.ck 5), .int .i64 (e.ck 6), .slice e.d.A e.d.n e.d.c] 26) = w3 at HE ⊢
  clear hge hg
  go_upto_block 0 with fail
  go_cut [10, 11] (fun s10 s11 wx => ∃ (j : Nat) (A1 : Option Addr) (c1 : Nat) (ds : List Int), s10 = .slice A1 j c1 ∧ s11 = .int .i64 ((j : Nat) : Int) ∧ j ≤ 8 ∧ Hid (RowI wx w3.heap.size A1 j c1 ds) ∧ Hid (DrOk ds) ∧ Hid (Below w3.heap.size w3 wx))
  case first =>
    go_wp2_with fail
    go_loopw [10, 11] (fun s10 s11 wr => ∃ (j : Nat) (A1 : Option Addr) (c1 : Nat) (ds : List Int), s10 = .slice A1 j c1 ∧ s11 = .int .i64 ((j : Nat) : Int) ∧ j ≤ 8 ∧ j ≤ ln ∧ Hid (RowI wr w3.heap.size A1 j c1 ds) ∧ Hid (DrOk ds) ∧ Hid (Below w3.heap.size w3 wr)) (fun _ s11 _ => 8 - (intOf s11).toNat)
    case atStart => exact ⟨0, none, 0, [], rfl, rfl, by omega, by omega, RowI.nil _ _, (fun x hx => by cases hx), Below.refl _ _⟩
    case round =>
      obtain ⟨j, A1, c1, ds, rfl, rfl, hj8, hjn, HR, HD, HB⟩ := hrel
      by_cases h1 : j < ln
      · have h1' : (j : Int) < (ln : Int) := by omega
        by_cases h2 : j < 8
        · have h2' : (j : Int) < 8 := by omega
          have i0 : (0 : Int) ≤ (j : Int) := by omega
          obtain ⟨b, o, rfl, hc⟩ := (HL.out wr (HE.out.bel.trans (HB.out.mono HE.out.bel.size))).at_ j h1
          have hy := and_24 (nth l j)
          have hsz := HB.out.size
          go_wp2_with (at_builtin
                       refine wpList_appI rfl (.tmp 34) (.tmp 40) rfl w3.heap.size rfl (HR.out.alloc _) rfl (m := 1) (d := 1) (IntV.box (Box.new _ _ _)) (by omega) (by first | omega | (simp; omega)) ?_
                       intro A4 c4 w4 hr4 hg4 hb4 hor4)
          have HR4 := hide hr4
          have HB4 := hide ((HB.out.alloc hsz (.cells #[.int .i64 (bits .and .i64 (nth l j) 16777215)] 3)).trans hb4)
          have HD4 := hide (show DrOk (ds ++ [bits .and .i64 (nth l j) 16777215]) from fun x hx => by
            rcases List.mem_append.1 hx with h | h
            · exact HD.out x h
            · rw [List.mem_singleton.1 h]; exact hy)
          clear hr4 hg4 hb4 hor4 hc hy
          go_roundw
          case rel => exact ⟨j + 1, A4, c4, _, rfl, by first | rfl | go_num, by omega, by omega, HR4.out, HD4.out, HB4.out⟩
          case measure => simp [intOf]; omega
        · have h2' : ¬ (j : Int) < 8 := by omega
          go_wp2_with fail
          go_meet
          exact ⟨j, A1, c1, ds, rfl, rfl, hj8, HR, HD, HB⟩
      · have h1' : ¬ (j : Int) < (ln : Int) := by omega
        go_wp2_with fail
        go_meet
        exact ⟨j, A1, c1, ds, rfl, rfl, hj8, HR, HD, HB⟩
  case rest =>
    obtain ⟨j, A1, c1, ds, rfl, rfl, hj8, HR, HD, HB⟩ := hcut
    generalize wc = w5 at *
    have hgl3 : ge < w3.heap.size := HE.out.box.lt
    have HE5 := hide (HE.out.below HB.out)
    have hds : ds.length = j := RowI.len HR.out
    have hI := index_any used ((j : Int) + 1) w5 (by omega) (by omega)
    have hu9 := idxN_lt (k := used) (n := ((j : Int) + 1).toNat) (by omega)
    generalize idxN used ((j : Int) + 1).toNat = u at hI hu9
    have HI := hide hI
    have huj : u ≤ j := by omega
    have f14 : w5.cell? ⟨ge, 14, none⟩ = some (.slice e.d.A e.d.n e.d.c) := HE5.out.box.cell 14
    have z14 := HE5.out.box.frozen 14
    clear hI hu9 HE
    go_upto_region 9 with (go_at_call 11; (with_reducible refine HI.out.mono ?_); rintro r w' ⟨rfl, rfl⟩)
    have hlow : ∀ b, blk A1 = some b → w3.heap.size ≤ b := fun b hb => (HR.out.blk_ge b hb).1
    have hIV := RowI.read HR.out
    have HIR := hide (show IntsR w5 A1 j ds from ⟨hIV.len, hIV.at_, fun x hx => by have := HD.out x hx; omega⟩)
    have hne : ∀ b o, A1 = some ⟨b, o, none⟩ → 0 < j → b ≠ ge := fun b o ha _ => by have := hlow b (by rw [ha]; rfl); omega
    have HE1 := hide (HE5.out.setD (c := c1) HIR.out (by omega) hne)
    have HIR6 := hide (HE5.out.ints 14 (.slice A1 j c1) HIR.out hne)
    have HM1 := hide (mayE_d HM.out (d := ds) (by omega) HD.out)
    have HCAP := hide (HR.out.cap)
    clear f14 z14 hIV HE5 HIR hne hlow hgl3 HR HB
    generalize w5.setCell ⟨ge, 14, none⟩ (.slice A1 j c1) = w6 at HE1 HIR6 ⊢
    obtain ⟨o, nn, by_, HDR⟩ := drawR_of HM1.out (show u ≤ 1000 by omega) (nameL k)
    have HVD := hide (fun W (hb : Below w6.heap.size w6 W) A n c (hl : Runes W A n (nameL k)) (hn : n ≤ 1000) => show Calls Tryd.prog 13 #[.agg #[.slice (e.t 0).A (e.t 0).n (e.t 0).c, .slice (e.t 1).A (e.t 1).n (e.t 1).c, .slice (e.t 2).A (e.t 2).n (e.t 2).c, .slice (e.t 3).A (e.t 3).n (e.t 3).c, .slice (e.t 4).A (e.t 4).n (e.t 4).c, .slice (e.t 5).A (e.t 5).n (e.t 5).c, .int .i64 e.ix, .int .i64 (e.ck 0), .int .i64 (e.ck 1), .int .i64 (e.ck 2), .int .i64 (e.ck 3), .int .i64 (e.ck 4), .int .i64 (e.ck 5), .int .i64 (e.ck 6), .slice A1 j c1], .slice A n c, .int .i64 ((u : Nat) : Int)] W (ValR W o nn) from by
      have h := value_any (e.setD ⟨A1, j, c1⟩) (v.setD ds) A n c (nameL k) ((u : Nat) : Int) W (HE1.out.rd.below hb) hl (by omega) (HT.out _ (HE1.out.bel.trans (hb.mono HE1.out.bel.size)))
      rw [HDR.val] at h
      exact h)
    have HXE := hide (fun W (hb : Below w6.heap.size w6 W) => show W.cell? ⟨ge, 0, none⟩ = some (.slice (e.t 0).A (e.t 0).n (e.t 0).c) ∧ W.cell? ⟨ge, 1, none⟩ = some (.slice (e.t 1).A (e.t 1).n (e.t 1).c) ∧ W.cell? ⟨ge, 2, none⟩ = some (.slice (e.t 2).A (e.t 2).n (e.t 2).c) ∧ W.cell? ⟨ge, 3, none⟩ = some (.slice (e.t 3).A (e.t 3).n (e.t 3).c) ∧ W.cell? ⟨ge, 4, none⟩ = some (.slice (e.t 4).A (e.t 4).n (e.t 4).c) ∧ W.cell? ⟨ge, 5, none⟩ = some (.slice (e.t 5).A (e.t 5).n (e.t 5).c) ∧ W.cell? ⟨ge, 6, none⟩ = some (.int .i64 e.ix) ∧ W.cell? ⟨ge, 7, none⟩ = some (.int .i64 (e.ck 0)) ∧ W.cell? ⟨ge, 8, none⟩ = some (.int .i64 (e.ck 1)) ∧ W.cell? ⟨ge, 9, none⟩ = some (.int .i64 (e.ck 2)) ∧ W.cell? ⟨ge, 10, none⟩ = some (.int .i64 (e.ck 3)) ∧ W.cell? ⟨ge, 11, none⟩ = some (.int .i64 (e.ck 4)) ∧ W.cell? ⟨ge, 12, none⟩ = some (.int .i64 (e.ck 5)) ∧ W.cell? ⟨ge, 13, none⟩ = some (.int .i64 (e.ck 6)) ∧ W.cell? ⟨ge, 14, none⟩ = some (.slice A1 j c1) from EnvH.at_ (e := e.setD ⟨A1, j, c1⟩) (HE1.out.box.below hb))
    have hacc := (Below.refl w6.heap.size w6).drew
    obtain ⟨y0, y1, y2, y3, y4, y5, y6, y7, y8, y9, y10, y11, y12, y13, y14⟩ := HXE.out w6 (Below.refl _ _)
    go_region_held3 (fun w' => w'.cell? ⟨ge, 0, none⟩ = some (.slice (e.t 0).A (e.t 0).n (e.t 0).c) ∧ w'.cell? ⟨ge, 1, none⟩ = some (.slice (e.t 1).A (e.t 1).n (e.t 1).c) ∧ w'.cell? ⟨ge, 2, none⟩ = some (.slice (e.t 2).A (e.t 2).n (e.t 2).c) ∧ w'.cell? ⟨ge, 3, none⟩ = some (.slice (e.t 3).A (e.t 3).n (e.t 3).c) ∧ w'.cell? ⟨ge, 4, none⟩ = some (.slice (e.t 4).A (e.t 4).n (e.t 4).c) ∧ w'.cell? ⟨ge, 5, none⟩ = some (.slice (e.t 5).A (e.t 5).n (e.t 5).c) ∧ w'.cell? ⟨ge, 6, none⟩ = some (.int .i64 e.ix) ∧ w'.cell? ⟨ge, 7, none⟩ = some (.int .i64 (e.ck 0)) ∧ w'.cell? ⟨ge, 8, none⟩ = some (.int .i64 (e.ck 1)) ∧ w'.cell? ⟨ge, 9, none⟩ = some (.int .i64 (e.ck 2)) ∧ w'.cell? ⟨ge, 10, none⟩ = some (.int .i64 (e.ck 3)) ∧ w'.cell? ⟨ge, 11, none⟩ = some (.int .i64 (e.ck 4)) ∧ w'.cell? ⟨ge, 12, none⟩ = some (.int .i64 (e.ck 5)) ∧ w'.cell? ⟨ge, 13, none⟩ = some (.int .i64 (e.ck 6)) ∧ w'.cell? ⟨ge, 14, none⟩ = some (.slice A1 j c1)) (first | go_keep) (first
      | (go_at_call 9; (with_reducible refine (lname_det k _).mono ?_); rintro r wn ⟨An, mn, cn, rfl, hon, hbn, hnn⟩
         have hrn := hon.runes
         have hacc := hacc.trans (hbn.mono hacc.size)
         obtain ⟨y0, y1, y2, y3, y4, y5, y6, y7, y8, y9, y10, y11, y12, y13, y14⟩ := HXE.out wn hacc)
      | (go_at_call 13; (with_reducible refine (HVD.out _ hacc _ _ _ hrn hnn).mono ?_); rintro r w8 ⟨Aa, na, ca, rfl, hoa, hba⟩
         have hwn := hacc.size
         have hacc := hacc.trans (hba.mono hacc.size)
         obtain ⟨y0, y1, y2, y3, y4, y5, y6, y7, y8, y9, y10, y11, y12, y13, y14⟩ := HXE.out w8 hacc))
    have HAC := hide hacc
    have HOA := hide (hoa.mono hwn)
    have hby : nn - ((u : Nat) : Int) = ((by_ : Nat) : Int) := by have := HDR.num; omega
    have hbx : (by_ : Int) ≤ 5 := by have := HDR.three; omega
    clear hacc hoa hba hbn hrn hon hnn y0 y1 y2 y3 y4 y5 y6 y7 y8 y9 y10 y11 y12 y13 y14 HVD HXE hwn
    rcases o with _ | x
    · have hb0 := HDR.none_ rfl
      have hna : na = 0 := by have := HOA.out.len; simpa using this.symm
      subst hb0 hna
      have HK := hide (known16_any w8 (HT.out _ (HE1.out.bel.trans (HAC.out.mono HE1.out.bel.size))))
      go_wp2_with (go_at_call 10; (with_reducible refine HK.out.mono ?_); rintro r w9 ⟨rfl, hb9⟩)
      go_ret
      exact ⟨rfl, (HE1.out.bel.trans (HAC.out.mono HE1.out.bel.size)).trans (hb9.mono (HE1.out.bel.trans (HAC.out.mono HE1.out.bel.size)).size)⟩
    · have HTH := hide HDR.three
      have HE8 := hide (HE1.out.below HAC.out)
      have HI8 := hide (HIR6.out.below HAC.out)
      obtain ⟨y0, y1, y2, y3, y4, y5, y6, y7, y8, y9, y10, y11, y12, y13, y14⟩ := EnvH.at_ (e := e.setD ⟨A1, j, c1⟩) HE8.out.box
      dsimp only [EnvH.setD] at y0 y1 y2 y3 y4 y5 y6 y7 y8 y9 y10 y11 y12 y13 y14
      obtain ⟨gf, hgf⟩ : ∃ gf, w8.heap.size = gf := ⟨_, rfl⟩
      have hsl := run_subI_l A1 j c1 u huj
      have hcap : j ≤ c1 := HCAP.out.1
      have hgl8 := HE8.out.box.lt
      go_upto_region 13 with fail
      go_cut [15, 82] (fun s15 s82 wx => s15 = .int .i64 ((by_ : Nat) : Int) ∧ s82 = .bool false ∧ w8 = wx)
      case first =>
        rcases HTH.out with rfl | rfl | rfl
        · go_wp2_with fail
          go_meet
          exact ⟨rfl, rfl, rfl⟩
        · go_wp2_with fail
          go_meet
          exact ⟨rfl, rfl, rfl⟩
        · go_wp2_with fail
          go_meet
          exact ⟨rfl, rfl, rfl⟩
      case rest =>
      obtain ⟨rfl, rfl, rfl⟩ := hcut
      rcases Nat.eq_zero_or_pos by_ with rfl | hpos
      · go_upto_region 16 with fail
        have HEC := hide (show EB w (w8.alloc (.cells #[.slice (e.t 0).A (e.t 0).n (e.t 0).c, .slice (e.t 1).A (e.t 1).n (e.t 1).c, .slice (e.t 2).A (e.t 2).n (e.t 2).c, .slice (e.t 3).A (e.t 3).n (e.t 3).c, .slice (e.t 4).A (e.t 4).n (e.t 4).c, .slice (e.t 5).A (e.t 5).n (e.t 5).c, .int .i64 e.ix, .int .i64 (e.ck 0), .int .i64 (e.ck 1), .int .i64 (e.ck 2), .int .i64 (e.ck 3), .int .i64 (e.ck 4), .int .i64 (e.ck 5), .int .i64 (e.ck 6), .slice A1 j c1] 26)) gf (e.setD ⟨A1, j, c1⟩) (v.setD ds) from HE8.out.copy hgf)
        have hba := (Below.refl w8.heap.size w8).alloc (Nat.le_refl _) (.cells #[.slice (e.t 0).A (e.t 0).n (e.t 0).c, .slice (e.t 1).A (e.t 1).n (e.t 1).c, .slice (e.t 2).A (e.t 2).n (e.t 2).c, .slice (e.t 3).A (e.t 3).n (e.t 3).c, .slice (e.t 4).A (e.t 4).n (e.t 4).c, .slice (e.t 5).A (e.t 5).n (e.t 5).c, .int .i64 e.ix, .int .i64 (e.ck 0), .int .i64 (e.ck 1), .int .i64 (e.ck 2), .int .i64 (e.ck 3), .int .i64 (e.ck 4), .int .i64 (e.ck 5), .int .i64 (e.ck 6), .slice A1 j c1] 26)
        have HI9 := hide ((HI8.out.below hba).sub huj hcap)
        have hlt9 : ∀ b o, Go.Proofs.YtfeflmpdbejhjaaDoor.sub A1 c1 u = some ⟨b, o, none⟩ → 0 < j - u → b ≠ gf := fun b o ha hn => by have := (HI8.out.sub huj hcap).lt hn ha; omega
        have HA9 := hide (HAC.out.trans (hba.mono HAC.out.size))
        have HO9 := hide (HOA.out.below hba)
        clear hba y0 y1 y2 y3 y4 y5 y6 y7 y8 y9 y10 y11 y12 y13 y14
        generalize w8.alloc (.cells #[.slice (e.t 0).A (e.t 0).n (e.t 0).c, .slice (e.t 1).A (e.t 1).n (e.t 1).c, .slice (e.t 2).A (e.t 2).n (e.t 2).c, .slice (e.t 3).A (e.t 3).n (e.t 3).c, .slice (e.t 4).A (e.t 4).n (e.t 4).c, .slice (e.t 5).A (e.t 5).n (e.t 5).c, .int .i64 e.ix, .int .i64 (e.ck 0), .int .i64 (e.ck 1), .int .i64 (e.ck 2), .int .i64 (e.ck 3), .int .i64 (e.ck 4), .int .i64 (e.ck 5), .int .i64 (e.ck 6), .slice A1 j c1] 26) = w9 at HEC HI9 HA9 HO9 ⊢
        have f14 : w9.cell? ⟨gf, 14, none⟩ = some (.slice A1 j c1) := HEC.out.box.cell 14
        have z14 := HEC.out.box.frozen 14
        have hAgf : ∀ b, blk Aa = some b → b < gf := fun b hb => by have := (HOA.out.blk_ge b hb).2; omega
        go_upto_region 19 with fail
        have HEF := hide (HEC.out.setD (c := c1 - u) (l := ds.drop u) HI9.out (by omega) hlt9)
        have hHO := HEC.out.ownK 14 (.slice (sub A1 c1 u) (j - u) (c1 - u)) HO9.out hAgf
        have HO10 := hide hHO
        clear f14 z14 hHO
        generalize w9.setCell ⟨gf, 14, none⟩ (.slice (sub A1 c1 u) (j - u) (c1 - u)) = w20 at HEF HO10 ⊢
        have HMF := hide (mayE_d HM1.out (d := ds.drop u) (by rw [List.length_drop]; omega) (fun x hx => HD.out x (List.mem_of_mem_drop hx)))
        have HLT := hide (HDR.later ((v.setD ds).setD (ds.drop u)) x rfl HMF.out rfl (fun _ => ⟨rfl, rfl, rfl⟩))
        have HVF := hide (fun W (hb : Below w20.heap.size w20 W) A n c (hl : Runes W A n (nameL k)) (hn : n ≤ 1000) => show Calls Tryd.prog 13 #[.agg #[.slice (e.t 0).A (e.t 0).n (e.t 0).c, .slice (e.t 1).A (e.t 1).n (e.t 1).c, .slice (e.t 2).A (e.t 2).n (e.t 2).c, .slice (e.t 3).A (e.t 3).n (e.t 3).c, .slice (e.t 4).A (e.t 4).n (e.t 4).c, .slice (e.t 5).A (e.t 5).n (e.t 5).c, .int .i64 e.ix, .int .i64 (e.ck 0), .int .i64 (e.ck 1), .int .i64 (e.ck 2), .int .i64 (e.ck 3), .int .i64 (e.ck 4), .int .i64 (e.ck 5), .int .i64 (e.ck 6), .slice (sub A1 c1 u) (j - u) (c1 - u)], .slice A n c, .int .i64 0] W (ValR W (some x) 0) from by
          have h := value_any ((e.setD ⟨A1, j, c1⟩).setD ⟨sub A1 c1 u, j - u, c1 - u⟩) ((v.setD ds).setD (ds.drop u)) A n c (nameL k) 0 W (HEF.out.rd.below hb) hl (by omega) (HT.out _ (HEF.out.bel.trans (hb.mono HEF.out.bel.size)))
          rw [HLT.out] at h
          exact h)
        have HXE := hide (fun W (hb : Below w20.heap.size w20 W) => show W.cell? ⟨gf, 0, none⟩ = some (.slice (e.t 0).A (e.t 0).n (e.t 0).c) ∧ W.cell? ⟨gf, 1, none⟩ = some (.slice (e.t 1).A (e.t 1).n (e.t 1).c) ∧ W.cell? ⟨gf, 2, none⟩ = some (.slice (e.t 2).A (e.t 2).n (e.t 2).c) ∧ W.cell? ⟨gf, 3, none⟩ = some (.slice (e.t 3).A (e.t 3).n (e.t 3).c) ∧ W.cell? ⟨gf, 4, none⟩ = some (.slice (e.t 4).A (e.t 4).n (e.t 4).c) ∧ W.cell? ⟨gf, 5, none⟩ = some (.slice (e.t 5).A (e.t 5).n (e.t 5).c) ∧ W.cell? ⟨gf, 6, none⟩ = some (.int .i64 e.ix) ∧ W.cell? ⟨gf, 7, none⟩ = some (.int .i64 (e.ck 0)) ∧ W.cell? ⟨gf, 8, none⟩ = some (.int .i64 (e.ck 1)) ∧ W.cell? ⟨gf, 9, none⟩ = some (.int .i64 (e.ck 2)) ∧ W.cell? ⟨gf, 10, none⟩ = some (.int .i64 (e.ck 3)) ∧ W.cell? ⟨gf, 11, none⟩ = some (.int .i64 (e.ck 4)) ∧ W.cell? ⟨gf, 12, none⟩ = some (.int .i64 (e.ck 5)) ∧ W.cell? ⟨gf, 13, none⟩ = some (.int .i64 (e.ck 6)) ∧ W.cell? ⟨gf, 14, none⟩ = some (.slice (sub A1 c1 u) (j - u) (c1 - u)) from EnvH.at_ (e := (e.setD ⟨A1, j, c1⟩).setD ⟨sub A1 c1 u, j - u, c1 - u⟩) (HEF.out.box.below hb))
        have hacc := (Below.refl w20.heap.size w20).drew
        obtain ⟨y0, y1, y2, y3, y4, y5, y6, y7, y8, y9, y10, y11, y12, y13, y14⟩ := HXE.out w20 (Below.refl _ _)
        go_region_held3 (fun w' => w'.cell? ⟨gf, 0, none⟩ = some (.slice (e.t 0).A (e.t 0).n (e.t 0).c) ∧ w'.cell? ⟨gf, 1, none⟩ = some (.slice (e.t 1).A (e.t 1).n (e.t 1).c) ∧ w'.cell? ⟨gf, 2, none⟩ = some (.slice (e.t 2).A (e.t 2).n (e.t 2).c) ∧ w'.cell? ⟨gf, 3, none⟩ = some (.slice (e.t 3).A (e.t 3).n (e.t 3).c) ∧ w'.cell? ⟨gf, 4, none⟩ = some (.slice (e.t 4).A (e.t 4).n (e.t 4).c) ∧ w'.cell? ⟨gf, 5, none⟩ = some (.slice (e.t 5).A (e.t 5).n (e.t 5).c) ∧ w'.cell? ⟨gf, 6, none⟩ = some (.int .i64 e.ix) ∧ w'.cell? ⟨gf, 7, none⟩ = some (.int .i64 (e.ck 0)) ∧ w'.cell? ⟨gf, 8, none⟩ = some (.int .i64 (e.ck 1)) ∧ w'.cell? ⟨gf, 9, none⟩ = some (.int .i64 (e.ck 2)) ∧ w'.cell? ⟨gf, 10, none⟩ = some (.int .i64 (e.ck 3)) ∧ w'.cell? ⟨gf, 11, none⟩ = some (.int .i64 (e.ck 4)) ∧ w'.cell? ⟨gf, 12, none⟩ = some (.int .i64 (e.ck 5)) ∧ w'.cell? ⟨gf, 13, none⟩ = some (.int .i64 (e.ck 6)) ∧ w'.cell? ⟨gf, 14, none⟩ = some (.slice (sub A1 c1 u) (j - u) (c1 - u))) (first | go_keep) (first
          | (go_at_call 9; (with_reducible refine (lname_det k _).mono ?_); rintro r wn ⟨An, mn, cn, rfl, hon, hbn, hnn⟩
             have hrn := hon.runes
             have hacc := hacc.trans (hbn.mono hacc.size)
             obtain ⟨y0, y1, y2, y3, y4, y5, y6, y7, y8, y9, y10, y11, y12, y13, y14⟩ := HXE.out wn hacc)
          | (go_at_call 13; (with_reducible refine (HVF.out _ hacc _ _ _ hrn hnn).mono ?_); rintro r w21 ⟨Ab, nb, cb, rfl, hob, hbb⟩
             have hacc := hacc.trans (hbb.mono hacc.size)
             obtain ⟨y0, y1, y2, y3, y4, y5, y6, y7, y8, y9, y10, y11, y12, y13, y14⟩ := HXE.out w21 hacc))
        have HAF := hide hacc
        have hca := HO10.out.cap
        have hcb := hob.cap
        have hxl : x.length = na := HO10.out.len
        have hS := refSame_any Aa Ab na ca nb cb x x w21 (HO10.out.runes.below hacc) hob.runes (by omega) (by omega)
        rw [show sameS x x = true from decide_eq_true rfl] at hS
        have HS := hide hS
        clear hS hob hbb hbn hrn hon hnn hacc hca hcb y0 y1 y2 y3 y4 y5 y6 y7 y8 y9 y10 y11 y12 y13 y14 HVF HXE
        go_wp2_with (first
          | (go_at_call 14; (with_reducible refine HS.out.mono ?_); rintro r w22 ⟨rfl, q22, hw22⟩
             have h22 := belowD HAF.out q22
             rw [← hw22] at h22
             have HK := hide (known16_any w22 (HT.out _ (HEF.out.bel.trans (h22.mono HEF.out.bel.size))))
             clear hw22)
          | (go_at_call 10; (with_reducible refine HK.out.mono ?_); rintro r w23 ⟨rfl, hb23⟩))
        go_ret
        have hbz := HEF.out.bel.trans (h22.mono HEF.out.bel.size)
        exact ⟨rfl, hbz.trans (hb23.mono hbz.size)⟩
      · have hp1 : (0 : Int) < ((by_ : Nat) : Int) := by omega
        have hp0 : (((by_ : Nat) : Int) == 0) = false := by simp; omega
        go_upto_region 16 with fail
        have HEC := hide (show EB w (w8.alloc (.cells #[.slice (e.t 0).A (e.t 0).n (e.t 0).c, .slice (e.t 1).A (e.t 1).n (e.t 1).c, .slice (e.t 2).A (e.t 2).n (e.t 2).c, .slice (e.t 3).A (e.t 3).n (e.t 3).c, .slice (e.t 4).A (e.t 4).n (e.t 4).c, .slice (e.t 5).A (e.t 5).n (e.t 5).c, .int .i64 e.ix, .int .i64 (e.ck 0), .int .i64 (e.ck 1), .int .i64 (e.ck 2), .int .i64 (e.ck 3), .int .i64 (e.ck 4), .int .i64 (e.ck 5), .int .i64 (e.ck 6), .slice A1 j c1] 26)) gf (e.setD ⟨A1, j, c1⟩) (v.setD ds) from HE8.out.copy hgf)
        have hba := (Below.refl w8.heap.size w8).alloc (Nat.le_refl _) (.cells #[.slice (e.t 0).A (e.t 0).n (e.t 0).c, .slice (e.t 1).A (e.t 1).n (e.t 1).c, .slice (e.t 2).A (e.t 2).n (e.t 2).c, .slice (e.t 3).A (e.t 3).n (e.t 3).c, .slice (e.t 4).A (e.t 4).n (e.t 4).c, .slice (e.t 5).A (e.t 5).n (e.t 5).c, .int .i64 e.ix, .int .i64 (e.ck 0), .int .i64 (e.ck 1), .int .i64 (e.ck 2), .int .i64 (e.ck 3), .int .i64 (e.ck 4), .int .i64 (e.ck 5), .int .i64 (e.ck 6), .slice A1 j c1] 26)
        have HI9 := hide ((HI8.out.below hba).sub huj hcap)
        have hlt9 : ∀ b o, Go.Proofs.YtfeflmpdbejhjaaDoor.sub A1 c1 u = some ⟨b, o, none⟩ → 0 < j - u → b ≠ gf := fun b o ha hn => by have := (HI8.out.sub huj hcap).lt hn ha; omega
        have HA9 := hide (HAC.out.trans (hba.mono HAC.out.size))
        have HO9 := hide (HOA.out.below hba)
        clear hba y0 y1 y2 y3 y4 y5 y6 y7 y8 y9 y10 y11 y12 y13 y14
        generalize w8.alloc (.cells #[.slice (e.t 0).A (e.t 0).n (e.t 0).c, .slice (e.t 1).A (e.t 1).n (e.t 1).c, .slice (e.t 2).A (e.t 2).n (e.t 2).c, .slice (e.t 3).A (e.t 3).n (e.t 3).c, .slice (e.t 4).A (e.t 4).n (e.t 4).c, .slice (e.t 5).A (e.t 5).n (e.t 5).c, .int .i64 e.ix, .int .i64 (e.ck 0), .int .i64 (e.ck 1), .int .i64 (e.ck 2), .int .i64 (e.ck 3), .int .i64 (e.ck 4), .int .i64 (e.ck 5), .int .i64 (e.ck 6), .slice A1 j c1] 26) = w9 at HEC HI9 HA9 HO9 ⊢
        have hAgf : ∀ b, blk Aa = some b → b < gf := fun b hb => by have := (HOA.out.blk_ge b hb).2; omega
        obtain ⟨gt, hgt⟩ : ∃ gt, w9.heap.size = gt := ⟨_, rfl⟩
        have hbt := (Below.refl w9.heap.size w9).alloc (Nat.le_refl _) (.cells #[.slice none 0 0, .int .i64 0] 29)
        have HBT := hide hbt
        have HTP := hide (show Tap (w9.alloc (.cells #[.slice none 0 0, .int .i64 0] 29)) gt none 0 0 [] from hgt ▸ Tap.new ⟨rfl, fun j hj => absurd hj (by omega), fun x hx => by cases hx⟩)
        have hfl := HEC.out.box.lt
        have hft : gf ≠ gt := by omega
        have hszt : (w9.alloc (.cells #[.slice none 0 0, .int .i64 0] 29)).heap.size = w9.heap.size + 1 := size_al _ _
        have HSZT := hide hszt
        clear hbt hszt
        go_upto_region 18 with (go_at_call 7; (with_reducible refine (tenv_any gt none 0 0 [] _ HTP.out (by omega)).mono ?_); rintro r w10 ⟨m, mv, B0, rfl, hE0, hM0, hB0, hR0, hT0, -, hG0⟩
                                (unfold EnvH.v EnvH.cells)
                                have hbx10 : Box w10 gf 26 #[.slice (e.t 0).A (e.t 0).n (e.t 0).c, .slice (e.t 1).A (e.t 1).n (e.t 1).c, .slice (e.t 2).A (e.t 2).n (e.t 2).c, .slice (e.t 3).A (e.t 3).n (e.t 3).c, .slice (e.t 4).A (e.t 4).n (e.t 4).c, .slice (e.t 5).A (e.t 5).n (e.t 5).c, .int .i64 e.ix, .int .i64 (e.ck 0), .int .i64 (e.ck 1), .int .i64 (e.ck 2), .int .i64 (e.ck 3), .int .i64 (e.ck 4), .int .i64 (e.ck 5), .int .i64 (e.ck 6), .slice A1 j c1] := (HEC.out.box.below HBT.out).grown hG0 (fun e => hft (by injection e))
                                have f0 : w10.cell? ⟨gf, 0, none⟩ = some (.slice (e.t 0).A (e.t 0).n (e.t 0).c) := hbx10.cell 0
                                have z0 := hbx10.frozen 0
                                have f1 : w10.cell? ⟨gf, 1, none⟩ = some (.slice (e.t 1).A (e.t 1).n (e.t 1).c) := hbx10.cell 1
                                have z1 := hbx10.frozen 1
                                have f2 : w10.cell? ⟨gf, 2, none⟩ = some (.slice (e.t 2).A (e.t 2).n (e.t 2).c) := hbx10.cell 2
                                have z2 := hbx10.frozen 2
                                have f3 : w10.cell? ⟨gf, 3, none⟩ = some (.slice (e.t 3).A (e.t 3).n (e.t 3).c) := hbx10.cell 3
                                have z3 := hbx10.frozen 3
                                have f4 : w10.cell? ⟨gf, 4, none⟩ = some (.slice (e.t 4).A (e.t 4).n (e.t 4).c) := hbx10.cell 4
                                have z4 := hbx10.frozen 4
                                have f5 : w10.cell? ⟨gf, 5, none⟩ = some (.slice (e.t 5).A (e.t 5).n (e.t 5).c) := hbx10.cell 5
                                have z5 := hbx10.frozen 5
                                have f6 : w10.cell? ⟨gf, 6, none⟩ = some (.int .i64 e.ix) := hbx10.cell 6
                                have z6 := hbx10.frozen 6
                                have f7 : w10.cell? ⟨gf, 7, none⟩ = some (.int .i64 (e.ck 0)) := hbx10.cell 7
                                have z7 := hbx10.frozen 7
                                have f8 : w10.cell? ⟨gf, 8, none⟩ = some (.int .i64 (e.ck 1)) := hbx10.cell 8
                                have z8 := hbx10.frozen 8
                                have f9 : w10.cell? ⟨gf, 9, none⟩ = some (.int .i64 (e.ck 2)) := hbx10.cell 9
                                have z9 := hbx10.frozen 9
                                have f10 : w10.cell? ⟨gf, 10, none⟩ = some (.int .i64 (e.ck 3)) := hbx10.cell 10
                                have z10 := hbx10.frozen 10
                                have f11 : w10.cell? ⟨gf, 11, none⟩ = some (.int .i64 (e.ck 4)) := hbx10.cell 11
                                have z11 := hbx10.frozen 11
                                have f12 : w10.cell? ⟨gf, 12, none⟩ = some (.int .i64 (e.ck 5)) := hbx10.cell 12
                                have z12 := hbx10.frozen 12
                                have f13 : w10.cell? ⟨gf, 13, none⟩ = some (.int .i64 (e.ck 6)) := hbx10.cell 13
                                have z13 := hbx10.frozen 13
                                have f14 : w10.cell? ⟨gf, 14, none⟩ = some (.slice A1 j c1) := hbx10.cell 14
                                have z14 := hbx10.frozen 14)
        obtain ⟨hx11, hg11⟩ := set15 hbx10 (.slice (m.t 0).A (m.t 0).n (m.t 0).c) (.slice (m.t 1).A (m.t 1).n (m.t 1).c) (.slice (m.t 2).A (m.t 2).n (m.t 2).c) (.slice (m.t 3).A (m.t 3).n (m.t 3).c) (.slice (m.t 4).A (m.t 4).n (m.t 4).c) (.slice (m.t 5).A (m.t 5).n (m.t 5).c) (.int .i64 m.ix) (.int .i64 (m.ck 0)) (.int .i64 (m.ck 1)) (.int .i64 (m.ck 2)) (.int .i64 (m.ck 3)) (.int .i64 (m.ck 4)) (.int .i64 (m.ck 5)) (.int .i64 (m.ck 6)) (.slice m.d.A m.d.n m.d.c)
        clear f0 z0 f1 z1 f2 z2 f3 z3 f4 z4 f5 z5 f6 z6 f7 z7 f8 z8 f9 z9 f10 z10 f11 z11 f12 z12 f13 z13 f14 z14
        have hb10 : Below w.heap.size w w10 := (HEC.out.bel.trans (HBT.out.mono HEC.out.bel.size)).grown hG0 (HEC.out.bel.trans (HBT.out.mono HEC.out.bel.size)).size (fun j hj => by injection hj with hj; have h1 := HEC.out.bel.size; have h2 := HTP.out.lt; omega)
        have HEC := hide (EB.over hb10 HEC.out.lo hE0 hx11 hg11 (fun i b hb => by have := (hT0 i b hb).1; have := HSZT.out; omega) (fun b hb => by have := (hR0.blk_ge b hb).1; have := HSZT.out; omega))
        have hI10 : IntsR w10 (Go.Proofs.YtfeflmpdbejhjaaDoor.sub A1 c1 u) (j - u) (ds.drop u) := (HI9.out.below HBT.out).keep fun b o ha hn => hG0.block b ((HI9.out.below HBT.out).lt hn ha) (fun e => by injection e with e; have := (HI9.out).lt hn ha; omega)
        have HI9 := hide (hI10.keep (w' := (((((((((((((((w10.setCell ⟨gf, 0, none⟩ (.slice (m.t 0).A (m.t 0).n (m.t 0).c)).setCell ⟨gf, 1, none⟩ (.slice (m.t 1).A (m.t 1).n (m.t 1).c)).setCell ⟨gf, 2, none⟩ (.slice (m.t 2).A (m.t 2).n (m.t 2).c)).setCell ⟨gf, 3, none⟩ (.slice (m.t 3).A (m.t 3).n (m.t 3).c)).setCell ⟨gf, 4, none⟩ (.slice (m.t 4).A (m.t 4).n (m.t 4).c)).setCell ⟨gf, 5, none⟩ (.slice (m.t 5).A (m.t 5).n (m.t 5).c)).setCell ⟨gf, 6, none⟩ (.int .i64 m.ix)).setCell ⟨gf, 7, none⟩ (.int .i64 (m.ck 0))).setCell ⟨gf, 8, none⟩ (.int .i64 (m.ck 1))).setCell ⟨gf, 9, none⟩ (.int .i64 (m.ck 2))).setCell ⟨gf, 10, none⟩ (.int .i64 (m.ck 3))).setCell ⟨gf, 11, none⟩ (.int .i64 (m.ck 4))).setCell ⟨gf, 12, none⟩ (.int .i64 (m.ck 5))).setCell ⟨gf, 13, none⟩ (.int .i64 (m.ck 6))).setCell ⟨gf, 14, none⟩ (.slice m.d.A m.d.n m.d.c))) fun b o ha hn => hg11.block b (hI10.lt hn ha) (fun e => hlt9 b o ha hn (by injection e)))
        have hO10 : Own w10 w6.heap.size Aa na ca ((some x).getD []) := (HO9.out.below HBT.out).kept hG0 (by
          cases hb : blk Aa with
          | none => exact .inl rfl
          | some b => exact .inr fun e => by have := hAgf b hb; injection e with e; omega)
        have HO9 := hide (hO10.kept hg11 (by
          cases hb : blk Aa with
          | none => exact .inl rfl
          | some b => exact .inr fun e => by have := hAgf b hb; injection e with e; omega))
        have HM0 := hide hM0
        clear hgt hI10 hO10 hbx10 hx11 hg11 hE0 hM0 hB0 hR0 hT0 hG0 hb10 HBT HTP HSZT
        generalize (((((((((((((((w10.setCell ⟨gf, 0, none⟩ (.slice (m.t 0).A (m.t 0).n (m.t 0).c)).setCell ⟨gf, 1, none⟩ (.slice (m.t 1).A (m.t 1).n (m.t 1).c)).setCell ⟨gf, 2, none⟩ (.slice (m.t 2).A (m.t 2).n (m.t 2).c)).setCell ⟨gf, 3, none⟩ (.slice (m.t 3).A (m.t 3).n (m.t 3).c)).setCell ⟨gf, 4, none⟩ (.slice (m.t 4).A (m.t 4).n (m.t 4).c)).setCell ⟨gf, 5, none⟩ (.slice (m.t 5).A (m.t 5).n (m.t 5).c)).setCell ⟨gf, 6, none⟩ (.int .i64 m.ix)).setCell ⟨gf, 7, none⟩ (.int .i64 (m.ck 0))).setCell ⟨gf, 8, none⟩ (.int .i64 (m.ck 1))).setCell ⟨gf, 9, none⟩ (.int .i64 (m.ck 2))).setCell ⟨gf, 10, none⟩ (.int .i64 (m.ck 3))).setCell ⟨gf, 11, none⟩ (.int .i64 (m.ck 4))).setCell ⟨gf, 12, none⟩ (.int .i64 (m.ck 5))).setCell ⟨gf, 13, none⟩ (.int .i64 (m.ck 6))).setCell ⟨gf, 14, none⟩ (.slice m.d.A m.d.n m.d.c)) = w11 at HEC HI9 HO9 ⊢
        have f14 : w11.cell? ⟨gf, 14, none⟩ = some (.slice m.d.A m.d.n m.d.c) := HEC.out.box.cell 14
        have z14 := HEC.out.box.frozen 14
        go_upto_region 19 with fail
        have HEF := hide (HEC.out.setD (c := c1 - u) (l := ds.drop u) HI9.out (by omega) hlt9)
        have hHO := HEC.out.ownK 14 (.slice (sub A1 c1 u) (j - u) (c1 - u)) HO9.out hAgf
        have HO10 := hide hHO
        clear f14 z14 hHO
        generalize w11.setCell ⟨gf, 14, none⟩ (.slice (sub A1 c1 u) (j - u) (c1 - u)) = w20 at HEF HO10 ⊢
        have HMF := hide (mayE_d HM0.out (d := ds.drop u) (by rw [List.length_drop]; omega) (fun x hx => HD.out x (List.mem_of_mem_drop hx)))
        have HLT := hide (HDR.later (mv.setD (ds.drop u)) x rfl HMF.out rfl (fun h => absurd h (by omega)))
        have HVF := hide (fun W (hb : Below w20.heap.size w20 W) A n c (hl : Runes W A n (nameL k)) (hn : n ≤ 1000) => show Calls Tryd.prog 13 #[.agg #[.slice (m.t 0).A (m.t 0).n (m.t 0).c, .slice (m.t 1).A (m.t 1).n (m.t 1).c, .slice (m.t 2).A (m.t 2).n (m.t 2).c, .slice (m.t 3).A (m.t 3).n (m.t 3).c, .slice (m.t 4).A (m.t 4).n (m.t 4).c, .slice (m.t 5).A (m.t 5).n (m.t 5).c, .int .i64 m.ix, .int .i64 (m.ck 0), .int .i64 (m.ck 1), .int .i64 (m.ck 2), .int .i64 (m.ck 3), .int .i64 (m.ck 4), .int .i64 (m.ck 5), .int .i64 (m.ck 6), .slice (sub A1 c1 u) (j - u) (c1 - u)], .slice A n c, .int .i64 0] W (ValR W (some x) ((by_ : Nat) : Int)) from by
          have h := value_any (m.setD ⟨sub A1 c1 u, j - u, c1 - u⟩) (mv.setD (ds.drop u)) A n c (nameL k) 0 W (HEF.out.rd.below hb) hl (by omega) (HT.out _ (HEF.out.bel.trans (hb.mono HEF.out.bel.size)))
          rw [HLT.out] at h
          exact h)
        have HXE := hide (fun W (hb : Below w20.heap.size w20 W) => show W.cell? ⟨gf, 0, none⟩ = some (.slice (m.t 0).A (m.t 0).n (m.t 0).c) ∧ W.cell? ⟨gf, 1, none⟩ = some (.slice (m.t 1).A (m.t 1).n (m.t 1).c) ∧ W.cell? ⟨gf, 2, none⟩ = some (.slice (m.t 2).A (m.t 2).n (m.t 2).c) ∧ W.cell? ⟨gf, 3, none⟩ = some (.slice (m.t 3).A (m.t 3).n (m.t 3).c) ∧ W.cell? ⟨gf, 4, none⟩ = some (.slice (m.t 4).A (m.t 4).n (m.t 4).c) ∧ W.cell? ⟨gf, 5, none⟩ = some (.slice (m.t 5).A (m.t 5).n (m.t 5).c) ∧ W.cell? ⟨gf, 6, none⟩ = some (.int .i64 m.ix) ∧ W.cell? ⟨gf, 7, none⟩ = some (.int .i64 (m.ck 0)) ∧ W.cell? ⟨gf, 8, none⟩ = some (.int .i64 (m.ck 1)) ∧ W.cell? ⟨gf, 9, none⟩ = some (.int .i64 (m.ck 2)) ∧ W.cell? ⟨gf, 10, none⟩ = some (.int .i64 (m.ck 3)) ∧ W.cell? ⟨gf, 11, none⟩ = some (.int .i64 (m.ck 4)) ∧ W.cell? ⟨gf, 12, none⟩ = some (.int .i64 (m.ck 5)) ∧ W.cell? ⟨gf, 13, none⟩ = some (.int .i64 (m.ck 6)) ∧ W.cell? ⟨gf, 14, none⟩ = some (.slice (sub A1 c1 u) (j - u) (c1 - u)) from EnvH.at_ (e := m.setD ⟨sub A1 c1 u, j - u, c1 - u⟩) (HEF.out.box.below hb))
        have hacc := (Below.refl w20.heap.size w20).drew
        obtain ⟨y0, y1, y2, y3, y4, y5, y6, y7, y8, y9, y10, y11, y12, y13, y14⟩ := HXE.out w20 (Below.refl _ _)
        go_region_held3 (fun w' => w'.cell? ⟨gf, 0, none⟩ = some (.slice (m.t 0).A (m.t 0).n (m.t 0).c) ∧ w'.cell? ⟨gf, 1, none⟩ = some (.slice (m.t 1).A (m.t 1).n (m.t 1).c) ∧ w'.cell? ⟨gf, 2, none⟩ = some (.slice (m.t 2).A (m.t 2).n (m.t 2).c) ∧ w'.cell? ⟨gf, 3, none⟩ = some (.slice (m.t 3).A (m.t 3).n (m.t 3).c) ∧ w'.cell? ⟨gf, 4, none⟩ = some (.slice (m.t 4).A (m.t 4).n (m.t 4).c) ∧ w'.cell? ⟨gf, 5, none⟩ = some (.slice (m.t 5).A (m.t 5).n (m.t 5).c) ∧ w'.cell? ⟨gf, 6, none⟩ = some (.int .i64 m.ix) ∧ w'.cell? ⟨gf, 7, none⟩ = some (.int .i64 (m.ck 0)) ∧ w'.cell? ⟨gf, 8, none⟩ = some (.int .i64 (m.ck 1)) ∧ w'.cell? ⟨gf, 9, none⟩ = some (.int .i64 (m.ck 2)) ∧ w'.cell? ⟨gf, 10, none⟩ = some (.int .i64 (m.ck 3)) ∧ w'.cell? ⟨gf, 11, none⟩ = some (.int .i64 (m.ck 4)) ∧ w'.cell? ⟨gf, 12, none⟩ = some (.int .i64 (m.ck 5)) ∧ w'.cell? ⟨gf, 13, none⟩ = some (.int .i64 (m.ck 6)) ∧ w'.cell? ⟨gf, 14, none⟩ = some (.slice (sub A1 c1 u) (j - u) (c1 - u))) (first | go_keep) (first
          | (go_at_call 9; (with_reducible refine (lname_det k _).mono ?_); rintro r wn ⟨An, mn, cn, rfl, hon, hbn, hnn⟩
             have hrn := hon.runes
             have hacc := hacc.trans (hbn.mono hacc.size)
             obtain ⟨y0, y1, y2, y3, y4, y5, y6, y7, y8, y9, y10, y11, y12, y13, y14⟩ := HXE.out wn hacc)
          | (go_at_call 13; (with_reducible refine (HVF.out _ hacc _ _ _ hrn hnn).mono ?_); rintro r w21 ⟨Ab, nb, cb, rfl, hob, hbb⟩
             have hacc := hacc.trans (hbb.mono hacc.size)
             obtain ⟨y0, y1, y2, y3, y4, y5, y6, y7, y8, y9, y10, y11, y12, y13, y14⟩ := HXE.out w21 hacc))
        have HAF := hide hacc
        have hca := HO10.out.cap
        have hcb := hob.cap
        have hxl : x.length = na := HO10.out.len
        have hS := refSame_any Aa Ab na ca nb cb x x w21 (HO10.out.runes.below hacc) hob.runes (by omega) (by omega)
        rw [show sameS x x = true from decide_eq_true rfl] at hS
        have HS := hide hS
        clear hS hob hbb hbn hrn hon hnn hacc hca hcb y0 y1 y2 y3 y4 y5 y6 y7 y8 y9 y10 y11 y12 y13 y14 HVF HXE
        rcases HDR.six (by omega) x rfl with h6 | h6
        · obtain rfl : na = 6 := by omega
          clear hxl h6
          go_wp2_with (first
            | (go_at_call 14; (with_reducible refine HS.out.mono ?_); rintro r w22 ⟨rfl, q22, hw22⟩
               have h22 := belowD HAF.out q22
               rw [← hw22] at h22
               have HK := hide (known16_any w22 (HT.out _ (HEF.out.bel.trans (h22.mono HEF.out.bel.size))))
               clear hw22)
            | (go_at_call 10; (with_reducible refine HK.out.mono ?_); rintro r w23 ⟨rfl, hb23⟩))
          go_ret
          have hbz := HEF.out.bel.trans (h22.mono HEF.out.bel.size)
          exact ⟨rfl, hbz.trans (hb23.mono hbz.size)⟩
        · obtain rfl : na = 36 := by omega
          clear hxl h6
          go_wp2_with (first
            | (go_at_call 14; (with_reducible refine HS.out.mono ?_); rintro r w22 ⟨rfl, q22, hw22⟩
               have h22 := belowD HAF.out q22
               rw [← hw22] at h22
               have HK := hide (known16_any w22 (HT.out _ (HEF.out.bel.trans (h22.mono HEF.out.bel.size))))
               clear hw22)
            | (go_at_call 10; (with_reducible refine HK.out.mono ?_); rintro r w23 ⟨rfl, hb23⟩))
          go_ret
          have hbz := HEF.out.bel.trans (h22.mono HEF.out.bel.size)
          exact ⟨rfl, hbz.trans (hb23.mono hbz.size)⟩
end Go.Proofs.YtfeflmpdbejhjaaDoor
