/- The walk of VarsTells. -/
import Derived.Test.YtfeflmpdbejhjaaDoorKnown16
namespace Go.Proofs.YtfeflmpdbejhjaaDoor
open Go.RowKit
set_option linter.unusedVariables false

set_option maxRecDepth 100000 in
set_option maxHeartbeats 8000000 in
theorem varsTells_any (e : EnvH) (v : EnvV) (A : Option Addr) (n c : Nat) (l : List Int) (Z : Option Addr) (zn zc : Nat) (z : List Int) (k used : Int) (w : World) (hE : EnvR w e v) (hl : Runes w A n l) (hn : n ≤ 35184372088832) (hz : IntsR w Z zn z) (hzn : zn ≤ 35184372088832) (hT : Tabs w) :
    Calls Tryd.prog 3 #[e.v, .slice A n c, .slice Z zn zc, .int .i64 k, .int .i64 used] w fun r w' => r = .returned (.bool true) ∧ Below w.heap.size w w' := by
  obtain ⟨ge, hge⟩ : ∃ ge, w.heap.size = ge := ⟨_, rfl⟩
  have hb1 := (Below.refl w.heap.size w).alloc (Nat.le_refl _) (.cells e.cells 26)
  have HB := hide hb1
  have HX := hide (Box.newAt hge 26 e.cells)
  have HE := hide (hE.below hb1)
  have HL := hide (hl.below hb1)
  have HZ := hide (hz.below hb1)
  have HT := hide (hT.below hb1)
  clear hb1 hE hl hz hT
  unfold EnvH.v EnvH.cells
  unfold EnvH.cells at HB HX HE HL HZ HT
  go_enter Tryd.func3, Tryd.ntmps3
  go_upto_region 1 with fail
  generalize w.alloc (.cells #[.slice (e.t 0).A (e.t 0).n (e.t 0).c, .slice (e.t 1).A (e.t 1).n (e.t 1).c, .slice (e.t 2).A (e.t 2).n (e.t 2).c, .slice (e.t 3).A (e.t 3).n (e.t 3).c, .slice (e.t 4).A (e.t 4).n (e.t 4).c, .slice (e.t 5).A (e.t 5).n (e.t 5).c, .int .i64 e.ix, .int .i64 (e.ck 0), .int .i64 (e.ck 1), .int .i64 (e.ck 2), .int .i64 (e.ck 3), .int .i64 (e.ck 4), .int .i64 (e.ck 5), .int .i64 (e.ck 6), .slice e.d.A e.d.n e.d.c] 26) = w1 at HB HX HE HL HZ HT ⊢
  have hge1 : ge < w1.heap.size := HX.out.lt
  obtain ⟨g, hg⟩ : ∃ g, w1.heap.size = g := ⟨_, rfl⟩
  have HB0 := hide ((Below.refl w1.heap.size w1).alloc (Nat.le_refl _) (.cells #[.slice Z zn zc, .int .i64 0] 29))
  have HT0 := hide (show Tap (w1.alloc (.cells #[.slice Z zn zc, .int .i64 0] 29)) g Z zn zc z from hg ▸ Tap.new HZ.out)
  go_upto_region 2 with (go_at_call 7; (with_reducible refine (tenv_any g Z zn zc z _ HT0.out hzn).mono ?_); rintro r w2 ⟨m, mv, B', rfl, hM, -, -, -, -, -, hG⟩; (unfold EnvH.v EnvH.cells))
  have hb2 : Below w1.heap.size w1 w2 := HB0.out.grown hG HB0.out.size (fun j hj => by injection hj with hj; omega)
  obtain ⟨gm, hgm⟩ : ∃ gm, w2.heap.size = gm := ⟨_, rfl⟩
  rw [hgm]
  have hbm := (Below.refl w2.heap.size w2).alloc (Nat.le_refl _) (.cells #[.slice (m.t 0).A (m.t 0).n (m.t 0).c, .slice (m.t 1).A (m.t 1).n (m.t 1).c, .slice (m.t 2).A (m.t 2).n (m.t 2).c, .slice (m.t 3).A (m.t 3).n (m.t 3).c, .slice (m.t 4).A (m.t 4).n (m.t 4).c, .slice (m.t 5).A (m.t 5).n (m.t 5).c, .int .i64 m.ix, .int .i64 (m.ck 0), .int .i64 (m.ck 1), .int .i64 (m.ck 2), .int .i64 (m.ck 3), .int .i64 (m.ck 4), .int .i64 (m.ck 5), .int .i64 (m.ck 6), .slice m.d.A m.d.n m.d.c] 26)
  have hb3 := hb2.trans (hbm.mono hb2.size)
  have HXMM := hide (Box.newAt hgm 26 #[.slice (m.t 0).A (m.t 0).n (m.t 0).c, .slice (m.t 1).A (m.t 1).n (m.t 1).c, .slice (m.t 2).A (m.t 2).n (m.t 2).c, .slice (m.t 3).A (m.t 3).n (m.t 3).c, .slice (m.t 4).A (m.t 4).n (m.t 4).c, .slice (m.t 5).A (m.t 5).n (m.t 5).c, .int .i64 m.ix, .int .i64 (m.ck 0), .int .i64 (m.ck 1), .int .i64 (m.ck 2), .int .i64 (m.ck 3), .int .i64 (m.ck 4), .int .i64 (m.ck 5), .int .i64 (m.ck 6), .slice m.d.A m.d.n m.d.c])
  have HM := hide (hM.below hbm)
  clear hb2 hM hG HB0 HT0 hbm
  generalize w2.alloc (.cells #[.slice (m.t 0).A (m.t 0).n (m.t 0).c, .slice (m.t 1).A (m.t 1).n (m.t 1).c, .slice (m.t 2).A (m.t 2).n (m.t 2).c, .slice (m.t 3).A (m.t 3).n (m.t 3).c, .slice (m.t 4).A (m.t 4).n (m.t 4).c, .slice (m.t 5).A (m.t 5).n (m.t 5).c, .int .i64 m.ix, .int .i64 (m.ck 0), .int .i64 (m.ck 1), .int .i64 (m.ck 2), .int .i64 (m.ck 3), .int .i64 (m.ck 4), .int .i64 (m.ck 5), .int .i64 (m.ck 6), .slice m.d.A m.d.n m.d.c] 26) = w3 at hb3 HXMM HM ⊢
  have HE3 := hide (HE.out.below hb3)
  have HL3 := hide (HL.out.below hb3)
  have HT3 := hide (HT.out.below hb3)
  have HX3 := hide (HX.out.below hb3)
  have HB3 := hide (HB.out.trans (hb3.mono HB.out.size))
  clear HE HL HT HX HB hb3 hgm hg hge HZ hge1
  have HXE := hide (fun W (hb : Below w3.heap.size w3 W) => show W.cell? ⟨ge, 0, none⟩ = some (.slice (e.t 0).A (e.t 0).n (e.t 0).c) ∧ W.cell? ⟨ge, 1, none⟩ = some (.slice (e.t 1).A (e.t 1).n (e.t 1).c) ∧ W.cell? ⟨ge, 2, none⟩ = some (.slice (e.t 2).A (e.t 2).n (e.t 2).c) ∧ W.cell? ⟨ge, 3, none⟩ = some (.slice (e.t 3).A (e.t 3).n (e.t 3).c) ∧ W.cell? ⟨ge, 4, none⟩ = some (.slice (e.t 4).A (e.t 4).n (e.t 4).c) ∧ W.cell? ⟨ge, 5, none⟩ = some (.slice (e.t 5).A (e.t 5).n (e.t 5).c) ∧ W.cell? ⟨ge, 6, none⟩ = some (.int .i64 e.ix) ∧ W.cell? ⟨ge, 7, none⟩ = some (.int .i64 (e.ck 0)) ∧ W.cell? ⟨ge, 8, none⟩ = some (.int .i64 (e.ck 1)) ∧ W.cell? ⟨ge, 9, none⟩ = some (.int .i64 (e.ck 2)) ∧ W.cell? ⟨ge, 10, none⟩ = some (.int .i64 (e.ck 3)) ∧ W.cell? ⟨ge, 11, none⟩ = some (.int .i64 (e.ck 4)) ∧ W.cell? ⟨ge, 12, none⟩ = some (.int .i64 (e.ck 5)) ∧ W.cell? ⟨ge, 13, none⟩ = some (.int .i64 (e.ck 6)) ∧ W.cell? ⟨ge, 14, none⟩ = some (.slice e.d.A e.d.n e.d.c) from EnvH.at_ (HX3.out.below hb))
  have HXM := hide (fun W (hb : Below w3.heap.size w3 W) => show W.cell? ⟨gm, 0, none⟩ = some (.slice (m.t 0).A (m.t 0).n (m.t 0).c) ∧ W.cell? ⟨gm, 1, none⟩ = some (.slice (m.t 1).A (m.t 1).n (m.t 1).c) ∧ W.cell? ⟨gm, 2, none⟩ = some (.slice (m.t 2).A (m.t 2).n (m.t 2).c) ∧ W.cell? ⟨gm, 3, none⟩ = some (.slice (m.t 3).A (m.t 3).n (m.t 3).c) ∧ W.cell? ⟨gm, 4, none⟩ = some (.slice (m.t 4).A (m.t 4).n (m.t 4).c) ∧ W.cell? ⟨gm, 5, none⟩ = some (.slice (m.t 5).A (m.t 5).n (m.t 5).c) ∧ W.cell? ⟨gm, 6, none⟩ = some (.int .i64 m.ix) ∧ W.cell? ⟨gm, 7, none⟩ = some (.int .i64 (m.ck 0)) ∧ W.cell? ⟨gm, 8, none⟩ = some (.int .i64 (m.ck 1)) ∧ W.cell? ⟨gm, 9, none⟩ = some (.int .i64 (m.ck 2)) ∧ W.cell? ⟨gm, 10, none⟩ = some (.int .i64 (m.ck 3)) ∧ W.cell? ⟨gm, 11, none⟩ = some (.int .i64 (m.ck 4)) ∧ W.cell? ⟨gm, 12, none⟩ = some (.int .i64 (m.ck 5)) ∧ W.cell? ⟨gm, 13, none⟩ = some (.int .i64 (m.ck 6)) ∧ W.cell? ⟨gm, 14, none⟩ = some (.slice m.d.A m.d.n m.d.c) from EnvH.at_ (HXMM.out.below hb))
  have HSE := hide (fun W (hb : Below w3.heap.size w3 W) A n c l used (hl : Runes W A n l) (hn : n ≤ 35184372088832) => show Calls Tryd.prog 8 #[.agg #[.slice (e.t 0).A (e.t 0).n (e.t 0).c, .slice (e.t 1).A (e.t 1).n (e.t 1).c, .slice (e.t 2).A (e.t 2).n (e.t 2).c, .slice (e.t 3).A (e.t 3).n (e.t 3).c, .slice (e.t 4).A (e.t 4).n (e.t 4).c, .slice (e.t 5).A (e.t 5).n (e.t 5).c, .int .i64 e.ix, .int .i64 (e.ck 0), .int .i64 (e.ck 1), .int .i64 (e.ck 2), .int .i64 (e.ck 3), .int .i64 (e.ck 4), .int .i64 (e.ck 5), .int .i64 (e.ck 6), .slice e.d.A e.d.n e.d.c], .slice A n c, .int .i64 used] W (fun r w' => r = .returned (.bool true) ∧ Below W.heap.size W w') from same16_any e v A n c l used W (HE3.out.below hb) hl hn (HT3.out.below hb))
  have HSM := hide (fun W (hb : Below w3.heap.size w3 W) A n c l used (hl : Runes W A n l) (hn : n ≤ 35184372088832) => show Calls Tryd.prog 8 #[.agg #[.slice (m.t 0).A (m.t 0).n (m.t 0).c, .slice (m.t 1).A (m.t 1).n (m.t 1).c, .slice (m.t 2).A (m.t 2).n (m.t 2).c, .slice (m.t 3).A (m.t 3).n (m.t 3).c, .slice (m.t 4).A (m.t 4).n (m.t 4).c, .slice (m.t 5).A (m.t 5).n (m.t 5).c, .int .i64 m.ix, .int .i64 (m.ck 0), .int .i64 (m.ck 1), .int .i64 (m.ck 2), .int .i64 (m.ck 3), .int .i64 (m.ck 4), .int .i64 (m.ck 5), .int .i64 (m.ck 6), .slice m.d.A m.d.n m.d.c], .slice A n c, .int .i64 used] W (fun r w' => r = .returned (.bool true) ∧ Below W.heap.size W w') from same16_any m mv A n c l used W (HM.out.below hb) hl hn (HT3.out.below hb))
  have HLL := hide (fun W (hb : Below w3.heap.size w3 W) => HL3.out.below hb)
  have HTT := hide (fun W (hb : Below w3.heap.size w3 W) => HT3.out.below hb)
  have hacc := (Below.refl w3.heap.size w3).drew
  obtain ⟨y0, y1, y2, y3, y4, y5, y6, y7, y8, y9, y10, y11, y12, y13, y14⟩ := HXE.out w3 (Below.refl _ _)
  obtain ⟨x0, x1, x2, x3, x4, x5, x6, x7, x8, x9, x10, x11, x12, x13, x14⟩ := HXM.out w3 (Below.refl _ _)
  go_region_held3 (fun w' => w'.cell? ⟨ge, 0, none⟩ = some (.slice (e.t 0).A (e.t 0).n (e.t 0).c) ∧ w'.cell? ⟨ge, 1, none⟩ = some (.slice (e.t 1).A (e.t 1).n (e.t 1).c) ∧ w'.cell? ⟨ge, 2, none⟩ = some (.slice (e.t 2).A (e.t 2).n (e.t 2).c) ∧ w'.cell? ⟨ge, 3, none⟩ = some (.slice (e.t 3).A (e.t 3).n (e.t 3).c) ∧ w'.cell? ⟨ge, 4, none⟩ = some (.slice (e.t 4).A (e.t 4).n (e.t 4).c) ∧ w'.cell? ⟨ge, 5, none⟩ = some (.slice (e.t 5).A (e.t 5).n (e.t 5).c) ∧ w'.cell? ⟨ge, 6, none⟩ = some (.int .i64 e.ix) ∧ w'.cell? ⟨ge, 7, none⟩ = some (.int .i64 (e.ck 0)) ∧ w'.cell? ⟨ge, 8, none⟩ = some (.int .i64 (e.ck 1)) ∧ w'.cell? ⟨ge, 9, none⟩ = some (.int .i64 (e.ck 2)) ∧ w'.cell? ⟨ge, 10, none⟩ = some (.int .i64 (e.ck 3)) ∧ w'.cell? ⟨ge, 11, none⟩ = some (.int .i64 (e.ck 4)) ∧ w'.cell? ⟨ge, 12, none⟩ = some (.int .i64 (e.ck 5)) ∧ w'.cell? ⟨ge, 13, none⟩ = some (.int .i64 (e.ck 6)) ∧ w'.cell? ⟨ge, 14, none⟩ = some (.slice e.d.A e.d.n e.d.c) ∧ w'.cell? ⟨gm, 0, none⟩ = some (.slice (m.t 0).A (m.t 0).n (m.t 0).c) ∧ w'.cell? ⟨gm, 1, none⟩ = some (.slice (m.t 1).A (m.t 1).n (m.t 1).c) ∧ w'.cell? ⟨gm, 2, none⟩ = some (.slice (m.t 2).A (m.t 2).n (m.t 2).c) ∧ w'.cell? ⟨gm, 3, none⟩ = some (.slice (m.t 3).A (m.t 3).n (m.t 3).c) ∧ w'.cell? ⟨gm, 4, none⟩ = some (.slice (m.t 4).A (m.t 4).n (m.t 4).c) ∧ w'.cell? ⟨gm, 5, none⟩ = some (.slice (m.t 5).A (m.t 5).n (m.t 5).c) ∧ w'.cell? ⟨gm, 6, none⟩ = some (.int .i64 m.ix) ∧ w'.cell? ⟨gm, 7, none⟩ = some (.int .i64 (m.ck 0)) ∧ w'.cell? ⟨gm, 8, none⟩ = some (.int .i64 (m.ck 1)) ∧ w'.cell? ⟨gm, 9, none⟩ = some (.int .i64 (m.ck 2)) ∧ w'.cell? ⟨gm, 10, none⟩ = some (.int .i64 (m.ck 3)) ∧ w'.cell? ⟨gm, 11, none⟩ = some (.int .i64 (m.ck 4)) ∧ w'.cell? ⟨gm, 12, none⟩ = some (.int .i64 (m.ck 5)) ∧ w'.cell? ⟨gm, 13, none⟩ = some (.int .i64 (m.ck 6)) ∧ w'.cell? ⟨gm, 14, none⟩ = some (.slice m.d.A m.d.n m.d.c)) (first | go_keep) (first
    | (go_at_call 8; (with_reducible refine (HSE.out _ hacc _ _ _ _ _ (HLL.out _ hacc) hn).mono ?_); rintro r wn ⟨rfl, hbn⟩
       have hacc := hacc.trans (hbn.mono hacc.size)
       obtain ⟨y0, y1, y2, y3, y4, y5, y6, y7, y8, y9, y10, y11, y12, y13, y14⟩ := HXE.out wn hacc
       obtain ⟨x0, x1, x2, x3, x4, x5, x6, x7, x8, x9, x10, x11, x12, x13, x14⟩ := HXM.out wn hacc)
    | (go_at_call 8; (with_reducible refine (HSM.out _ hacc _ _ _ _ _ (HLL.out _ hacc) hn).mono ?_); rintro r wn ⟨rfl, hbn⟩
       have hacc := hacc.trans (hbn.mono hacc.size)
       obtain ⟨y0, y1, y2, y3, y4, y5, y6, y7, y8, y9, y10, y11, y12, y13, y14⟩ := HXE.out wn hacc
       obtain ⟨x0, x1, x2, x3, x4, x5, x6, x7, x8, x9, x10, x11, x12, x13, x14⟩ := HXM.out wn hacc)
    | (go_at_call 9; (with_reducible refine (lname_any k _).mono ?_); rintro r wn ⟨An, nn, cn, ln, rfl, hon, hbn, hnn⟩
       have hrn := hon.runes
       have hnn2 : nn ≤ 35184372088832 := by omega
       have hacc := hacc.trans (hbn.mono hacc.size)
       obtain ⟨y0, y1, y2, y3, y4, y5, y6, y7, y8, y9, y10, y11, y12, y13, y14⟩ := HXE.out wn hacc
       obtain ⟨x0, x1, x2, x3, x4, x5, x6, x7, x8, x9, x10, x11, x12, x13, x14⟩ := HXM.out wn hacc)
    | (go_at_call 8; (with_reducible refine (HSE.out _ hacc _ _ _ _ _ hrn hnn2).mono ?_); rintro r wn ⟨rfl, hbn⟩
       have hacc := hacc.trans (hbn.mono hacc.size)
       obtain ⟨y0, y1, y2, y3, y4, y5, y6, y7, y8, y9, y10, y11, y12, y13, y14⟩ := HXE.out wn hacc
       obtain ⟨x0, x1, x2, x3, x4, x5, x6, x7, x8, x9, x10, x11, x12, x13, x14⟩ := HXM.out wn hacc)
    | (go_at_call 8; (with_reducible refine (HSM.out _ hacc _ _ _ _ _ hrn hnn2).mono ?_); rintro r wn ⟨rfl, hbn⟩
       have hacc := hacc.trans (hbn.mono hacc.size)
       obtain ⟨y0, y1, y2, y3, y4, y5, y6, y7, y8, y9, y10, y11, y12, y13, y14⟩ := HXE.out wn hacc
       obtain ⟨x0, x1, x2, x3, x4, x5, x6, x7, x8, x9, x10, x11, x12, x13, x14⟩ := HXM.out wn hacc)
    | (go_at_call 10; (with_reducible refine (known16_any _ (HTT.out _ hacc)).mono ?_); rintro r wn ⟨rfl, hbn⟩
       have hacc := hacc.trans (hbn.mono hacc.size)
       obtain ⟨y0, y1, y2, y3, y4, y5, y6, y7, y8, y9, y10, y11, y12, y13, y14⟩ := HXE.out wn hacc
       obtain ⟨x0, x1, x2, x3, x4, x5, x6, x7, x8, x9, x10, x11, x12, x13, x14⟩ := HXM.out wn hacc))
  have HAC := hide hacc
  clear hacc
  go_wp2_with fail
  go_ret
  exact ⟨rfl, HB3.out.trans (HAC.out.mono HB3.out.size)⟩
end Go.Proofs.YtfeflmpdbejhjaaDoor
