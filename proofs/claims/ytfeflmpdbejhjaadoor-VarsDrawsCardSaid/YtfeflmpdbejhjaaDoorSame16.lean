/- standishlaw16.same: it answers true, whatever the environment, the name and the place. -/
import Derived.Test.YtfeflmpdbejhjaaDoorValRf
namespace Go.Proofs.YtfeflmpdbejhjaaDoor
open Go.RowKit
set_option linter.unusedVariables false

set_option maxRecDepth 100000 in
set_option maxHeartbeats 8000000 in
theorem same16_any (e : EnvH) (v : EnvV) (A : Option Addr) (n c : Nat) (l : List Int) (used : Int) (w : World) (hE : EnvR w e v) (hl : Runes w A n l) (hn : n ≤ 35184372088832) (hT : Tabs w) :
    Calls Tryd.prog 8 #[e.v, .slice A n c, .int .i64 used] w fun r w' => r = .returned (.bool true) ∧ Below w.heap.size w w' := by
  obtain ⟨g, hg⟩ : ∃ g, w.heap.size = g := ⟨_, rfl⟩
  have hb1 := (Below.refl w.heap.size w).alloc (Nat.le_refl _) (.cells e.cells 26)
  have HB := hide hb1
  have HX := hide (Box.newAt hg 26 e.cells)
  have HE := hide (hE.below hb1)
  have HL := hide (hl.below hb1)
  have HT := hide (hT.below hb1)
  clear hb1 hE hl hT
  unfold EnvH.v EnvH.cells
  unfold EnvH.cells at HB HX HE HL HT
  go_enter Tryd.func8, Tryd.ntmps8
  go_upto_region 1 with fail
  generalize w.alloc (.cells #[.slice (e.t 0).A (e.t 0).n (e.t 0).c, .slice (e.t 1).A (e.t 1).n (e.t 1).c, .slice (e.t 2).A (e.t 2).n (e.t 2).c, .slice (e.t 3).A (e.t 3).n (e.t 3).c, .slice (e.t 4).A (e.t 4).n (e.t 4).c, .slice (e.t 5).A (e.t 5).n (e.t 5).c, .int .i64 e.ix, .int .i64 (e.ck 0), .int .i64 (e.ck 1), .int .i64 (e.ck 2), .int .i64 (e.ck 3), .int .i64 (e.ck 4), .int .i64 (e.ck 5), .int .i64 (e.ck 6), .slice e.d.A e.d.n e.d.c] 26) = w1 at HB HX HE HL HT ⊢
  have HVA := hide (fun W (hb : Below w1.heap.size w1 W) => value_any e v A n c l used W (HE.out.below hb) (HL.out.below hb) hn (HT.out.below hb))
  have HVR := hide (fun W (hb : Below w1.heap.size w1 W) => rvalue_any e v A n c l used W (HE.out.below hb) (HL.out.below hb) hn (HT.out.below hb))
  have HMA := hide (fun W (hb : Below w1.heap.size w1 W) => vmay_any e v W (HE.out.below hb))
  have HMR := hide (fun W (hb : Below w1.heap.size w1 W) => mayEnv_any e v W (HE.out.below hb))
  have HXB := hide (fun W (hb : Below w1.heap.size w1 W) => EnvH.at_ (HX.out.below hb))
  unfold EnvH.v EnvH.cells at HVA HVR HMA HMR
  generalize (valE v l used).1 = o at HVA HVR
  generalize (valE v l used).2 = u at HVA HVR
  generalize mayE v = mm at HMA HMR
  obtain ⟨y0, y1, y2, y3, y4, y5, y6, y7, y8, y9, y10, y11, y12, y13, y14⟩ := HXB.out w1 (Below.refl _ _)
  go_upto_region 3 with (first
    | (go_at_call 13; (with_reducible refine (HVA.out w1 (Below.refl _ _)).mono ?_); rintro r w2 ⟨A2, n2, c2, rfl, ho2, hb2⟩
       obtain ⟨y0, y1, y2, y3, y4, y5, y6, y7, y8, y9, y10, y11, y12, y13, y14⟩ := HXB.out w2 hb2)
    | (go_at_call 18; (with_reducible refine (HVR.out w2 hb2).mono ?_); rintro r w3 ⟨A3, n3, c3, rfl, ho3, hb3⟩
       have hb13 := hb2.trans (hb3.mono hb2.size)
       obtain ⟨y0, y1, y2, y3, y4, y5, y6, y7, y8, y9, y10, y11, y12, y13, y14⟩ := HXB.out w3 hb13))
  have hl2 : n2 ≤ 9223372036854775807 := by have := ho2.cap; omega
  have hl3 : n3 ≤ 9223372036854775807 := by have := ho3.cap; omega
  have HS := hide (fun W (hb : Below w3.heap.size w3 W) => refSame_any A2 A3 n2 c2 n3 c3 (o.getD []) (o.getD []) W ((ho2.below hb3).below hb).runes (ho3.below hb).runes hl2 hl3)
  have HSS := hide (show sameS (o.getD []) (o.getD []) = true from decide_eq_true rfl)
  have HO2 := hide ho2
  have HO3 := hide ho3
  have HB2 := hide hb2
  have HB3 := hide hb3
  have HB13 := hide hb13
  clear ho2 ho3 hb2 hb3 hb13
  generalize o.isSome = os
  go_region_held3 (fun w' => w'.cell? ⟨g, 0, none⟩ = some (.slice (e.t 0).A (e.t 0).n (e.t 0).c) ∧ w'.cell? ⟨g, 1, none⟩ = some (.slice (e.t 1).A (e.t 1).n (e.t 1).c) ∧ w'.cell? ⟨g, 2, none⟩ = some (.slice (e.t 2).A (e.t 2).n (e.t 2).c) ∧ w'.cell? ⟨g, 3, none⟩ = some (.slice (e.t 3).A (e.t 3).n (e.t 3).c) ∧ w'.cell? ⟨g, 4, none⟩ = some (.slice (e.t 4).A (e.t 4).n (e.t 4).c) ∧ w'.cell? ⟨g, 5, none⟩ = some (.slice (e.t 5).A (e.t 5).n (e.t 5).c) ∧ w'.cell? ⟨g, 6, none⟩ = some (.int .i64 e.ix) ∧ w'.cell? ⟨g, 7, none⟩ = some (.int .i64 (e.ck 0)) ∧ w'.cell? ⟨g, 8, none⟩ = some (.int .i64 (e.ck 1)) ∧ w'.cell? ⟨g, 9, none⟩ = some (.int .i64 (e.ck 2)) ∧ w'.cell? ⟨g, 10, none⟩ = some (.int .i64 (e.ck 3)) ∧ w'.cell? ⟨g, 11, none⟩ = some (.int .i64 (e.ck 4)) ∧ w'.cell? ⟨g, 12, none⟩ = some (.int .i64 (e.ck 5)) ∧ w'.cell? ⟨g, 13, none⟩ = some (.int .i64 (e.ck 6)) ∧ w'.cell? ⟨g, 14, none⟩ = some (.slice e.d.A e.d.n e.d.c)) (first | go_keep) (first
      | (go_at_call 14; (with_reducible refine (HS.out _ (Below.refl w3.heap.size w3).drew).mono ?_); rw [HSS.out]; rintro r w4 ⟨rfl, q, rfl⟩)
      | (go_at_call 19; (with_reducible refine (HMA.out _ (by first | exact belowD HB13.out.drew _ | exact belowD HB13.out _ | exact HB13.out.drew)).mono ?_); rintro r w5 ⟨rfl, hb5⟩
         have hb35 : Below w3.heap.size w3 w5 := (by first | exact (belowD (Below.refl w3.heap.size w3).drew _).trans hb5 | exact (belowD (Below.refl w3.heap.size w3) _).trans hb5)
         have hb15 : Below w1.heap.size w1 w5 := HB13.out.trans (hb35.mono HB13.out.size)
         obtain ⟨y0, y1, y2, y3, y4, y5, y6, y7, y8, y9, y10, y11, y12, y13, y14⟩ := HXB.out w5 hb15)
      | (go_at_call 20; (with_reducible refine (HMR.out w5 hb15).mono ?_); rintro r w6 ⟨rfl, hb6⟩
         have hb36 : Below w3.heap.size w3 w6 := hb35.trans (hb6.mono hb35.size)
         have hb16 : Below w1.heap.size w1 w6 := HB13.out.trans (hb36.mono HB13.out.size)
         obtain ⟨y0, y1, y2, y3, y4, y5, y6, y7, y8, y9, y10, y11, y12, y13, y14⟩ := HXB.out w6 hb16))
  have HB36 := hide hb36
  have HB16 := hide hb16
  clear hb36 hb16 hb6 hb5 hb35 hb15
  have ho2' := (HO2.out.below HB3.out).below HB36.out
  have ho3' := HO3.out.below HB36.out
  have HSP := hide (spoil_any w1.heap.size A2 n2 c2 (o.getD []) w6 ho2')
  have HBK2 := hide (fun g hg => (ho2'.blk_ge g hg).1)
  have HO3' := hide ho3'
  have HNE := hide (show blk A3 = none ∨ blk A3 ≠ blk A2 from by
    cases h3 : blk A3 with
    | none => exact .inl rfl
    | some b3 =>
      refine .inr fun e => ?_
      have h1 := (HO3.out.blk_ge b3 h3).1
      have h2 := (HO2.out.blk_ge b3 e.symm).2
      omega)
  clear ho2' ho3'
  go_wp2_with (first
    | (go_at_call 21; (with_reducible refine HSP.out.mono ?_); rintro r w7 ⟨rfl, -, hg7⟩
       have hb17 : Below w1.heap.size w1 w7 := HB16.out.grown hg7 HB16.out.size (fun g hg => HBK2.out g hg)
       have ho37 := HO3'.out.kept hg7 HNE.out
       obtain ⟨y0, y1, y2, y3, y4, y5, y6, y7, y8, y9, y10, y11, y12, y13, y14⟩ := HXB.out w7 hb17)
    | (go_at_call 13; (with_reducible refine (HVA.out w7 hb17).mono ?_); rintro r w8 ⟨A4, n4, c4, rfl, ho4, hb4⟩
       have hl4 : n4 ≤ 9223372036854775807 := by have := ho4.cap; omega
       have hS := refSame_any A4 A3 n4 c4 n3 c3 (o.getD []) (o.getD []) w8 ho4.runes (ho37.below hb4).runes hl4 hl3
       have HB8 := hide (hb17.trans (hb4.mono hb17.size))
       have HS8 := hide hS
       clear hS)
    | (go_at_call 14; (with_reducible refine HS8.out.mono ?_); rw [HSS.out]; rintro r w9 ⟨rfl, q9, rfl⟩))
  go_ret
  exact ⟨rfl, belowD (HB.out.trans (HB8.out.mono HB.out.size)) _⟩
end Go.Proofs.YtfeflmpdbejhjaaDoor
