/- The walk of standishlaw25.ObjectAround: it answers true. -/
import Derived.Test.YtkfihnkghiajiaaAroundP
import Derived.Test.YtkfihnkghiajiaaKnown25
import Derived.IntWalk
namespace Go.Proofs.Ytkfihnkghiajiaa
open Go.RowKit
set_option linter.unusedVariables false

set_option maxRecDepth 100000 in
set_option maxHeartbeats 8000000 in
theorem around25_any (Z : Option Addr) (m c : Nat) (at_ obj : Int) (z : List Int) (w : World) (hZ : IntsR w Z m z) (hm : m ≤ 35184372088832) :
    Calls Try.prog 11 #[.slice Z m c, .int .i64 at_, .int .i64 obj] w fun e w' => e = .returned (.bool true) ∧ Below w.heap.size w w' := by
  have HZ := hide hZ
  clear hZ
  go_enter Try.func11, Try.ntmps11
  go_wp2_with fail
  refine (text_any 40 w.heap.size Z m c z _ (Tap.new HZ.out) (by omega) hm).mono ?_
  rintro e w2 ⟨U, ku, cu, u, rfl, hku, hou, _, _, hg2⟩
  have hb2 : Below w.heap.size w w2 := ((Below.refl _ w).alloc (Nat.le_refl _) (.cells #[.slice Z m c, .int .i64 0] 39)).grown hg2 (by simp) (fun k h => by cases h; exact Nat.le_refl _)
  have HU := hide hou.runes
  have HL := hide hou.len
  have hcu := hou.cap
  have HB2 := hide hb2
  clear hou hg2 hb2 HZ
  have hio : idxN obj 6 < 6 := idxN_lt (by omega)
  have hia : idxN at_ (ku + 1) < ku + 1 := idxN_lt (by omega)
  go_wp2_with fail
  refine (index_any obj 6 _ (by omega) (by omega)).mono ?_
  rintro e w' ⟨rfl, rfl⟩
  rw [show (6 : Int).toNat = 6 from rfl]
  generalize idxN obj 6 = io at hio ⊢
  go_wp2_with fail
  refine (index_any at_ ((ku : Int) + 1) _ (by omega) (by omega)).mono ?_
  rintro e w' ⟨rfl, rfl⟩
  rw [show ((ku : Int) + 1).toNat = ku + 1 by omega]
  generalize idxN at_ (ku + 1) = a at hia ⊢
  have HA := hide (around_law (s := u) (at_ := a) (o := 1 + (io : Int)) (by omega) (by omega))
  rcases HA.out with ⟨h1, h2⟩ | ⟨f, t, F, T, h1, h2, har⟩
  · have H1 := hide (fun W (hW : Runes W U ku u) => ospan_any U ku cu a (1 + (io : Int)) false u W 0 0 false hW (by omega) hcu.1 hcu.2 (by rw [h1]; rfl) (by rw [h1]; rfl) (by rw [h1]; rfl))
    have H2 := hide (fun W (hW : Runes W U ku u) => ospan_any U ku cu a (1 + (io : Int)) true u W 0 0 false hW (by omega) hcu.1 hcu.2 (by rw [h2]; rfl) (by rw [h2]; rfl) (by rw [h2]; rfl))
    clear HA h1 h2
    go_wp2_with fail
    refine (H1.out _ HU.out).mono ?_
    rintro e w3 ⟨rfl, hb3⟩
    have HB3 := hide (HB2.out.trans (hb3.mono HB2.out.size))
    have HU3 := hide ((HU.out.below hb3).alloc (.cells #[.int .i64 0, .int .i64 0] 47))
    clear hb3
    obtain ⟨g1, hg1⟩ : ∃ g, w3.heap.size = g := ⟨_, rfl⟩
    have HX1 := hide (Box.newAt hg1 47 #[.int .i64 0, .int .i64 0])
    have HBa1 := hide (HB3.out.alloc HB3.out.size (.cells #[.int .i64 0, .int .i64 0] 47))
    go_wp2_with fail
    refine (H2.out _ HU3.out).mono ?_
    generalize hW1 : (w3.alloc (.cells #[.int .i64 0, .int .i64 0] 47)) = W1 at HX1 HBa1 HU3 ⊢
    clear hW1 hg1
    rintro e w4 ⟨rfl, hb4⟩
    have HB4 := hide (HBa1.out.trans (hb4.mono HBa1.out.size))
    have HX2 := hide (HX1.out.below hb4)
    clear hb4
    obtain ⟨g2, hg2⟩ : ∃ g, w4.heap.size = g := ⟨_, rfl⟩
    have HBa2 := hide (HB4.out.alloc HB4.out.size (.cells #[.int .i64 0, .int .i64 0] 47))
    obtain ⟨⟨x0, x1⟩, _⟩ := (HX2.out.alloc (.cells #[.int .i64 0, .int .i64 0] 47)).c2
    go_wp2_with fail
    refine (known25_any _).mono ?_
    rintro e w5 ⟨rfl, hb5⟩
    have HB5 := hide (HBa2.out.trans (hb5.mono HBa2.out.size))
    clear hb5
    go_wp2_with fail
    go_ret
    exact ⟨rfl, HB5.out⟩
  · have H1 := hide (fun W (hW : Runes W U ku u) => ospan_any U ku cu a (1 + (io : Int)) false u W f t true hW (by omega) hcu.1 hcu.2 (by rw [h1]; rfl) (by rw [h1]; rfl) (by rw [h1]; rfl))
    have H2 := hide (fun W (hW : Runes W U ku u) => ospan_any U ku cu a (1 + (io : Int)) true u W F T true hW (by omega) hcu.1 hcu.2 (by rw [h2]; rfl) (by rw [h2]; rfl) (by rw [h2]; rfl))
    have har' : F ≤ f ∧ f ≤ t ∧ t ≤ T ∧ T ≤ ku ∧ a < T := by
      obtain ⟨a1, a2, a3, a4, a5, _⟩ := har
      rw [HL.out] at a4
      exact ⟨a1, a2, a3, a4, a5⟩
    obtain ⟨a1, a2, a3, a4, a5⟩ := har'
    have HR := hide har.2.2.2.2.2
    clear HA h1 h2 har
    go_wp2_with fail
    refine (H1.out _ HU.out).mono ?_
    rintro e w3 ⟨rfl, hb3⟩
    have HB3 := hide (HB2.out.trans (hb3.mono HB2.out.size))
    have HU3 := hide ((HU.out.below hb3).alloc (.cells #[.int .i64 f, .int .i64 t] 47))
    clear hb3
    obtain ⟨g1, hg1⟩ : ∃ g, w3.heap.size = g := ⟨_, rfl⟩
    have HX1 := hide (Box.newAt hg1 47 #[.int .i64 f, .int .i64 t])
    have HBa1 := hide (HB3.out.alloc HB3.out.size (.cells #[.int .i64 f, .int .i64 t] 47))
    go_wp2_with fail
    refine (H2.out _ HU3.out).mono ?_
    generalize hW1 : (w3.alloc (.cells #[.int .i64 f, .int .i64 t] 47)) = W1 at HX1 HBa1 HU3 ⊢
    clear hW1 hg1
    rintro e w4 ⟨rfl, hb4⟩
    have HB4 := hide (HBa1.out.trans (hb4.mono HBa1.out.size))
    have HX2 := hide (HX1.out.below hb4)
    have HU4 := hide ((HU3.out.below hb4).alloc (.cells #[.int .i64 F, .int .i64 T] 47))
    clear hb4
    obtain ⟨g2, hg2⟩ : ∃ g, w4.heap.size = g := ⟨_, rfl⟩
    have HBa2 := hide (HB4.out.alloc HB4.out.size (.cells #[.int .i64 F, .int .i64 T] 47))
    have HX3 := hide (HX2.out.alloc (.cells #[.int .i64 F, .int .i64 T] 47))
    have HY3 := hide (Box.newAt hg2 47 #[.int .i64 F, .int .i64 T])
    obtain ⟨⟨x0, x1⟩, _⟩ := HX3.out.c2
    have b1 : ((F : Int) ≤ f) := by omega
    have b2 : ((f : Int) ≤ t) := by omega
    have b3 : ((t : Int) ≤ T) := by omega
    have b4 : ((T : Int) ≤ ku) := by omega
    have b5 : ((a : Int) < T) := by omega
    rcases HR.out with ⟨q1, q2, q3, q4⟩ | ⟨q1, q2, q3, q4, q5⟩
    · obtain rfl : io = 0 := by omega
      have c1 : (f : Int) ≤ a := by omega
      have c2 : (a : Int) < t := by omega
      by_cases hfF : f = F
      · subst hfF
        clear q1 q2 q3 q4 HR H1 H2
        go_wp2_with fail
        refine (known25_any _).mono ?_
        rintro e w5 ⟨rfl, hb5⟩
        have HB5 := hide (HBa2.out.trans (hb5.mono HBa2.out.size))
        clear hb5
        go_wp2_with fail
        go_ret
        exact ⟨rfl, HB5.out⟩
      · obtain rfl : t = T := by omega
        have hne : ((f : Int) == (F : Int)) = false := by simp; omega
        clear q1 q2 q3 q4 HR H1 H2 hfF
        go_wp2_with fail
        refine (known25_any _).mono ?_
        rintro e w5 ⟨rfl, hb5⟩
        have HB5 := hide (HBa2.out.trans (hb5.mono HBa2.out.size))
        clear hb5
        go_wp2_with fail
        go_ret
        exact ⟨rfl, HB5.out⟩
    · have q1' : ((1 + (io : Int)) == 1) = false := by simpa using q1
      obtain ⟨ub, uo, rfl, hcF⟩ := HU4.out.at_ F (by omega)
      obtain ⟨ub', uo', hE, hcT⟩ := HU4.out.at_ t (by omega)
      cases hE
      rw [q4] at hcF
      rw [q5] at hcT
      obtain ⟨o, ho⟩ : ∃ o : Nat, 1 + (io : Int) = (o : Int) := ⟨1 + io, by omega⟩
      rw [ho] at hcF hcT q1' ⊢
      have ho2 : 2 ≤ o ∧ o ≤ 6 := by omega
      have e1 : (T : Int) - 1 = (t : Int) := by omega
      have e2 : ((f : Int) == (F : Int) + 1) = true := by simp; omega
      have w1 := hide (show IntKind.i64.wrap ((F : Int) + 1) = (f : Int) by rw [IntWalk.i64_in _ (by omega)]; omega)
      have w2 := hide (show IntKind.i64.wrap ((T : Int) - 1) = (t : Int) by rw [IntWalk.i64_in _ (by omega)]; omega)
      have n0 : (0 : Int) ≤ (F : Int) := by omega
      have n1 : (F : Int) < (ku : Int) := by omega
      have n2 : (0 : Int) ≤ (t : Int) := by omega
      have n3 : (t : Int) < (ku : Int) := by omega
      have n4 : (0 : Int) ≤ (o : Int) := by omega
      have n5 : (o : Int) < 7 := by omega
      have HCF := hide hcF
      have HCT := hide hcT
      clear q1 q2 q3 q4 q5 HR H1 H2 ho hcF hcT
      go_wp2_with fail
      generalize hW5 : World.alloc (w4.alloc _) _ = W5
      have hbx : Box W5 (g2 + 1) 51 #[.int .i32 0, .int .i32 0, .int .i32 0, .int .i32 0, .int .i32 40, .int .i32 41, .int .i32 91, .int .i32 93, .int .i32 123, .int .i32 125, .int .i32 34, .int .i32 34, .int .i32 39, .int .i32 39] := by
        subst hW5
        exact Box.newAt (by simp [hg2]) _ _
      have hbW : Below (w4.alloc (.cells #[.int .i64 F, .int .i64 T] 47)).heap.size (w4.alloc (.cells #[.int .i64 F, .int .i64 T] 47)) W5 := by
        subst hW5
        exact (Below.refl _ _).alloc (Nat.le_refl _) _
      have HX5 := hide (HX3.out.below hbW)
      have HY5 := hide (HY3.out.below hbW)
      have HU5 := hide (HU4.out.below hbW)
      have HB5 := hide (HBa2.out.trans (hbW.mono HBa2.out.size))
      obtain ⟨cp, cq⟩ : W5.cell? ⟨g2 + 1, o * 2, none⟩ = some (.int .i32 (opS o)) ∧ W5.cell? ⟨g2 + 1, o * 2 + 1, none⟩ = some (.int .i32 (clS o)) := by
        have hc : o = 2 ∨ o = 3 ∨ o = 4 ∨ o = 5 ∨ o = 6 := by omega
        rcases hc with rfl | rfl | rfl | rfl | rfl
        all_goals exact ⟨(hbx.cell _).trans rfl, (hbx.cell _).trans rfl⟩
      clear hW5 hg2 x0 x1
      obtain ⟨⟨x0, x1⟩, _⟩ := HX5.out.c2
      obtain ⟨⟨y0, y1⟩, _⟩ := HY5.out.c2
      have cF := (hbW.cell (p := ⟨ub, uo + F, none⟩) (World.block_lt_of_cell? _ _ HCF.out)).trans HCF.out
      have cT := (hbW.cell (p := ⟨ub, uo + t, none⟩) (World.block_lt_of_cell? _ _ HCT.out)).trans HCT.out
      clear hbx hbW
      generalize opS o = po at cp cF
      generalize clS o = qo at cq cT
      have v1 := w1.out
      have v2 := w2.out
      clear e1 e2 w1 w2
      go_region_held3 (fun w' => w'.cell? ⟨g1, 0, none⟩ = some (.int .i64 f) ∧ w'.cell? ⟨g1, 1, none⟩ = some (.int .i64 t) ∧ w'.cell? ⟨g2, 0, none⟩ = some (.int .i64 F) ∧ w'.cell? ⟨g2, 1, none⟩ = some (.int .i64 T) ∧
          w'.cell? ⟨g2 + 1, o * 2, none⟩ = some (.int .i32 po) ∧ w'.cell? ⟨g2 + 1, o * 2 + 1, none⟩ = some (.int .i32 qo) ∧ w'.cell? ⟨ub, uo + F, none⟩ = some (.int .i32 po) ∧ w'.cell? ⟨ub, uo + t, none⟩ = some (.int .i32 qo))
        (first | go_keep)
        ((go_at_call 33; (with_reducible refine (known25_any _).mono ?_); rintro e w5 ⟨rfl, hb5⟩; have k0 := (hb5.cell (p := ⟨g1, 0, none⟩) (World.block_lt_of_cell? W5 _ x0)).trans x0; have k1 := (hb5.cell (p := ⟨g1, 1, none⟩) (World.block_lt_of_cell? W5 _ x1)).trans x1; have k2 := (hb5.cell (p := ⟨g2, 0, none⟩) (World.block_lt_of_cell? W5 _ y0)).trans y0; have k3 := (hb5.cell (p := ⟨g2, 1, none⟩) (World.block_lt_of_cell? W5 _ y1)).trans y1; have k4 := (hb5.cell (p := ⟨g2 + 1, o * 2, none⟩) (World.block_lt_of_cell? W5 _ cp)).trans cp; have k5 := (hb5.cell (p := ⟨g2 + 1, o * 2 + 1, none⟩) (World.block_lt_of_cell? W5 _ cq)).trans cq; have k6 := (hb5.cell (p := ⟨ub, uo + F, none⟩) (World.block_lt_of_cell? W5 _ cF)).trans cF; have k7 := (hb5.cell (p := ⟨ub, uo + t, none⟩) (World.block_lt_of_cell? W5 _ cT)).trans cT))
      have HB6 := hide ((HB5.out.drew).trans (hb5.mono HB5.out.size))
      clear hb5 x0 x1 y0 y1 cp cq cF cT k0 k1 k2 k3 k4 k5 k6 k7
      go_wp2_with fail
      go_ret
      exact ⟨rfl, HB6.out⟩
end Go.Proofs.Ytkfihnkghiajiaa
