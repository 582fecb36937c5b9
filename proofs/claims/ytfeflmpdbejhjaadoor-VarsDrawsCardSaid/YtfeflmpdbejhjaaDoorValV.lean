/- vars.Value: what a variable tells. -/
import Derived.Test.YtfeflmpdbejhjaaDoorValP
import Derived.Deep.CutBlock
import Derived.Deep.DeepCutAuto
namespace Go.Proofs.YtfeflmpdbejhjaaDoor
open Go.RowKit
set_option linter.unusedVariables false

/-- What Value answers: a slice of the call's own, whether there is one, how many draws are used. -/
def ValR (w : World) (o : Option (List Int)) (u : Int) (e : Ending) (w' : World) : Prop :=
  ∃ A n c, e = .returned (.tuple #[.slice A n c, .bool o.isSome, .int .i64 u]) ∧ Own w' w.heap.size A n c (o.getD []) ∧ Below w.heap.size w w'
theorem val_none {w w1 : World} (hb : Below w.heap.size w w1) {x : Option (List Int) × Int} {u : Int} (e : x = (none, u)) : ValR w x.1 x.2 (.returned (.tuple #[.slice none 0 0, .bool false, .int .i64 u])) w1 := by
  subst e
  exact ⟨_, _, _, rfl, Own.nil _ _, hb⟩
theorem val_some {w w4 w5 : World} {P : ByteArray} (hb : Below w.heap.size w w4) (hb5 : Below w4.heap.size w4 w5) (hs : P.size ≤ 1000000) {x : Option (List Int) × Int} {u : Int} (e : x = (some (plainS P), u)) {v1 v2 v3 : Value} (h1 : v1 = .slice (some ⟨w5.heap.size, 0, none⟩) P.size (capI w5 P.size)) (h2 : v2 = .bool true) (h3 : v3 = .int .i64 u) : ValR w x.1 x.2 (.returned (.tuple #[v1, v2, v3])) (toR w5 P) := by
  subst e h1 h2 h3
  have hb1 := hb.trans (hb5.mono hb.size)
  exact ⟨_, _, _, rfl, (own_toR P hs w5).mono hb1.size, hb1.trans ((below_toR P w5).mono hb1.size)⟩
theorem val_own {w w5 w6 : World} {A : Option Addr} {n c : Nat} {o : Option (List Int)} (hb : Below w.heap.size w w5) (hb6 : Below w5.heap.size w5 w6) (ho : Own w6 w5.heap.size A n c (o.getD [])) {x : Option (List Int) × Int} {u : Int} (e : x = (o, u)) {v1 v2 v3 : Value} (h1 : v1 = .slice A n c) (h2 : v2 = .bool o.isSome) (h3 : v3 = .int .i64 u) : ValR w x.1 x.2 (.returned (.tuple #[v1, v2, v3])) w6 := by
  subst e h1 h2 h3
  exact ⟨_, _, _, rfl, ho.mono hb.size, hb.trans (hb6.mono hb.size)⟩
theorem toR_keep {W : World} {P : ByteArray} {a : Addr} {x : Value} (h : W.cell? a = some x) : (toR W P).cell? a = some x :=
  ((below_toR P W).cell (World.block_lt_of_cell? W _ h)).trans h

set_option maxRecDepth 100000 in
set_option maxHeartbeats 8000000 in
theorem value_any (e : EnvH) (v : EnvV) (A : Option Addr) (n c : Nat) (l : List Int) (used : Int) (w : World) (hE : EnvR w e v) (hl : Runes w A n l) (hn : n ≤ 35184372088832) (hT : Tabs w) :
    Calls Tryd.prog 13 #[e.v, .slice A n c, .int .i64 used] w (ValR w (valE v l used).1 (valE v l used).2) := by
  obtain ⟨g, hg⟩ : ∃ g, w.heap.size = g := ⟨_, rfl⟩
  have hb1 := (Below.refl w.heap.size w).alloc (Nat.le_refl _) (.cells e.cells 26)
  have hb2 := hb1.alloc hb1.size (.cells #[.int .i64 used] 3)
  have hg2 : (w.alloc (.cells e.cells 26)).heap.size = g + 1 := by rw [size_al, hg]
  have HB := hide hb2
  have HX := hide ((Box.newAt hg 26 e.cells).alloc (.cells #[.int .i64 used] 3))
  have HU := hide (Box.newAt hg2 3 #[.int .i64 used])
  have HE := hide (hE.below hb2)
  have HL := hide (hl.below hb2)
  have HT := hide (hT.below hb2)
  clear hb1 hb2 hE hl hT hg2
  unfold EnvH.v EnvH.cells
  unfold EnvH.cells at HB HX HE HU HL HT
  go_enter Tryd.func13, Tryd.ntmps13
  go_upto_region 1 with fail
  generalize ((w.alloc (.cells #[.slice (e.t 0).A (e.t 0).n (e.t 0).c, .slice (e.t 1).A (e.t 1).n (e.t 1).c, .slice (e.t 2).A (e.t 2).n (e.t 2).c, .slice (e.t 3).A (e.t 3).n (e.t 3).c, .slice (e.t 4).A (e.t 4).n (e.t 4).c, .slice (e.t 5).A (e.t 5).n (e.t 5).c, .int .i64 e.ix, .int .i64 (e.ck 0), .int .i64 (e.ck 1), .int .i64 (e.ck 2), .int .i64 (e.ck 3), .int .i64 (e.ck 4), .int .i64 (e.ck 5), .int .i64 (e.ck 6), .slice e.d.A e.d.n e.d.c] 26)).alloc (.cells #[.int .i64 used] 3)) = w2 at HB HX HE HU HL HT ⊢
  have HP := hide (vmay_any e v w2 HE.out)
  unfold EnvH.v EnvH.cells at HP
  have HS := hide (fun W (hb : Below w2.heap.size w2 W) => may_any A n c l W (HL.out.below hb) (by omega))
  have hu0 := HU.out.cell 0
  dsimp at hu0
  obtain ⟨x0, x1, x2, x3, x4, x5, x6, x7, x8, x9, x10, x11, x12, x13, x14⟩ := EnvH.at_ HX.out
  generalize g + 1 = g2 at HU hu0 ⊢
  cases hm : mayE v
  case false =>
    have HA := hide (valE_no (v := v) (l := l) (used := used) (fun h => by rw [hm] at h; cases h.1))
    rw [hm] at HP
    go_wp2_with (first
      | (go_at_call 19; (with_reducible refine HP.out.mono ?_); rintro r w3 ⟨rfl, hb3⟩; have hu3 := (hb3.cell (p := ⟨g2, 0, none⟩) HU.out.lt).trans hu0))
    go_quiet (fail)
    go_wp2
    go_ret3
    exact val_none (belowD (HB.out.trans (hb3.mono HB.out.size)) _) HA.out
  case true =>
  rw [hm] at HP
  by_cases hu1 : used < 0
  case pos =>
    have HA := hide (valE_no (v := v) (l := l) (used := used) (fun h => by omega))
    go_wp2_with (first
      | (go_at_call 19; (with_reducible refine HP.out.mono ?_); rintro r w3 ⟨rfl, hb3⟩; have hu3 := (hb3.cell (p := ⟨g2, 0, none⟩) HU.out.lt).trans hu0))
    go_quiet (fail)
    go_wp2
    go_ret3
    exact val_none (belowD (HB.out.trans (hb3.mono HB.out.size)) _) HA.out
  case neg =>
  by_cases hu2 : 1000 < used
  case pos =>
    have HA := hide (valE_no (v := v) (l := l) (used := used) (fun h => by omega))
    go_wp2_with (first
      | (go_at_call 19; (with_reducible refine HP.out.mono ?_); rintro r w3 ⟨rfl, hb3⟩; have hu3 := (hb3.cell (p := ⟨g2, 0, none⟩) HU.out.lt).trans hu0))
    go_quiet (fail)
    go_wp2
    go_ret3
    exact val_none (belowD (HB.out.trans (hb3.mono HB.out.size)) _) HA.out
  case neg =>
  cases hs : mayS l
  case false =>
    have HA := hide (valE_no (v := v) (l := l) (used := used) (fun h => by rw [hs] at h; cases h.2.2.2))
    rw [hs] at HS
    go_wp2_with (first
      | (go_at_call 19; (with_reducible refine HP.out.mono ?_); rintro r w3 ⟨rfl, hb3⟩; have hu3 := (hb3.cell (p := ⟨g2, 0, none⟩) HU.out.lt).trans hu0)
      | (go_at_call 22; (with_reducible refine (HS.out w3 hb3).mono ?_); rintro r w' ⟨rfl, rfl⟩))
    go_quiet (fail)
    go_wp2
    go_ret3
    exact val_none (belowD (HB.out.trans (hb3.mono HB.out.size)) _) HA.out
  case true =>
  rw [hs] at HS
  obtain ⟨u, rfl⟩ : ∃ u : Nat, used = (u : Int) := ⟨used.toNat, by omega⟩
  have hu : u ≤ 1000 := by omega
  obtain ⟨hN, hd⟩ := envN_of HE.out hm
  have HN := hide hN
  have HA := hide (valE_yes (v := v) (l := l) hm hu hs)
  have HDR := hide (fun W (hb : Below w2.heap.size w2 W) => drawn_any e v g2 g u hu (runesBytes l) W (HE.out.below hb) hd (HT.out.below hb) ((hb.cell (p := ⟨g2, 0, none⟩) HU.out.lt).trans hu0) ((hb.cell (p := ⟨g, 14, none⟩) HX.out.lt).trans x14))
  have HTO := hide (fun W (hb : Below w2.heap.size w2 W) => told_any e v (uN v) (cN v) (runesBytes l) W (HE.out.below hb) hN (HT.out.below hb))
  unfold EnvH.v EnvH.cells at HTO
  have HCV := hide (fun W (hb : Below w2.heap.size w2 W) => run_toString c (HL.out.below hb))
  have HAS := hide (drawnB_asc v.d u (runesBytes l).toList)
  have HLE := hide (drawnB_len hd u (runesBytes l).toList)
  have HBY := hide (drawnB_by v.d u (runesBytes l).toList)
  unfold valS at HA
  clear hN hd hm hs
  generalize runesBytes l = S at HA HDR HTO HCV HAS HLE HBY
  generalize drawnB v.d u S.toList = o at HA HDR HAS HLE HBY
  obtain ⟨X, k⟩ := o
  by_cases hk : 0 < k
  case pos =>
    rw [if_pos hk] at HA
    have hk2 : (0 : Int) < (k : Int) := by omega
    have hk5 : k ≤ 5 := HBY.out
    have hX : (⟨X.toArray⟩ : ByteArray).size ≤ 1000000 := by rw [ba_size]; have := HLE.out; dsimp at this; omega
    have hcv := fun W => run_toR ⟨X.toArray⟩ (asc_list HAS.out) hX W
    rw [← plainS_ru] at HA
    have HX := hide hX
    clear hX
    dsimp only at HDR
    generalize (⟨X.toArray⟩ : ByteArray) = P at HA HDR HX hcv
    clear HTO HLE HAS HBY
    go_upto_region 6 with (first
      | (go_at_call 19; (with_reducible refine HP.out.mono ?_); rintro r w3 ⟨rfl, hb3⟩; have hu3 := (hb3.cell (p := ⟨g2, 0, none⟩) HU.out.lt).trans hu0)
      | (go_at_call 22; (with_reducible refine (HS.out w3 hb3).mono ?_); rintro r w' ⟨rfl, rfl⟩; have hcv3 := HCV.out w3 hb3)
      | (go_at_call 24; (with_reducible refine (HDR.out w3 hb3).mono ?_); rintro r w4 ⟨rfl, hb4⟩
         have hb24 := hb3.trans (hb4.mono hb3.size)
         have hu4 := (hb24.cell (p := ⟨g2, 0, none⟩) HU.out.lt).trans hu0))
    have hw1 : IntKind.i64.wrap (((u : Nat) : Int) + ((k : Nat) : Int)) = ((u : Nat) : Int) + ((k : Nat) : Int) := by rw [IntKind.wrap_i64]; omega
    have hr1 : (toR w4 P).cell? ⟨g2, 0, none⟩ = some (.int .i64 ((u : Nat) : Int)) := toR_keep hu4
    have hr2 : (toR w4.drew P).cell? ⟨g2, 0, none⟩ = some (.int .i64 ((u : Nat) : Int)) := toR_keep hu4
    have hr3 : (toR (w4.drewN 1) P).cell? ⟨g2, 0, none⟩ = some (.int .i64 ((u : Nat) : Int)) := toR_keep hu4
    go_region_with (fail)
    all_goals go_wp2_with fail
    all_goals go_ret3
    all_goals rw [Int.natCast_add] at HA
    all_goals refine val_some (HB.out.trans (hb24.mono HB.out.size)) (Below.refl w4.heap.size w4).drew HX.out HA.out ?_ ?_ ?_
    all_goals kernel_rfl
  case neg =>
    rw [if_neg hk] at HA
    have hk0 : k = 0 := by omega
    subst hk0
    clear hk HLE HAS HBY
    dsimp only at HDR
    generalize (⟨X.toArray⟩ : ByteArray) = P at HDR
    go_upto_region 8 with (first
      | (go_at_call 19; (with_reducible refine HP.out.mono ?_); rintro r w3 ⟨rfl, hb3⟩; have hu3 := (hb3.cell (p := ⟨g2, 0, none⟩) HU.out.lt).trans hu0)
      | (go_at_call 22; (with_reducible refine (HS.out w3 hb3).mono ?_); rintro r w' ⟨rfl, rfl⟩; have hcv3 := HCV.out w3 hb3)
      | (go_at_call 24; (with_reducible refine (HDR.out w3 hb3).mono ?_); rintro r w4 ⟨rfl, hb4⟩
         have hb24 := hb3.trans (hb4.mono hb3.size)
         have hu4 := (hb24.cell (p := ⟨g2, 0, none⟩) HU.out.lt).trans hu0
         obtain ⟨y0, y1, y2, y3, y4, y5, y6, y7, y8, y9, y10, y11, y12, y13, y14⟩ := EnvH.at_ (HX.out.below hb24)
         have hcv4 := HCV.out w4 hb24)
      | (go_at_call 25; (with_reducible refine (HTO.out w4 hb24).mono ?_); rintro r w5 ⟨A3, n3, c3, rfl, hr3, hn3, hb5⟩
         have hb25 := hb24.trans (hb5.mono hb24.size)
         have hu5 := (hb25.cell (p := ⟨g2, 0, none⟩) HU.out.lt).trans hu0))
    have HC := hide (fun W (h : Runes W A3 n3 ((sel (toldL v (uN v) (cN v)) S.toList).getD [])) => clone_any A3 n3 c3 _ W h hn3)
    go_region_held3 (fun w' => w'.cell? ⟨g2, 0, none⟩ = some (.int .i64 ((u : Nat) : Int))) (first | go_keep) (first
      | (go_at_call 26; (with_reducible refine (HC.out _ hr3.drew).mono ?_); rintro r w6 ⟨A6, n6, c6, rfl, ho6, hb6⟩
         have hb56 : Below w5.heap.size w5 w6 := (Below.refl w5.heap.size w5).drew.trans hb6
         have hb26 := hb25.trans (hb56.mono hb25.size)
         have hu6 := (hb26.cell (p := ⟨g2, 0, none⟩) HU.out.lt).trans hu0))
    all_goals go_wp2_with fail
    all_goals go_ret3
    all_goals refine val_own (HB.out.trans (hb25.mono HB.out.size)) hb56 ho6 HA.out ?_ ?_ ?_
    all_goals kernel_rfl
end Go.Proofs.YtfeflmpdbejhjaaDoor
