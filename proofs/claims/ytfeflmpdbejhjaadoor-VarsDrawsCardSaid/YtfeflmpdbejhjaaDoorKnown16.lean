/- standishlaw16.known: it answers true. -/
import Derived.Test.YtfeflmpdbejhjaaDoorTenv
namespace Go.Proofs.YtfeflmpdbejhjaaDoor
open Go.RowKit
set_option linter.unusedVariables false

/-- The environment that known makes out of another. -/
def EnvH.kn (e : EnvH) (gd : Nat) : EnvH := ⟨e.t, e.ix, fun i => match i with | 0 => e.ck 0 | 1 => 3 | 2 => e.ck 2 | 3 => e.ck 3 | 4 => e.ck 4 | 5 => e.ck 5 | 6 => e.ck 6, ⟨some ⟨gd, 0, none⟩, 2, 2⟩⟩
def EnvV.kn (v : EnvV) : EnvV := ⟨v.t, v.ix, fun i => match i with | 0 => v.ck 0 | 1 => 3 | 2 => v.ck 2 | 3 => v.ck 3 | 4 => v.ck 4 | 5 => v.ck 5 | 6 => v.ck 6, [7, 255]⟩
theorem EnvR.kn {w w' : World} {e : EnvH} {v : EnvV} {gd : Nat} (h : EnvR w e v) (hb : ∀ i, Runes w' (e.t i).A (e.t i).n (v.t i)) (hd : Box w' gd 3 #[.int .i64 7, .int .i64 255]) : EnvR w' (e.kn gd) v.kn := by
  refine ⟨hb, h.tn, ⟨rfl, fun j hj => ?_, fun x hx => ?_⟩, by show (2 : Nat) ≤ _; omega, h.ix, ?_, h.ib, fun i => ?_⟩
  · have hj2 : j = 0 ∨ j = 1 := by have h2 : j < 2 := hj; omega
    rcases hj2 with rfl | rfl
    · exact ⟨gd, 0, rfl, hd.cell 0⟩
    · exact ⟨gd, 0, rfl, hd.cell 1⟩
  · have : x = 7 ∨ x = 255 := by simpa [EnvV.kn] using hx
    omega
  · have hc := h.ck
    funext i
    match i with
    | 0 => show v.ck 0 = e.ck 0; rw [hc]
    | 1 => rfl
    | 2 => show v.ck 2 = e.ck 2; rw [hc]
    | 3 => show v.ck 3 = e.ck 3; rw [hc]
    | 4 => show v.ck 4 = e.ck 4; rw [hc]
    | 5 => show v.ck 5 = e.ck 5; rw [hc]
    | 6 => show v.ck 6 = e.ck 6; rw [hc]
  · match i with
    | 0 => exact h.cb 0
    | 1 => show (-9223372036854775808 : Int) ≤ 3 ∧ (3 : Int) ≤ 9223372036854775807; omega
    | 2 => exact h.cb 2
    | 3 => exact h.cb 3
    | 4 => exact h.cb 4
    | 5 => exact h.cb 5
    | 6 => exact h.cb 6
theorem mayE_kn {v : EnvV} (h : mayE v = true) : mayE v.kn = true := by
  unfold mayE at h
  simp only [Bool.and_eq_true, decide_eq_true_eq] at h
  obtain ⟨⟨⟨⟨⟨⟨⟨⟨⟨s0, s1⟩, s2⟩, s3⟩, s4⟩, s5⟩, hix⟩, hdl⟩, hdd⟩, hck⟩ := h
  refine mayE_yes s0 s1 s2 s3 s4 s5 hix (by show (2 : Nat) ≤ 40; omega) (by show ([7, 255] : List Int).all _ = true; decide) ?_
  unfold clockOk at hck ⊢
  simp only [Bool.and_eq_true, inB_iff] at hck ⊢
  obtain ⟨⟨⟨⟨⟨⟨c0, c1⟩, c2⟩, c3⟩, c4⟩, c5⟩, c6⟩ := hck
  refine ⟨⟨⟨⟨⟨⟨c0, ?_⟩, c2⟩, c3⟩, c4⟩, c5⟩, c6⟩
  show (1 : Int) ≤ 3 ∧ (3 : Int) ≤ 12
  omega
theorem kn_month {v : EnvV} (h : mayE v.kn = true) : valE v.kn (plainS (⟨#[67, 85, 82, 82, 69, 78, 84, 95, 77, 79, 78, 84, 72]⟩ : ByteArray)) 0 = (some [48, 51], 0) := by
  have h1 := valE_yes (v := v.kn) (l := plainS (⟨#[67, 85, 82, 82, 69, 78, 84, 95, 77, 79, 78, 84, 72]⟩ : ByteArray)) (u := 0) h (by omega) (by decide)
  have h2 : (runesBytes (plainS (⟨#[67, 85, 82, 82, 69, 78, 84, 95, 77, 79, 78, 84, 72]⟩ : ByteArray))).toList = [67, 85, 82, 82, 69, 78, 84, 95, 77, 79, 78, 84, 72] := by kernel_rfl
  rw [h2] at h1
  have h3 : valS v.kn [67, 85, 82, 82, 69, 78, 84, 95, 77, 79, 78, 84, 72] 0 = (sel (toldL v.kn (uN v.kn) (cN v.kn)) [67, 85, 82, 82, 69, 78, 84, 95, 77, 79, 78, 84, 72], 0) := valS_txt rfl rfl rfl
  have h4 : sel (toldL v.kn (uN v.kn) (cN v.kn)) [67, 85, 82, 82, 69, 78, 84, 95, 77, 79, 78, 84, 72] = some (ru (padD 3 2)) := by kernel_rfl
  rw [h3, h4] at h1
  have h5 : ru (padD 3 2) = [48, 51] := by kernel_rfl
  rw [h5] at h1
  exact h1
theorem kn_hex {v : EnvV} (h : mayE v.kn = true) : valE v.kn (plainS (⟨#[82, 65, 78, 68, 79, 77, 95, 72, 69, 88]⟩ : ByteArray)) 1 = (some [48, 48, 48, 48, 102, 102], 2) := by
  have h1 := valE_yes (v := v.kn) (l := plainS (⟨#[82, 65, 78, 68, 79, 77, 95, 72, 69, 88]⟩ : ByteArray)) (u := 1) h (by omega) (by decide)
  have h2 : (runesBytes (plainS (⟨#[82, 65, 78, 68, 79, 77, 95, 72, 69, 88]⟩ : ByteArray))).toList = [82, 65, 78, 68, 79, 77, 95, 72, 69, 88] := by kernel_rfl
  rw [h2] at h1
  have h3 : valS v.kn [82, 65, 78, 68, 79, 77, 95, 72, 69, 88] 1 = (some (ru (rowH 255 6)), 2) := (valS_hex rfl rfl).trans (by kernel_rfl)
  have h5 : ru (rowH 255 6) = [48, 48, 48, 48, 102, 102] := by kernel_rfl
  rw [h3, h5] at h1
  exact h1
theorem kn_none {v : EnvV} : valE v.kn (plainS (⟨#[120]⟩ : ByteArray)) 4 = (none, 4) := valE_bad (by decide) 4
def ValK (w : World) (l : List Int) (b : Bool) (u : Int) (e : Ending) (w' : World) : Prop :=
  ∃ A n c, e = .returned (.tuple #[.slice A n c, .bool b, .int .i64 u]) ∧ Own w' w.heap.size A n c l ∧ Below w.heap.size w w'
/-- The environment without anything. -/
def envZ : EnvH := ⟨fun _ => ⟨none, 0, 0⟩, 0, fun _ => 0, ⟨none, 0, 0⟩⟩
def envZV : EnvV := ⟨fun _ => [], 0, fun _ => 0, []⟩
theorem envZ_read (w : World) : EnvR w envZ envZV := ⟨fun _ => Runes.nil _ _, fun _ => by show (0 : Nat) ≤ _ ∧ (0 : Nat) ≤ 0; omega, ⟨rfl, fun j hj => absurd hj (by show ¬ j < 0; omega), fun x hx => by cases hx⟩, by show (0 : Nat) ≤ _; omega, rfl, rfl, by show (-9223372036854775808 : Int) ≤ 0 ∧ (0 : Int) ≤ 9223372036854775807; omega, fun _ => by show (-9223372036854775808 : Int) ≤ 0 ∧ (0 : Int) ≤ 9223372036854775807; omega⟩
theorem envZ_no : mayE envZV = false := by decide

set_option maxRecDepth 100000 in
set_option maxHeartbeats 8000000 in
theorem known16_any (w : World) (hT : Tabs w) : Calls Tryd.prog 10 #[] w fun r w' => r = .returned (.bool true) ∧ Below w.heap.size w w' := by
  obtain ⟨g, hg⟩ : ∃ g, w.heap.size = g := ⟨_, rfl⟩
  have HB0 := hide ((Below.refl w.heap.size w).alloc (Nat.le_refl _) (.cells #[.slice none 0 0, .int .i64 0] 29))
  have HT0 := hide (show Tap (w.alloc (.cells #[.slice none 0 0, .int .i64 0] 29)) g none 0 0 [] from hg ▸ Tap.new ⟨rfl, fun j hj => absurd hj (by omega), fun x hx => by cases hx⟩)
  go_enter Tryd.func10, Tryd.ntmps10
  go_upto_region 2 with (go_at_call 7; (with_reducible refine (tenv_any g none 0 0 [] _ HT0.out (by omega)).mono ?_); rintro r w2 ⟨e, v, B', rfl, hE, hM, -, -, -, -, hG⟩; (unfold EnvH.v EnvH.cells))
  have hb2 : Below w.heap.size w w2 := HB0.out.grown hG HB0.out.size (fun j hj => by injection hj with hj; omega)
  obtain ⟨ge, hge⟩ : ∃ ge, w2.heap.size = ge := ⟨_, rfl⟩
  rw [hge]
  have HB2 := hide (hb2.alloc hb2.size (.cells #[.slice (e.t 0).A (e.t 0).n (e.t 0).c, .slice (e.t 1).A (e.t 1).n (e.t 1).c, .slice (e.t 2).A (e.t 2).n (e.t 2).c, .slice (e.t 3).A (e.t 3).n (e.t 3).c, .slice (e.t 4).A (e.t 4).n (e.t 4).c, .slice (e.t 5).A (e.t 5).n (e.t 5).c, .int .i64 e.ix, .int .i64 (e.ck 0), .int .i64 (e.ck 1), .int .i64 (e.ck 2), .int .i64 (e.ck 3), .int .i64 (e.ck 4), .int .i64 (e.ck 5), .int .i64 (e.ck 6), .slice e.d.A e.d.n e.d.c] 26))
  have HX := hide (Box.newAt hge 26 #[.slice (e.t 0).A (e.t 0).n (e.t 0).c, .slice (e.t 1).A (e.t 1).n (e.t 1).c, .slice (e.t 2).A (e.t 2).n (e.t 2).c, .slice (e.t 3).A (e.t 3).n (e.t 3).c, .slice (e.t 4).A (e.t 4).n (e.t 4).c, .slice (e.t 5).A (e.t 5).n (e.t 5).c, .int .i64 e.ix, .int .i64 (e.ck 0), .int .i64 (e.ck 1), .int .i64 (e.ck 2), .int .i64 (e.ck 3), .int .i64 (e.ck 4), .int .i64 (e.ck 5), .int .i64 (e.ck 6), .slice e.d.A e.d.n e.d.c])
  have HE := hide (hE.below ((Below.refl w2.heap.size w2).alloc (Nat.le_refl _) (.cells #[.slice (e.t 0).A (e.t 0).n (e.t 0).c, .slice (e.t 1).A (e.t 1).n (e.t 1).c, .slice (e.t 2).A (e.t 2).n (e.t 2).c, .slice (e.t 3).A (e.t 3).n (e.t 3).c, .slice (e.t 4).A (e.t 4).n (e.t 4).c, .slice (e.t 5).A (e.t 5).n (e.t 5).c, .int .i64 e.ix, .int .i64 (e.ck 0), .int .i64 (e.ck 1), .int .i64 (e.ck 2), .int .i64 (e.ck 3), .int .i64 (e.ck 4), .int .i64 (e.ck 5), .int .i64 (e.ck 6), .slice e.d.A e.d.n e.d.c] 26)))
  have HM := hide hM
  have hgew : w.heap.size ≤ ge := by have := hb2.size; omega
  have hlow : ∀ i, 0 < (e.t i).n → ∀ b o, (e.t i).A = some ⟨b, o, none⟩ → b < ge := fun i hi b o ha => hge ▸ (hE.tx i).lt hi ha
  have HLOW := hide hlow
  clear hb2 hE hM hG hlow HB0 HT0
  generalize w2.alloc (.cells #[.slice (e.t 0).A (e.t 0).n (e.t 0).c, .slice (e.t 1).A (e.t 1).n (e.t 1).c, .slice (e.t 2).A (e.t 2).n (e.t 2).c, .slice (e.t 3).A (e.t 3).n (e.t 3).c, .slice (e.t 4).A (e.t 4).n (e.t 4).c, .slice (e.t 5).A (e.t 5).n (e.t 5).c, .int .i64 e.ix, .int .i64 (e.ck 0), .int .i64 (e.ck 1), .int .i64 (e.ck 2), .int .i64 (e.ck 3), .int .i64 (e.ck 4), .int .i64 (e.ck 5), .int .i64 (e.ck 6), .slice e.d.A e.d.n e.d.c] 26) = w3 at HB2 HX HE ⊢
  clear hge
  have f8 := HX.out.cell 8
  have z8 := HX.out.frozen 8
  dsimp at f8
  go_upto_region 3 with fail
  have HX4 := hide (HX.out.set 8 (.int .i64 3))
  have hG34 := grown_set (World.grownBy.refl w3 (some ge)) 8 (.int .i64 3)
  clear f8 z8
  generalize w3.setCell ⟨ge, 8, none⟩ (.int .i64 3) = w4 at HX4 hG34 ⊢
  obtain ⟨gd, hgd⟩ : ∃ gd, w4.heap.size = gd := ⟨_, rfl⟩
  have HX5 := hide (HX4.out.alloc (.cells #[.int .i64 7, .int .i64 255] 3))
  have HD5 := hide (Box.newAt hgd 3 #[.int .i64 7, .int .i64 255])
  have hG35 := hG34.trans (World.grownBy_alloc w4 (.cells #[.int .i64 7, .int .i64 255] 3) (some ge))
  have hne : gd ≠ ge := by have h1 := HX4.out.lt; omega
  have f14 : (w4.alloc (.cells #[.int .i64 7, .int .i64 255] 3)).cell? ⟨ge, 14, none⟩ = some (.slice e.d.A e.d.n e.d.c) := HX5.out.cell 14
  have z14 := HX5.out.frozen 14
  go_upto_region 4 with fail
  have HX6 := hide (show Box ((w4.alloc (.cells #[.int .i64 7, .int .i64 255] 3)).setCell ⟨ge, 14, none⟩ (.slice (some ⟨gd, 0, none⟩) 2 2)) ge 26 #[.slice (e.t 0).A (e.t 0).n (e.t 0).c, .slice (e.t 1).A (e.t 1).n (e.t 1).c, .slice (e.t 2).A (e.t 2).n (e.t 2).c, .slice (e.t 3).A (e.t 3).n (e.t 3).c, .slice (e.t 4).A (e.t 4).n (e.t 4).c, .slice (e.t 5).A (e.t 5).n (e.t 5).c, .int .i64 e.ix, .int .i64 (e.ck 0), .int .i64 3, .int .i64 (e.ck 2), .int .i64 (e.ck 3), .int .i64 (e.ck 4), .int .i64 (e.ck 5), .int .i64 (e.ck 6), .slice (some ⟨gd, 0, none⟩) 2 2] from HX5.out.set 14 (.slice (some ⟨gd, 0, none⟩) 2 2))
  have hD6 := HD5.out.far (p := ⟨ge, 14, none⟩) hne (.slice (some ⟨gd, 0, none⟩) 2 2)
  have hG36 := grown_set hG35 14 (.slice (some ⟨gd, 0, none⟩) 2 2)
  clear f14 z14 HX5 HD5 hG35 hG34 HX4 HX
  generalize (w4.alloc (.cells #[.int .i64 7, .int .i64 255] 3)).setCell ⟨ge, 14, none⟩ (.slice (some ⟨gd, 0, none⟩) 2 2) = w6 at HX6 hD6 hG36 ⊢
  have HB6 := hide (HB2.out.grown hG36 HB2.out.size (fun j hj => by injection hj with hj; omega))
  have HE6 := hide (HE.out.kn (fun i => (HE.out.tx i).keep fun b o ha hn => hG36.block b ((HE.out.tx i).lt hn ha) (fun e => by injection e with e; have := HLOW.out i hn b o ha; omega)) hD6)
  have HM6 := hide (mayE_kn HM.out)
  clear hG36 hD6 hgd hne HLOW
  have HT := hide (hT.below HB6.out)
  have HV := hide (fun W (hb : Below w6.heap.size w6 W) A n c l used (hl : Runes W A n l) (hn : n ≤ 1000) => show Calls Tryd.prog 13 #[.agg #[.slice (e.t 0).A (e.t 0).n (e.t 0).c, .slice (e.t 1).A (e.t 1).n (e.t 1).c, .slice (e.t 2).A (e.t 2).n (e.t 2).c, .slice (e.t 3).A (e.t 3).n (e.t 3).c, .slice (e.t 4).A (e.t 4).n (e.t 4).c, .slice (e.t 5).A (e.t 5).n (e.t 5).c, .int .i64 e.ix, .int .i64 (e.ck 0), .int .i64 3, .int .i64 (e.ck 2), .int .i64 (e.ck 3), .int .i64 (e.ck 4), .int .i64 (e.ck 5), .int .i64 (e.ck 6), .slice (some ⟨gd, 0, none⟩) 2 2], .slice A n c, .int .i64 used] W (ValR W (valE v.kn l used).1 (valE v.kn l used).2) from value_any (e.kn gd) v.kn A n c l used W (HE6.out.below hb) hl (by omega) (HT.out.below hb))
  have HMA := hide (fun W (hb : Below w6.heap.size w6 W) => show Calls Tryd.prog 19 #[.agg #[.slice (e.t 0).A (e.t 0).n (e.t 0).c, .slice (e.t 1).A (e.t 1).n (e.t 1).c, .slice (e.t 2).A (e.t 2).n (e.t 2).c, .slice (e.t 3).A (e.t 3).n (e.t 3).c, .slice (e.t 4).A (e.t 4).n (e.t 4).c, .slice (e.t 5).A (e.t 5).n (e.t 5).c, .int .i64 e.ix, .int .i64 (e.ck 0), .int .i64 3, .int .i64 (e.ck 2), .int .i64 (e.ck 3), .int .i64 (e.ck 4), .int .i64 (e.ck 5), .int .i64 (e.ck 6), .slice (some ⟨gd, 0, none⟩) 2 2]] W (fun r w' => r = .returned (.bool true) ∧ Below W.heap.size W w') from by
    have h := vmay_any (e.kn gd) v.kn W (HE6.out.below hb)
    rw [HM6.out] at h
    exact h)
  have HXB := hide (fun W (hb : Below w6.heap.size w6 W) => show W.cell? ⟨ge, 0, none⟩ = some (.slice (e.t 0).A (e.t 0).n (e.t 0).c) ∧ W.cell? ⟨ge, 1, none⟩ = some (.slice (e.t 1).A (e.t 1).n (e.t 1).c) ∧ W.cell? ⟨ge, 2, none⟩ = some (.slice (e.t 2).A (e.t 2).n (e.t 2).c) ∧ W.cell? ⟨ge, 3, none⟩ = some (.slice (e.t 3).A (e.t 3).n (e.t 3).c) ∧ W.cell? ⟨ge, 4, none⟩ = some (.slice (e.t 4).A (e.t 4).n (e.t 4).c) ∧ W.cell? ⟨ge, 5, none⟩ = some (.slice (e.t 5).A (e.t 5).n (e.t 5).c) ∧ W.cell? ⟨ge, 6, none⟩ = some (.int .i64 e.ix) ∧ W.cell? ⟨ge, 7, none⟩ = some (.int .i64 (e.ck 0)) ∧ W.cell? ⟨ge, 8, none⟩ = some (.int .i64 3) ∧ W.cell? ⟨ge, 9, none⟩ = some (.int .i64 (e.ck 2)) ∧ W.cell? ⟨ge, 10, none⟩ = some (.int .i64 (e.ck 3)) ∧ W.cell? ⟨ge, 11, none⟩ = some (.int .i64 (e.ck 4)) ∧ W.cell? ⟨ge, 12, none⟩ = some (.int .i64 (e.ck 5)) ∧ W.cell? ⟨ge, 13, none⟩ = some (.int .i64 (e.ck 6)) ∧ W.cell? ⟨ge, 14, none⟩ = some (.slice (some ⟨gd, 0, none⟩) 2 2) from EnvH.at_ (e := e.kn gd) (HX6.out.below hb))
  obtain ⟨y0, y1, y2, y3, y4, y5, y6, y7, y8, y9, y10, y11, y12, y13, y14⟩ := HXB.out w6 (Below.refl _ _)
  have HP1 := hide (fun W => plain_any ((⟨#[67, 85, 82, 82, 69, 78, 84, 95, 77, 79, 78, 84, 72]⟩ : ByteArray)) W (by decide))
  have HP2 := hide (fun W => plain_any ((⟨#[82, 65, 78, 68, 79, 77, 95, 72, 69, 88]⟩ : ByteArray)) W (by decide))
  have HP3 := hide (fun W => plain_any ((⟨#[120]⟩ : ByteArray)) W (by decide))
  have HP4 := hide (fun W => plain_any ((⟨#[48, 48, 48, 48, 102, 102]⟩ : ByteArray)) W (by decide))
  have hk1 := kn_month HM6.out
  have hk2 := kn_hex HM6.out
  have hk3 := kn_none (v := v)
  have HL1 := hide (show (plainS ((⟨#[67, 85, 82, 82, 69, 78, 84, 95, 77, 79, 78, 84, 72]⟩ : ByteArray))).length ≤ 1000 from by decide)
  have HL2 := hide (show (plainS ((⟨#[82, 65, 78, 68, 79, 77, 95, 72, 69, 88]⟩ : ByteArray))).length ≤ 1000 from by decide)
  have HL3 := hide (show (plainS ((⟨#[120]⟩ : ByteArray))).length ≤ 1000 from by decide)
  have HF4 := hide (show plainS ((⟨#[48, 48, 48, 48, 102, 102]⟩ : ByteArray)) = [48, 48, 48, 48, 102, 102] from by decide)
  rw [HF4.out] at HP4
  generalize plainS ((⟨#[67, 85, 82, 82, 69, 78, 84, 95, 77, 79, 78, 84, 72]⟩ : ByteArray)) = p1 at HP1 hk1 HL1
  generalize plainS ((⟨#[82, 65, 78, 68, 79, 77, 95, 72, 69, 88]⟩ : ByteArray)) = p2 at HP2 hk2 HL2
  generalize plainS ((⟨#[120]⟩ : ByteArray)) = p3 at HP3 hk3 HL3
  clear HF4
  have HV1 := hide (fun W (hb : Below w6.heap.size w6 W) A n c (hl : Runes W A n p1) (hn : n ≤ 1000) => show Calls Tryd.prog 13 #[.agg #[.slice (e.t 0).A (e.t 0).n (e.t 0).c, .slice (e.t 1).A (e.t 1).n (e.t 1).c, .slice (e.t 2).A (e.t 2).n (e.t 2).c, .slice (e.t 3).A (e.t 3).n (e.t 3).c, .slice (e.t 4).A (e.t 4).n (e.t 4).c, .slice (e.t 5).A (e.t 5).n (e.t 5).c, .int .i64 e.ix, .int .i64 (e.ck 0), .int .i64 3, .int .i64 (e.ck 2), .int .i64 (e.ck 3), .int .i64 (e.ck 4), .int .i64 (e.ck 5), .int .i64 (e.ck 6), .slice (some ⟨gd, 0, none⟩) 2 2], .slice A n c, .int .i64 0] W (ValK W [48, 51] true 0) from by
    have h := HV.out W hb A n c p1 0 hl hn
    rw [hk1] at h
    exact h)
  have HV2 := hide (fun W (hb : Below w6.heap.size w6 W) A n c (hl : Runes W A n p2) (hn : n ≤ 1000) => show Calls Tryd.prog 13 #[.agg #[.slice (e.t 0).A (e.t 0).n (e.t 0).c, .slice (e.t 1).A (e.t 1).n (e.t 1).c, .slice (e.t 2).A (e.t 2).n (e.t 2).c, .slice (e.t 3).A (e.t 3).n (e.t 3).c, .slice (e.t 4).A (e.t 4).n (e.t 4).c, .slice (e.t 5).A (e.t 5).n (e.t 5).c, .int .i64 e.ix, .int .i64 (e.ck 0), .int .i64 3, .int .i64 (e.ck 2), .int .i64 (e.ck 3), .int .i64 (e.ck 4), .int .i64 (e.ck 5), .int .i64 (e.ck 6), .slice (some ⟨gd, 0, none⟩) 2 2], .slice A n c, .int .i64 1] W (ValK W [48, 48, 48, 48, 102, 102] true 2) from by
    have h := HV.out W hb A n c p2 1 hl hn
    rw [hk2] at h
    exact h)
  have HV3 := hide (fun W (hb : Below w6.heap.size w6 W) A n c (hl : Runes W A n p3) (hn : n ≤ 1000) => show Calls Tryd.prog 13 #[.agg #[.slice (e.t 0).A (e.t 0).n (e.t 0).c, .slice (e.t 1).A (e.t 1).n (e.t 1).c, .slice (e.t 2).A (e.t 2).n (e.t 2).c, .slice (e.t 3).A (e.t 3).n (e.t 3).c, .slice (e.t 4).A (e.t 4).n (e.t 4).c, .slice (e.t 5).A (e.t 5).n (e.t 5).c, .int .i64 e.ix, .int .i64 (e.ck 0), .int .i64 3, .int .i64 (e.ck 2), .int .i64 (e.ck 3), .int .i64 (e.ck 4), .int .i64 (e.ck 5), .int .i64 (e.ck 6), .slice (some ⟨gd, 0, none⟩) 2 2], .slice A n c, .int .i64 4] W (ValK W [] false 4) from by
    have h := HV.out W hb A n c p3 4 hl hn
    rw [hk3] at h
    exact h)
  have HMZ := hide (fun W => show Calls Tryd.prog 19 #[.agg #[.slice none 0 0, .slice none 0 0, .slice none 0 0, .slice none 0 0, .slice none 0 0, .slice none 0 0, .int .i64 0, .int .i64 0, .int .i64 0, .int .i64 0, .int .i64 0, .int .i64 0, .int .i64 0, .int .i64 0, .slice none 0 0]] W (fun r w' => r = .returned (.bool false) ∧ Below W.heap.size W w') from by
    have h := vmay_any envZ envZV W (envZ_read W)
    rw [envZ_no] at h
    exact h)
  have bw6 := Below.refl w6.heap.size w6
  have HSA := hide (show sameS [48, 51] [48, 51] = true from by decide)
  have HSB := hide (show sameS [48, 48, 48, 48, 102, 102] [48, 48, 48, 48, 102, 102] = true from by decide)
  clear hk1 hk2 hk3 HV HM HM6 HE HE6
  go_region_held3 (fun w' => w'.cell? ⟨ge, 0, none⟩ = some (.slice (e.t 0).A (e.t 0).n (e.t 0).c) ∧ w'.cell? ⟨ge, 1, none⟩ = some (.slice (e.t 1).A (e.t 1).n (e.t 1).c) ∧ w'.cell? ⟨ge, 2, none⟩ = some (.slice (e.t 2).A (e.t 2).n (e.t 2).c) ∧ w'.cell? ⟨ge, 3, none⟩ = some (.slice (e.t 3).A (e.t 3).n (e.t 3).c) ∧ w'.cell? ⟨ge, 4, none⟩ = some (.slice (e.t 4).A (e.t 4).n (e.t 4).c) ∧ w'.cell? ⟨ge, 5, none⟩ = some (.slice (e.t 5).A (e.t 5).n (e.t 5).c) ∧ w'.cell? ⟨ge, 6, none⟩ = some (.int .i64 e.ix) ∧ w'.cell? ⟨ge, 7, none⟩ = some (.int .i64 (e.ck 0)) ∧ w'.cell? ⟨ge, 8, none⟩ = some (.int .i64 3) ∧ w'.cell? ⟨ge, 9, none⟩ = some (.int .i64 (e.ck 2)) ∧ w'.cell? ⟨ge, 10, none⟩ = some (.int .i64 (e.ck 3)) ∧ w'.cell? ⟨ge, 11, none⟩ = some (.int .i64 (e.ck 4)) ∧ w'.cell? ⟨ge, 12, none⟩ = some (.int .i64 (e.ck 5)) ∧ w'.cell? ⟨ge, 13, none⟩ = some (.int .i64 (e.ck 6)) ∧ w'.cell? ⟨ge, 14, none⟩ = some (.slice (some ⟨gd, 0, none⟩) 2 2)) (first | go_keep) (first
    | (go_at_call 12; (with_reducible refine (HP1.out _).mono ?_); rintro r w7 ⟨Ap1, np1, cp1, rfl, hop, hbp⟩
       have hq1 : Below w6.heap.size w6 w7 := (Below.refl w6.heap.size w6).drew.trans hbp
       have bw7 : Below w6.heap.size w6 w7 := bw6.trans (hq1.mono bw6.size)
       have hrp1 := hop.runes
       have hnp1 : np1 ≤ 1000 := by have h1 := hop.len; have h2 := HL1.out; omega
       clear hop hbp
       obtain ⟨y0, y1, y2, y3, y4, y5, y6, y7, y8, y9, y10, y11, y12, y13, y14⟩ := HXB.out w7 bw7)
    | (go_at_call 13; (with_reducible refine (HV1.out w7 bw7 Ap1 np1 cp1 hrp1 hnp1).mono ?_); rintro r w8 ⟨Aa, na, ca, rfl, hoa, hba⟩
       have bw8 : Below w6.heap.size w6 w8 := bw7.trans (hba.mono bw7.size)
       have HOa := hide hoa.runes
       have hca := hoa.cap
       have hna := hoa.len
       have hza : Below w6.heap.size w6 w8 := hq1.trans (hba.mono hq1.size)
       clear hoa hba
       obtain ⟨y0, y1, y2, y3, y4, y5, y6, y7, y8, y9, y10, y11, y12, y13, y14⟩ := HXB.out w8 bw8))
  go_wp2_with fail
  go_region_held3 (fun w' => w'.cell? ⟨ge, 0, none⟩ = some (.slice (e.t 0).A (e.t 0).n (e.t 0).c) ∧ w'.cell? ⟨ge, 1, none⟩ = some (.slice (e.t 1).A (e.t 1).n (e.t 1).c) ∧ w'.cell? ⟨ge, 2, none⟩ = some (.slice (e.t 2).A (e.t 2).n (e.t 2).c) ∧ w'.cell? ⟨ge, 3, none⟩ = some (.slice (e.t 3).A (e.t 3).n (e.t 3).c) ∧ w'.cell? ⟨ge, 4, none⟩ = some (.slice (e.t 4).A (e.t 4).n (e.t 4).c) ∧ w'.cell? ⟨ge, 5, none⟩ = some (.slice (e.t 5).A (e.t 5).n (e.t 5).c) ∧ w'.cell? ⟨ge, 6, none⟩ = some (.int .i64 e.ix) ∧ w'.cell? ⟨ge, 7, none⟩ = some (.int .i64 (e.ck 0)) ∧ w'.cell? ⟨ge, 8, none⟩ = some (.int .i64 3) ∧ w'.cell? ⟨ge, 9, none⟩ = some (.int .i64 (e.ck 2)) ∧ w'.cell? ⟨ge, 10, none⟩ = some (.int .i64 (e.ck 3)) ∧ w'.cell? ⟨ge, 11, none⟩ = some (.int .i64 (e.ck 4)) ∧ w'.cell? ⟨ge, 12, none⟩ = some (.int .i64 (e.ck 5)) ∧ w'.cell? ⟨ge, 13, none⟩ = some (.int .i64 (e.ck 6)) ∧ w'.cell? ⟨ge, 14, none⟩ = some (.slice (some ⟨gd, 0, none⟩) 2 2)) (first | go_keep) (first
    | (go_at_call 12; (with_reducible refine (HP2.out _).mono ?_); rintro r w9 ⟨Ap2, np2, cp2, rfl, hop, hbp⟩
       have hq2 : Below w8.heap.size w8 w9 := (Below.refl w8.heap.size w8).drew.trans hbp
       have bw9 : Below w6.heap.size w6 w9 := bw8.trans (hq2.mono bw8.size)
       have hrp2 := hop.runes
       have hnp2 : np2 ≤ 1000 := by have h1 := hop.len; have h2 := HL2.out; omega
       clear hop hbp
       obtain ⟨y0, y1, y2, y3, y4, y5, y6, y7, y8, y9, y10, y11, y12, y13, y14⟩ := HXB.out w9 bw9)
    | (go_at_call 13; (with_reducible refine (HV2.out w9 bw9 Ap2 np2 cp2 hrp2 hnp2).mono ?_); rintro r w10 ⟨Ab, nb, cb, rfl, hob, hbb⟩
       have bw10 : Below w6.heap.size w6 w10 := bw9.trans (hbb.mono bw9.size)
       have HOb := hide hob.runes
       have hcb := hob.cap
       have hnb := hob.len
       have hzb : Below w8.heap.size w8 w10 := hq2.trans (hbb.mono hq2.size)
       clear hob hbb
       obtain ⟨y0, y1, y2, y3, y4, y5, y6, y7, y8, y9, y10, y11, y12, y13, y14⟩ := HXB.out w10 bw10))
  go_wp2_with fail
  go_region_held3 (fun w' => w'.cell? ⟨ge, 0, none⟩ = some (.slice (e.t 0).A (e.t 0).n (e.t 0).c) ∧ w'.cell? ⟨ge, 1, none⟩ = some (.slice (e.t 1).A (e.t 1).n (e.t 1).c) ∧ w'.cell? ⟨ge, 2, none⟩ = some (.slice (e.t 2).A (e.t 2).n (e.t 2).c) ∧ w'.cell? ⟨ge, 3, none⟩ = some (.slice (e.t 3).A (e.t 3).n (e.t 3).c) ∧ w'.cell? ⟨ge, 4, none⟩ = some (.slice (e.t 4).A (e.t 4).n (e.t 4).c) ∧ w'.cell? ⟨ge, 5, none⟩ = some (.slice (e.t 5).A (e.t 5).n (e.t 5).c) ∧ w'.cell? ⟨ge, 6, none⟩ = some (.int .i64 e.ix) ∧ w'.cell? ⟨ge, 7, none⟩ = some (.int .i64 (e.ck 0)) ∧ w'.cell? ⟨ge, 8, none⟩ = some (.int .i64 3) ∧ w'.cell? ⟨ge, 9, none⟩ = some (.int .i64 (e.ck 2)) ∧ w'.cell? ⟨ge, 10, none⟩ = some (.int .i64 (e.ck 3)) ∧ w'.cell? ⟨ge, 11, none⟩ = some (.int .i64 (e.ck 4)) ∧ w'.cell? ⟨ge, 12, none⟩ = some (.int .i64 (e.ck 5)) ∧ w'.cell? ⟨ge, 13, none⟩ = some (.int .i64 (e.ck 6)) ∧ w'.cell? ⟨ge, 14, none⟩ = some (.slice (some ⟨gd, 0, none⟩) 2 2)) (first | go_keep) (first
    | (go_at_call 12; (with_reducible refine (HP3.out _).mono ?_); rintro r w11 ⟨Ap3, np3, cp3, rfl, hop, hbp⟩
       have hq3 : Below w10.heap.size w10 w11 := (Below.refl w10.heap.size w10).drew.trans hbp
       have bw11 : Below w6.heap.size w6 w11 := bw10.trans (hq3.mono bw10.size)
       have hrp3 := hop.runes
       have hnp3 : np3 ≤ 1000 := by have h1 := hop.len; have h2 := HL3.out; omega
       clear hop hbp
       obtain ⟨y0, y1, y2, y3, y4, y5, y6, y7, y8, y9, y10, y11, y12, y13, y14⟩ := HXB.out w11 bw11)
    | (go_at_call 13; (with_reducible refine (HV3.out w11 bw11 Ap3 np3 cp3 hrp3 hnp3).mono ?_); rintro r w12 ⟨Ax, nx, cx, rfl, hox, hbx⟩
       have bw12 : Below w6.heap.size w6 w12 := bw11.trans (hbx.mono bw11.size)
       have HOx := hide hox.runes
       have hcx := hox.cap
       have hnx := hox.len
       have hzx : Below w10.heap.size w10 w12 := hq3.trans (hbx.mono hq3.size)
       clear hox hbx
       obtain ⟨y0, y1, y2, y3, y4, y5, y6, y7, y8, y9, y10, y11, y12, y13, y14⟩ := HXB.out w12 bw12))
  have h10 : Below w10.heap.size w10 w12 := hzx
  have h8 : Below w8.heap.size w8 w12 := hzb.trans (hzx.mono hzb.size)
  have HA := hide (fun W (hb : Below w12.heap.size w12 W) => (HOa.out.below h8).below hb)
  have HBB := hide (fun W (hb : Below w12.heap.size w12 W) => (HOb.out.below h10).below hb)
  have hla : na ≤ 9223372036854775807 := by omega
  have hlb : nb ≤ 9223372036854775807 := by omega
  clear hq1 hq2 hq3 hza hzb hzx h8 h10 HOa HOb HOx hrp1 hrp2 hrp3 bw7 bw8 bw9 bw10 bw11 HP1 HP2 HP3 HV1 HV2 HV3
  go_wp2_with (first
    | (go_at_call 19; (with_reducible refine (HMA.out w12 bw12).mono ?_); rintro r w13 ⟨rfl, hb13⟩
       have hw13 : Below w12.heap.size w12 w13 := hb13
       have hSa := refSame_any Aa (some ⟨w13.heap.size, 0, none⟩) na ca 2 2 [48, 51] [48, 51] (w13.alloc (.cells #[.int .i32 48, .int .i32 51] 21)) ((HA.out w13 hw13).alloc _) (Runes.news w13 #[.int .i32 48, .int .i32 51] 21 [48, 51] rfl (w32_of (by decide))) hla (by omega)
       rw [HSA.out] at hSa
       have HS1 := hide hSa
       have h13a := hw13.alloc hw13.size (.cells #[.int .i32 48, .int .i32 51] 21)
       have H13 := hide h13a
       clear hb13 hSa h13a)
    | (go_at_call 14; (with_reducible refine HS1.out.mono ?_); rintro r w14 ⟨rfl, q14, hw14⟩
       have h14 : Below w12.heap.size w12 w14 := hw14 ▸ belowD H13.out q14
       clear hw14)
    | (go_at_call 12; (with_reducible refine (HP4.out _).mono ?_); rintro r w15 ⟨Af, nf, cf, rfl, hof, hbf⟩
       have h15 : Below w12.heap.size w12 w15 := h14.trans (hbf.mono h14.size)
       have hlf : nf ≤ 9223372036854775807 := by have := hof.cap; omega
       have hSb := refSame_any Ab Af nb cb nf cf _ _ w15 (HBB.out w15 h15) hof.runes hlb hlf
       rw [HSB.out] at hSb
       have HS2 := hide hSb
       clear hof hbf hSb)
    | (go_at_call 14; (with_reducible refine HS2.out.mono ?_); rintro r w16 ⟨rfl, q16, hw16⟩
       have h16 : Below w12.heap.size w12 w16 := hw16 ▸ belowD h15 q16
       clear hw16)
    | (go_at_call 19; (with_reducible refine (HMZ.out _).mono ?_); rintro r w17 ⟨rfl, hb17⟩
       have h17 : Below w12.heap.size w12 w17 := h16.trans (hb17.mono h16.size)))
  go_ret
  exact ⟨rfl, (HB6.out.trans (bw12.mono HB6.out.size)).trans (h17.mono (HB6.out.trans (bw12.mono HB6.out.size)).size)⟩
end Go.Proofs.YtfeflmpdbejhjaaDoor
