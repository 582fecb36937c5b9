/- The walk of standishlaw26.RegsPlays: it answers true. -/
import Derived.Test.YthmchmpicncgdaaTwo26
namespace Go.Proofs.Ythmchmpicncgdaa
open Go.RowKit Go.Maps Go.MapKept Go.ChangeMaps Go.Shelf
set_option linter.unusedVariables false
variable {P P' : Nat → Prop}

theorem ix26_0 (w : World) : (Instr.index 35 (.agg #[.int .i32 97, .int .i32 65, .int .i32 98, .int .i32 66, .int .i32 0, .int .i32 122, .int .i32 90]) (.int .i64 0)).run Try.prog w = .ok (.int .i32 97) w := by kernel_rfl
theorem ix26_1 (w : World) : (Instr.index 35 (.agg #[.int .i32 97, .int .i32 65, .int .i32 98, .int .i32 66, .int .i32 0, .int .i32 122, .int .i32 90]) (.int .i64 1)).run Try.prog w = .ok (.int .i32 65) w := by kernel_rfl
theorem ix26_2 (w : World) : (Instr.index 35 (.agg #[.int .i32 97, .int .i32 65, .int .i32 98, .int .i32 66, .int .i32 0, .int .i32 122, .int .i32 90]) (.int .i64 2)).run Try.prog w = .ok (.int .i32 98) w := by kernel_rfl
theorem ix26_3 (w : World) : (Instr.index 35 (.agg #[.int .i32 97, .int .i32 65, .int .i32 98, .int .i32 66, .int .i32 0, .int .i32 122, .int .i32 90]) (.int .i64 3)).run Try.prog w = .ok (.int .i32 66) w := by kernel_rfl
theorem ix26_4 (w : World) : (Instr.index 35 (.agg #[.int .i32 97, .int .i32 65, .int .i32 98, .int .i32 66, .int .i32 0, .int .i32 122, .int .i32 90]) (.int .i64 4)).run Try.prog w = .ok (.int .i32 0) w := by kernel_rfl
theorem ix26_5 (w : World) : (Instr.index 35 (.agg #[.int .i32 97, .int .i32 65, .int .i32 98, .int .i32 66, .int .i32 0, .int .i32 122, .int .i32 90]) (.int .i64 5)).run Try.prog w = .ok (.int .i32 122) w := by kernel_rfl
theorem ix26_6 (w : World) : (Instr.index 35 (.agg #[.int .i32 97, .int .i32 65, .int .i32 98, .int .i32 66, .int .i32 0, .int .i32 122, .int .i32 90]) (.int .i64 6)).run Try.prog w = .ok (.int .i32 90) w := by kernel_rfl
set_option maxRecDepth 100000 in
set_option maxHeartbeats 8000000 in
theorem plays26_any (A : Option Addr) (n c : Nat) (ds : Nat → DV) (w : World) (hD : Deeds w A n ds) (hn : n ≤ c) (hc : c ≤ 9223372036854775807) :
    Calls Try.prog 3 #[.slice A n c] w fun e w' => e = .returned (.bool true) ∧ Below w.heap.size w w' := by
  have HD := hide hD
  clear hD
  go_enter Try.func3, Try.ntmps3
  go_wp2_with fail
  refine (rnew_any (fun _ => True) _).mono ?_
  rintro e w1 ⟨p, b, rfl, hm1, hp, hb, hb1⟩
  obtain ⟨g, hg⟩ : ∃ g, w1.heap.size = g := ⟨_, rfl⟩
  have hb2 := (Below.refl w1.heap.size w1).alloc (Nat.le_refl _) (.cells Try.zeroCells32 32)
  have hq := QM.zero (fun _ => True) w1
  rw [hg] at hq
  have HT := hide (show Two26 (fun _ => True) w (w1.alloc (.cells Try.zeroCells32 32)) p b 0 g (fun _ => none) from ⟨hm1.below hb2, hq, hp, hb, by have := hb1.size; omega, hb1.trans (hb2.mono hb1.size)⟩)
  clear hm1 hp hb hb1 hb2 hq
  go_wp2_with fail
  generalize w1.alloc (.cells Try.zeroCells32 32) = W0 at HT ⊢
  clear hg
  go_loopw [3, 5] (fun s3 s5 wx => ∃ (x p b k : Nat) (M : Int → Option Rg), x ≤ n ∧ x ≤ 40 ∧ s3 = .pointer (some ⟨p, 0, none⟩) ∧ s5 = .int .i64 x ∧ Hid (Two26 (fun _ => True) w wx p b k g M) ∧ k ≤ 2 * x) (fun _ s5 _ => n - (intOf s5).toNat)
  case atStart => exact ⟨0, p, b, 0, _, Nat.zero_le _, Nat.zero_le _, rfl, rfl, HT.out, Nat.le_refl _⟩
  case round =>
    obtain ⟨x, p, b, k, M, hx, hx6, rfl, rfl, HT, hk⟩ := hrel
    by_cases hlt : x < n ∧ x < 40
    · obtain ⟨hlt, hlt6⟩ := hlt
      obtain ⟨bb, o, hA, h1, h2, h3, h4⟩ := (HD.out.below HT.out.below).at_ x hlt
      have HOK := hide (HD.out.ok x hlt)
      generalize ds x = u at h1 h2 h3 h4 HOK
      have i0 : (0 : Int) ≤ (x : Int) := by omega
      have i1 : (x : Int) < (n : Int) := by omega
      have i6 : (x : Int) < 40 := by omega
      obtain ⟨xb, hxb⟩ : ∃ xb, wr.heap.size = xb := ⟨_, rfl⟩
      have hbx := (Below.refl wr.heap.size wr).alloc (Nat.le_refl _) (.cells #[.int .i32 u.name, .int .i64 u.pick, .slice u.T u.n u.c, .bool u.q] 34)
      have HT1 := hide (HT.out.next hbx)
      have HX1 := hide (Box.newAt hxb 34 #[.int .i32 u.name, .int .i64 u.pick, .slice u.T u.n u.c, .bool u.q])
      have hpl : p < xb ∧ b < xb ∧ g < xb := by have := HT.out.lt; omega
      have HSZ := hide hxb
      have HLB := hide (show wr.heap.size < (wr.alloc (.cells #[.int .i32 u.name, .int .i64 u.pick, .slice u.T u.n u.c, .bool u.q] 34)).heap.size by simp)
      clear HT hbx
      subst hA
      go_upto_region 8 with fail
      generalize wr.alloc (.cells #[.int .i32 u.name, .int .i64 u.pick, .slice u.T u.n u.c, .bool u.q] 34) = W1 at HT1 HX1 HLB ⊢
      clear h1 h2 h3 h4
      rw [HSZ.out] at HLB
      clear hxb
      obtain ⟨c0, c1, c2, c3⟩ : W1.cell? ⟨xb, 0, none⟩ = some (.int .i32 u.name) ∧ W1.cell? ⟨xb, 1, none⟩ = some (.int .i64 u.pick) ∧ W1.cell? ⟨xb, 2, none⟩ = some (.slice u.T u.n u.c) ∧ W1.cell? ⟨xb, 3, none⟩ = some (.bool u.q) :=
        ⟨HX1.out.cell 0, HX1.out.cell 1, HX1.out.cell 2, HX1.out.cell 3⟩
      go_upto_if 35 with fail
      go_cut [7] (fun s7 wx => ∃ R : Int, s7 = .int .i32 R ∧ (-2147483648 ≤ R ∧ R ≤ 2147483647) ∧ wx = W1)
      case first =>
        have h7 := and_7 u.pick
        have hz : bits .and .i64 u.pick 7 = 0 ∨ bits .and .i64 u.pick 7 = 1 ∨ bits .and .i64 u.pick 7 = 2 ∨ bits .and .i64 u.pick 7 = 3 ∨ bits .and .i64 u.pick 7 = 4 ∨ bits .and .i64 u.pick 7 = 5 ∨ bits .and .i64 u.pick 7 = 6 ∨ bits .and .i64 u.pick 7 = 7 := by omega
        clear h7
        have ix0 := ix26_0
        have ix1 := ix26_1
        have ix2 := ix26_2
        have ix3 := ix26_3
        have ix4 := ix26_4
        have ix5 := ix26_5
        have ix6 := ix26_6
        rcases hz with hz | hz | hz | hz | hz | hz | hz | hz
        all_goals
          rw [hz]
          go_wp2_with fail
          go_meet
          first
          | exact ⟨_, rfl, HOK.out.hw, rfl⟩
          | exact ⟨_, rfl, by omega, rfl⟩
      case rest =>
        obtain ⟨R, rfl, hR, rfl⟩ := hcut
        go_wp2_with fail
        refine (lend_any u.T u.n u.c u.t wc (HOK.out.rd.below HT1.out.below) (by have := HOK.out.len; omega)).mono ?_
        rintro e w2 ⟨gx, cx, rfl, hox, hb2⟩
        have hgx := (hox.blk_ge gx rfl).1
        have HT2 := hide ((HT1.out.off (P' := fun z => z ≠ gx) (fun z hz => by omega)).next hb2)
        have HX2 := hide (HX1.out.below hb2)
        have HO2 := hide hox
        have hgxl := (hox.blk_ge gx rfl).2
        have hcx := hox.cap
        have hun : u.n ≤ 35184372087808 := HOK.out.len
        have HHS : Hid (w2.heap.size ≤ w2.heap.size ∧ gx < w2.heap.size) := hide ⟨Nat.le_refl _, hgxl⟩
        have HWC := hide HT1.out.below.size
        have hb3 : b < gx ∧ g < gx ∧ xb < gx := by have := HLB.out; omega
        have HTX := hide (show ∀ W, Own W wc.heap.size (some ⟨gx, 0, none⟩) (u.n + 2) cx (u.t ++ [-77, -78]) → Runes W (some ⟨gx, 0, none⟩) u.n u.t from fun W h => by
          have h1 := (h.takeP (m := u.n) (by omega)).runes
          have h2 := HOK.out.rd.len
          rwa [List.take_append_of_le_length (by omega), List.take_of_length_le (by omega)] at h1)
        have HS1 := hide (fun W (hm : RegsM (fun z => z ≠ gx) W p b k M) (ho : Own W wc.heap.size (some ⟨gx, 0, none⟩) (u.n + 2) cx (u.t ++ [-77, -78])) => rset_any (P := fun z => z ≠ gx) p b k M R (some ⟨gx, 0, none⟩) u.n cx u.q u.t W hm (HTX.out W ho) (by omega) (by omega) (fun z hz => by have := (ho.blk_ge gx rfl).2; omega))
        have HS2 := hide (fun W (hm : QM (fun z => z ≠ gx) W g M) (ha : Runes W u.T u.n u.t) (hz : gx < W.heap.size) => qset_any (P := fun z => z ≠ gx) g M R u.T u.n u.c u.q u.t W hm ha (by omega) (fun z hz => by omega))
        clear hox hb2 HT1 HX1 HLB hgx hgxl c0 c1 c2 c3
        generalize hE : setE M R (u.t, u.q) = E at HS1 HS2
        generalize hM' : setM M R (u.t, u.q) = M' at HS1 HS2
        have dE : (E != E) = false := by simp
        go_upto_region 12 with fail
        obtain ⟨c2, c3⟩ : w2.cell? ⟨xb, 2, none⟩ = some (.slice u.T u.n u.c) ∧ w2.cell? ⟨xb, 3, none⟩ = some (.bool u.q) := ⟨HX2.out.cell 2, HX2.out.cell 3⟩
        go_region_held3 (fun w' => w'.cell? ⟨xb, 2, none⟩ = some (.slice u.T u.n u.c) ∧ w'.cell? ⟨xb, 3, none⟩ = some (.bool u.q))
          (first | go_keep)
          (first
           | (go_at_call 8; (with_reducible refine (HS1.out _ (HT2.out.r.below (Below.refl _ _).drew) HO2.out.drew).mono ?_); rintro e w3 ⟨rfl, hg3, k3, hk3, hm3⟩
              have HM3 := hide hm3
              have HQ3 := hide ((HT2.out.q.below (Below.refl _ _).drew).keepNC hg3 (by obtain ⟨V, hV, _⟩ := (HT2.out.r.below (Below.refl _ _).drew).map; exact hV.noCells))
              have HX3 := hide (HX2.out.drew.grown hg3 (fun e => by injection e with e; omega))
              have HO3 := hide (HO2.out.drew.kept hg3 (.inr fun e => by injection e with e; have e : gx = b := e; omega))
              have HB3 := hide (HT2.out.below.drew.grown hg3 HT2.out.below.size fun z hz => by cases hz; exact HT2.out.b_)
              clear hm3 hg3 c2 c3
              obtain ⟨d2, d3⟩ : w3.cell? ⟨xb, 2, none⟩ = some (.slice u.T u.n u.c) ∧ w3.cell? ⟨xb, 3, none⟩ = some (.bool u.q) := ⟨HX3.out.cell 2, HX3.out.cell 3⟩)
           | (go_at_call 9; (with_reducible refine (HS2.out _ HQ3.out (HOK.out.rd.below HB3.out) (HO3.out.blk_ge gx rfl).2).mono ?_); rintro e w4 ⟨rfl, hg4, hq4⟩
              have HQ4 := hide hq4
              have HM4 := hide (HM3.out.keepQ HQ3.out hg4)
              have HX4 := hide (HX3.out.grown hg4 (fun e => by injection e with e; omega))
              have HO4 := hide (HO3.out.kept hg4 (.inr fun e => by injection e with e; have e : gx = g := e; omega))
              have HB4 := hide (HB3.out.grown hg4 HB3.out.size fun z hz => by cases hz; exact HT2.out.g_)
              clear hg4 hq4 d2 d3
              obtain ⟨e2, e3⟩ : w4.cell? ⟨xb, 2, none⟩ = some (.slice u.T u.n u.c) ∧ w4.cell? ⟨xb, 3, none⟩ = some (.bool u.q) := ⟨HX4.out.cell 2, HX4.out.cell 3⟩)
           | (go_at_call 10; (with_reducible refine (kept_yes (some ⟨gx, 0, none⟩) u.T u.n cx u.c u.t _ HO4.out.runes (HOK.out.rd.below HB4.out) (by omega) (by omega)).mono ?_); rintro e w5 ⟨rfl, q5, h5⟩
              have hb5 : Below w4.heap.size w4 w5 := by rw [h5]; exact ⟨rfl, rfl, rfl, Nat.le_refl _, fun _ _ => rfl⟩
              have HM5 := hide (HM4.out.below hb5)
              have HQ5 := hide (HQ4.out.below hb5)
              have HX5 := hide (HX4.out.below hb5)
              have HO5 := hide (HO4.out.below hb5)
              have HB5 := hide (HB4.out.trans (hb5.mono HB4.out.size))
              clear h5 hb5
              obtain ⟨f2, f3⟩ : w5.cell? ⟨xb, 2, none⟩ = some (.slice u.T u.n u.c) ∧ w5.cell? ⟨xb, 3, none⟩ = some (.bool u.q) := ⟨HX5.out.cell 2, HX5.out.cell 3⟩))
        have HT5 := hide (show Two26 (fun z => z ≠ gx) w w5 p b k3 g (setM M R (u.t, u.q)) from ⟨HM5.out, HQ5.out, HT2.out.p_, HT2.out.b_, HT2.out.g_, HB5.out⟩)
        have hk5 : k3 ≤ 2 * (x + 1) := by omega
        have HBG := hide (show w.heap.size ≤ wc.heap.size ∧ gx ≠ xb from ⟨HWC.out, by omega⟩)
        clear e2 e3 f2 f3 HM3 HQ3 HX3 HO3 HB3 HQ4 HM4 HX4 HO4 HB4 HM5 HQ5 HB5 HS1 HS2 HT2 HX2 HO2
        rw [hM'] at HT5
        clear hM' hE dE
        go_wp2_with fail
        refine (spoil_any _ (some ⟨gx, 0, none⟩) u.n cx _ w5 (HO5.out.takeP (by omega))).mono ?_
        rintro e w6 ⟨rfl, -, hg6⟩
        have hg6' : w5.grownBy w6 (some gx) := hg6
        have HT6 := hide (show Two26 (fun _ => True) w w6 p b k3 g M' from ⟨HT5.out.r.keepX HO5.out hg6', HT5.out.q.keepX HO5.out hg6', HT5.out.p_, HT5.out.b_, HT5.out.g_, HT5.out.below.grown hg6' HT5.out.below.size fun z hz => by cases hz; have := (HO5.out.blk_ge gx rfl).1; have := HBG.out.1; omega⟩)
        have HX6 := hide (HX5.out.grown hg6' (fun e => HBG.out.2 (by injection e with e; exact e.symm)))
        clear hg6 hg6' HT5 HX5 HO5 HTX
        go_wp2_with fail
        refine (lsame_any p b k3 g M' R w6 HT6.out.r HT6.out.q (by omega)).mono ?_
        rintro e w7 ⟨rfl, hb7⟩
        have HT7 := hide (HT6.out.next hb7)
        have HX7 := hide (HX6.out.below hb7)
        clear hb7 HT6 HX6
        go_wp2_with fail
        refine (lsame_any p b k3 g M' 0 w7 HT7.out.r HT7.out.q (by omega)).mono ?_
        rintro e w8 ⟨rfl, hb8⟩
        have HT8 := hide (HT7.out.next hb8)
        have HX8 := hide (HX7.out.below hb8)
        clear hb8 HT7 HX7
        have c0 : w8.cell? ⟨xb, 0, none⟩ = some (.int .i32 u.name) := HX8.out.cell 0
        go_wp2_with fail
        refine (lsame_any p b k3 g M' u.name w8 HT8.out.r HT8.out.q (by omega)).mono ?_
        rintro e w9 ⟨rfl, hb9⟩
        have HT9 := hide (HT8.out.next hb9)
        have HX9 := hide (HX8.out.below hb9)
        clear hb9 HT8 HX8 c0
        have c1 : w9.cell? ⟨xb, 1, none⟩ = some (.int .i64 u.pick) := HX9.out.cell 1
        by_cases z9 : bits .and .i64 u.pick 15 = 9
        · have z9' : (bits .and .i64 u.pick 15 == 9) = true := by simp [z9]
          clear z9
          go_wp2_with fail
          refine (copy_any (P' := fun _ => True) p b k3 M' w9 HT9.out.r (by omega) (fun _ _ => trivial)).mono ?_
          rintro e w10 ⟨p2, b2, n2, rfl, hn2, hm2, hp2, hbb2, hb10⟩
          have HT10 := hide (HT9.out.next hb10)
          have HM10 := hide hm2
          have HP := hide (show b < b2 ∧ w.heap.size ≤ p2 ∧ w.heap.size ≤ b2 from by have h1 := HT9.out.lt; have h2 := HT9.out.below.size; omega)
          clear hm2 hp2 hbb2 hb10 c1 HT9 HX9
          go_wp2_with fail
          have hb11 := (Below.refl w10.heap.size w10).alloc (Nat.le_refl _) (.cells #[.int .i32 33] 21)
          have HT11 := hide (HT10.out.next hb11)
          have HM11 := hide (HM10.out.below hb11)
          have HS11 := hide (rset_any (P := fun _ => True) p b k3 M' 97 _ 1 1 false [33] _ HT11.out.r (newsK (w := w10) rfl #[.int .i32 33] 21 [33] rfl (W32.one (by omega))) (by omega) (by omega) (fun _ _ => trivial))
          clear hb11 HT10 HM10
          refine HS11.out.mono ?_
          rintro e w12 ⟨rfl, hg12, -⟩
          have HNC : Hid (∃ o : Obj, (w10.alloc (.cells #[.int .i32 33] 21)).heap[b]? = some o ∧ o.isCells = false) := hide (by obtain ⟨V, hV, _⟩ := HT11.out.r.map; exact hV.noCells)
          have HT12 := hide (show Two26 (fun _ => True) w w12 p2 b2 n2 g M' from ⟨HM11.out.keepNC hg12 HNC.out (by have := HP.out.1; omega), HT11.out.q.keepNC hg12 HNC.out, HP.out.2.1, HP.out.2.2, HT11.out.g_, HT11.out.below.grown hg12 HT11.out.below.size fun z hz => by cases hz; exact HT11.out.b_⟩)
          clear hg12 HNC HT11 HM11 HS11
          go_wp2_with fail
          go_roundw
          case rel => exact ⟨x + 1, p2, b2, n2, M', by omega, by omega, rfl, by go_num, HT12.out, by omega⟩
          case measure => simp [intOf]; omega
        · have z9' : (bits .and .i64 u.pick 15 == 9) = false := by simp [z9]
          clear z9
          go_wp2_with fail
          go_roundw
          case rel => exact ⟨x + 1, p, b, k3, M', by omega, by omega, rfl, by go_num, HT9.out, by omega⟩
          case measure => simp [intOf]; omega
    · have hd : (¬ x < n) ∨ ((x : Int) < (n : Int) ∧ decide ((x : Int) < 40) = false) := by
        by_cases h : x < n
        · exact .inr ⟨by omega, by simp; omega⟩
        · exact .inl h
      have hk80 : k ≤ 80 := by omega
      have HK80 := hide hk80
      clear hlt hk80 hk hx hx6
      rcases hd with d1 | ⟨d1, d2⟩
      all_goals
        go_wp2_with fail
        go_loopw [10] (fun s10 wx => ∃ y : Nat, y ≤ 132 ∧ s10 = .int .i32 ((y : Int) - 2) ∧ Hid (Two26 (fun _ => True) w wx p b k g M)) (fun s10 _ => (130 - intOf s10).toNat)
        case atStart => exact ⟨0, by omega, rfl, HT.out⟩
        case round =>
          obtain ⟨y, hy, rfl, HT⟩ := hrel
          obtain ⟨v, hv⟩ : ∃ v : Int, (y : Int) - 2 = v := ⟨_, rfl⟩
          have HV := hide hv
          rw [hv]
          have hvb : -2 ≤ v ∧ v ≤ 130 := by omega
          clear hv
          by_cases hl : v < 130
          · have e1 : IntKind.i32.wrap (v + 1) = v + 1 := by simp [IntKind.wrap_i32]; omega
            go_wp2_with fail
            refine (lsame_any p b k g M v _ HT.out.r HT.out.q (by have := HK80.out; omega)).mono ?_
            rintro e w7 ⟨rfl, hb7⟩
            have HT7 := hide (HT.out.next hb7)
            clear hb7 HT
            go_wp2_with fail
            go_roundw
            case rel => exact ⟨y + 1, by have := HV.out; omega, by have := HV.out; congr 1; omega, HT7.out⟩
            case measure => simp [intOf]; omega
          · go_wp2_with fail
            refine (known_any _).mono ?_
            rintro e w8 ⟨rfl, hb8⟩
            have HB8 := hide (HT.out.below.trans (hb8.mono HT.out.below.size))
            clear hb8
            go_wp2_with fail
            go_ret
            exact ⟨rfl, HB8.out⟩
end Go.Proofs.Ythmchmpicncgdaa
