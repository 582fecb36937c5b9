/- Pieces, joined: StmS, CmpI. -/
import Derived.Test.YtchcpeenpijekaaQ24
import Derived.Deep.CutBlock
import Derived.Deep.DeepCutAuto

/- Go's slices.stableCmpFunc and SortStableFunc at items, by words.Menu's test: a row of items that rises is sorted. -/
namespace Go.Proofs.Ytchcpeenpijekaa
open Go.RowKit
set_option linter.unusedVariables false
namespace Stm

theorem symMerge_any (f : Int → IV) (g : Nat) (lt : Int → Int → Bool) (hw : Weak lt) (R : World → Prop) (P : Int → Prop) (hc : Cmp f g lt R P) (B n c : Nat) (hn : n ≤ 1000000) : ∀ (N a m b : Nat) (l : List Int) (w : World), MergeA f g B n c a m b lt R P l w → a < m → m < b → b ≤ n → b - a ≤ N →
    Calls Try.prog 83 #[.slice (some ⟨g, 0, none⟩) n c, .int .i64 (a : Int), .int .i64 (m : Int), .int .i64 (b : Int), .func (.func 62) #[] #[]] w (MergeR f g B n c a b lt l w)
  | 0, a, m, b, l, w, h, h1, h2, h3, h4 => by omega
  | N + 1, a, m, b, l, w, h, h1, h2, h3, h4 => by
    by_cases e1 : m = a + 1
    · exact symMerge_left f g lt hw R P hc B n c a m b l w h e1 h2 h3 hn
    · by_cases e2 : b = m + 1
      · exact symMerge_right f g lt hw R P hc B n c a m b l w h (by omega) e2 h3 hn
      · exact symMerge_mid f g lt hw R P hc B n c a m b N l w h (by omega) (by omega) h3 hn h4 fun a m b l w k k1 k2 k3 k4 => symMerge_any f g lt hw R P hc B n c hn N a m b l w k k1 k2 k3 k4

theorem dvd_gap {d p q : Nat} (h : d ∣ p) (k : d ∣ q) (hlt : p < q) : p + d ≤ q := by
  have := Nat.le_of_dvd (by omega) (Nat.dvd_sub k h)
  omega

/-- The blocks of so many that lie ahead of a place are sorted. -/
def Blk (lt : Int → Int → Bool) (l : List Int) (d top : Nat) : Prop := ∀ p, d ∣ p → p + d ≤ top → Srt lt l p (p + d)
/-- Blocks of so many rise from one to the next. -/
def Cuts (l : List Int) (d n : Nat) : Prop := ∀ p, d ∣ p → Cutl l 0 p n
theorem Cuts.sub {l l' : List Int} {d n a b : Nat} (h : Cuts l d n) (hs : Sub a b l l') (ha : d ∣ a) (hb : b ≤ a + d) (hn : b ≤ n) : Cuts l' d n := fun p hp => (h p hp).sub hs (by
  rcases Nat.lt_or_ge a p with e | e
  · exact .inl (Nat.le_trans hb (dvd_gap ha hp e))
  · exact .inr e) (Nat.zero_le _) hn
theorem Blk.sub {lt : Int → Int → Bool} {l l' : List Int} {d top a b : Nat} (h : Blk lt l d top) (hs : Sub a b l l') (ht : top ≤ a) : Blk lt l' d top := fun p hp h1 => (h p hp h1).out hs (.inl (by omega))

/-- Behind the first so many blocks of 20. -/
structure St1 (f : Int → IV) (g B n c : Nat) (lt : Int → Int → Bool) (l : List Int) (w : World) (va vb : Value) (a : Nat) (l1 : List Int) (wr : World) : Prop where
  va : va = .int .i64 a
  vb : vb = .int .i64 ((a : Int) + 20)
  dvd : 20 ∣ a
  le : a ≤ n
  gr : w.grownBy wr (some g)
  row : RowI f wr B (some ⟨g, 0, none⟩) n c l1
  sub : Sub 0 n l l1
  same : ∀ x, a ≤ x → nth l1 x = nth l x
  blk : Blk lt l1 20 a
  cuts : Cuts l1 20 n

/-- All blocks of d are sorted. -/
structure St2 (f : Int → IV) (g B n c : Nat) (lt : Int → Int → Bool) (l : List Int) (w : World) (vd : Value) (d : Nat) (l1 : List Int) (wr : World) : Prop where
  vd : vd = .int .i64 d
  pos : 20 ≤ d
  top : d ≤ 4000000
  gr : w.grownBy wr (some g)
  row : RowI f wr B (some ⟨g, 0, none⟩) n c l1
  sub : Sub 0 n l l1
  blk : ∀ p, d ∣ p → p < n → Srt lt l1 p (min (p + d) n)
  cuts : Cuts l1 d n

/-- Ahead of a the blocks of 2 d are sorted, from it on those of d. -/
structure St3 (f : Int → IV) (g B n c d : Nat) (lt : Int → Int → Bool) (l : List Int) (w : World) (va vb : Value) (a : Nat) (l1 : List Int) (wr : World) : Prop where
  va : va = .int .i64 a
  vb : vb = .int .i64 ((a : Int) + 2 * (d : Int))
  dvd : (2 * d) ∣ a
  le : a ≤ n
  gr : w.grownBy wr (some g)
  row : RowI f wr B (some ⟨g, 0, none⟩) n c l1
  sub : Sub 0 n l l1
  old : Blk lt l1 (2 * d) a
  blk : ∀ p, d ∣ p → a ≤ p → p < n → Srt lt l1 p (min (p + d) n)
  cuts : Cuts l1 (2 * d) n
  cut : ∀ p, d ∣ p → a ≤ p → Cutl l1 0 p n

theorem Cutl.part {l : List Int} {p n a b : Nat} (h : Cutl l 0 p n) (hb : b ≤ n) : Cutl l a p b := fun i j h1 h2 h3 h4 => h i j (Nat.zero_le _) h2 h3 (by omega)
theorem all_sub {l l1 : List Int} {n : Nat} {P : Int → Prop} (h : ∀ x ∈ l, P x) (hs : Sub 0 n l l1) (hl : l.length = n) : ∀ x ∈ l1, P x := fun x hx => by
  obtain ⟨u, hu, rfl⟩ := mem_nth hx
  have := hs.len
  obtain ⟨v, _, h2, e⟩ := hs.in_ u (Nat.zero_le _) (by omega)
  rw [e]
  exact h _ (nth_mem (by omega))

set_option maxRecDepth 100000 in
set_option maxHeartbeats 8000000 in
theorem stable_any (f : Int → IV) (g : Nat) (lt : Int → Int → Bool) (hw : Weak lt) (R : World → Prop) (P : Int → Prop) (hc : Cmp f g lt R P) (B n c : Nat) (l : List Int) (w : World) (h : RowI f w B (some ⟨g, 0, none⟩) n c l) (hR : R w) (hP : ∀ x ∈ l, P x)
    (hn : n ≤ 1000000) (hup : ∀ i j, i < j → j < n → nth l i < nth l j) :
    Calls Try.prog 73 #[.slice (some ⟨g, 0, none⟩) n c, .int .i64 (n : Int), .func (.func 62) #[] #[]] w fun e w' => e = .returned (.tuple #[]) ∧ w.grownBy w' (some g) ∧ ∃ l', RowI f w' B (some ⟨g, 0, none⟩) n c l' ∧ Sub 0 n l l' ∧ Srt lt l' 0 n := by
  have HR := hide h
  have HLEN := hide h.len
  have HRR := hide hR
  have HC := hide hc
  have HP := hide hP
  have HUP := hide hup
  have HINS := hide (fun (a b : Nat) (l1 : List Int) (wr : World) (k1 : w.grownBy wr (some g)) (k2 : RowI f wr B (some ⟨g, 0, none⟩) n c l1) (k3 : Sub 0 n l l1) (k4 : a ≤ b) (k5 : b ≤ n) (k6 : ∀ x, a ≤ x → nth l1 x = nth l x) =>
    insertion_any f g lt hw R P hc B n c a b l1 wr k2 (hc.goes _ _ hR k1) (all_sub hP k3 h.len) k4 k5 hn (fun i j q1 q2 q3 => by rw [k6 i q1, k6 j (by omega)]; exact hup i j q2 (by omega)))
  have HMRG := hide (fun (a m b : Nat) (l1 : List Int) (wr : World) (k1 : w.grownBy wr (some g)) (k2 : RowI f wr B (some ⟨g, 0, none⟩) n c l1) (k3 : Sub 0 n l l1) (k4 : a < m) (k5 : m < b) (k6 : b ≤ n) (k7 : Srt lt l1 a m) (k8 : Srt lt l1 m b) (k9 : Cutl l1 0 m n) =>
    symMerge_any f g lt hw R P hc B n c hn (b - a) a m b l1 wr ⟨k2, hc.goes _ _ hR k1, all_sub hP k3 h.len, k7, k8, k9.part k6⟩ k4 k5 k6 (Nat.le_refl _))
  clear h hR hc hP
  go_enter Try.func73, Try.ntmps73
  go_upto_block 0 with fail
  go_cut [7] (fun va wx => ∃ (a : Nat) (l1 : List Int), va = .int .i64 a ∧ n < a + 20 ∧ St1 f g B n c lt l w (.int .i64 a) (.int .i64 ((a : Int) + 20)) a l1 wx)
  case first =>
    go_wp2_with fail
    go_loopw [7, 8] (fun va vb wr => ∃ (a : Nat) (l1 : List Int), St1 f g B n c lt l w va vb a l1 wr) (fun va _ _ => n - (intOf va).toNat)
    case atStart => exact ⟨0, l, rfl, rfl, Nat.dvd_zero _, Nat.zero_le _, World.grownBy.refl w _, HR.out, Sub.refl _ _ _, fun _ _ => rfl, fun p h1 h2 => by omega, fun p _ i j _ h2 h3 h4 => HUP.out i j (by omega) h4⟩
    case round =>
      obtain ⟨a, l1, hst⟩ := hrel
      obtain ⟨rfl, rfl, hdv, hle, hgr, hrow, hsub, hsame, hblk, hcuts⟩ := hst
      have HG := hide hgr
      have HL := hide hrow
      have HSUB := hide hsub
      have HSAME := hide hsame
      have HBLK := hide hblk
      have HCUTS := hide hcuts
      have HDV := hide hdv
      clear hgr hrow hsub hsame hblk hcuts hdv
      by_cases hlt : a + 20 ≤ n
      · have d1 : (a : Int) + 20 ≤ (n : Int) := by omega
        have d2 : ((a + 20 : Nat) : Int) = (a : Int) + 20 := by omega
        have hcall := HINS.out a (a + 20) l1 wr HG.out HL.out HSUB.out (by omega) hlt HSAME.out
        rw [d2] at hcall
        have HCALL := hide hcall
        have D2 := hide d2
        clear hcall d2
        go_wp2_with fail
        refine HCALL.out.mono ?_
        rintro e w1 ⟨rfl, hg1, l2, hr2, hs2, ht2⟩
        have HX := hide (show St1 f g B n c lt l w (.int .i64 ((a : Int) + 20)) (.int .i64 ((a : Int) + 20 + 20)) (a + 20) l2 w1 from
          ⟨by rw [← D2.out], by rw [← D2.out], Nat.dvd_add HDV.out (Nat.dvd_refl _), hlt, HG.out.trans hg1, hr2, HSUB.out.trans (hs2.wider (Nat.zero_le _) hlt), fun x hx => by rw [hs2.out x (.inr hx)]; exact HSAME.out x (by omega), fun p h1 h2 => by
            by_cases e : p < a
            · exact (HBLK.out.sub hs2 (Nat.le_refl _)) p h1 (dvd_gap h1 HDV.out e)
            · obtain rfl : p = a := by omega
              exact ht2, HCUTS.out.sub hs2 HDV.out (Nat.le_refl _) hlt⟩)
        clear hg1 hr2 hs2 ht2
        go_wp2_with fail
        go_roundw
        case rel => exact ⟨a + 20, l2, HX.out⟩
        case measure => simp [intOf]; omega
      · have d1 : ¬ ((a : Int) + 20 ≤ (n : Int)) := by omega
        go_wp2_with fail
        go_meet
        exact ⟨a, l1, rfl, by omega, rfl, rfl, HDV.out, hle, HG.out, HL.out, HSUB.out, HSAME.out, HBLK.out, HCUTS.out⟩
  case rest =>
    obtain ⟨a, l1, rfl, hna, hst⟩ := hcut
    have HST := hide hst
    have hle := hst.le
    clear hst
    go_wp2_with fail
    refine (HINS.out a n l1 _ HST.out.gr HST.out.row HST.out.sub hle (Nat.le_refl _) HST.out.same).mono ?_
    rintro e w1 ⟨rfl, hg1, l2, hr2, hs2, ht2⟩
    have HX := hide (show St2 f g B n c lt l w (.int .i64 20) 20 l2 w1 from ⟨rfl, Nat.le_refl _, by omega, HST.out.gr.trans hg1, hr2, HST.out.sub.trans (hs2.wider (Nat.zero_le _) (Nat.le_refl _)), fun p h1 h2 => by
      by_cases e : p < a
      · have e2 := dvd_gap h1 HST.out.dvd e
        rw [show min (p + 20) n = p + 20 by omega]
        exact (HST.out.blk.sub hs2 (Nat.le_refl _)) p h1 e2
      · obtain rfl : p = a := by
          rcases Nat.lt_or_ge a p with e3 | e3
          · have := dvd_gap HST.out.dvd h1 e3
            omega
          · omega
        rw [show min (p + 20) n = n by omega]
        exact ht2, HST.out.cuts.sub hs2 HST.out.dvd (by omega) (Nat.le_refl _)⟩)
    clear hg1 hr2 hs2 ht2
    go_wp2_with fail
    go_loopg [6] n (fun g1 vd wr => ∃ (d : Nat) (l2 : List Int), n ≤ d + g1 ∧ St2 f g B n c lt l w vd d l2 wr)
    case atStart => exact ⟨20, l2, by omega, HX.out⟩
    case round =>
      obtain ⟨gO, rfl⟩ : ∃ gO : Nat, gO = gk := ⟨_, rfl⟩
      obtain ⟨wo, rfl⟩ : ∃ wo : World, wo = wr := ⟨_, rfl⟩
      obtain ⟨d, l2, hgd, hst⟩ := hrel
      obtain ⟨rfl, hd0, hd1, hgr, hrow, hsub, hblk, hcuts⟩ := hst
      have HG := hide hgr
      have HL := hide hrow
      have HSUB := hide hsub
      have HBLK := hide hblk
      have HCUTS := hide hcuts
      clear hgr hrow hsub hblk hcuts HX
      by_cases hlt : d < n
      · have d1 : (d : Int) < (n : Int) := by omega
        have HX0 := hide (show St3 f g B n c d lt l w (.int .i64 0) (.int .i64 (2 * (d : Int))) 0 l2 wo from ⟨rfl, by simp, Nat.dvd_zero _, Nat.zero_le _, HG.out, HL.out, HSUB.out, fun p h1 h2 => by omega, fun p h1 _ h3 => HBLK.out p h1 h3, fun p h1 => HCUTS.out p (Nat.dvd_trans (Nat.dvd_mul_left d 2) h1), fun p h1 _ => HCUTS.out p h1⟩)
        go_wp2_with fail
        go_loopg [7, 8] n (fun g2 va vb wr2 => ∃ (a : Nat) (l3 : List Int), n ≤ a + g2 ∧ St3 f g B n c d lt l w va vb a l3 wr2)
        case atStart => exact ⟨0, l2, by omega, HX0.out⟩
        case round =>
          obtain ⟨a, l3, hga, hst⟩ := hrel
          obtain ⟨rfl, rfl, hdv, hle, hgr, hrow, hsub, hold, hblk, hcuts, hcut⟩ := hst
          have HG3 := hide hgr
          have HL3 := hide hrow
          have HSUB3 := hide hsub
          have HOLD := hide hold
          have HBLK3 := hide hblk
          have HCUTS3 := hide hcuts
          have HCUT3 := hide hcut
          have HDV := hide hdv
          have HDA := hide (Nat.dvd_trans (Nat.dvd_mul_left d 2) hdv)
          clear hgr hrow hsub hold hblk hcuts hcut hdv HX0
          by_cases hin : a + 2 * d ≤ n
          · have e1 : (a : Int) + 2 * (d : Int) ≤ (n : Int) := by omega
            have e2 : ((a + d : Nat) : Int) = (a : Int) + (d : Int) := by omega
            have e3 : ((a + 2 * d : Nat) : Int) = (a : Int) + 2 * (d : Int) := by omega
            have hb1 := HBLK3.out a HDA.out (Nat.le_refl _) (by omega)
            have hb2 := HBLK3.out (a + d) (Nat.dvd_add HDA.out (Nat.dvd_refl _)) (by omega) (by omega)
            rw [show min (a + d) n = a + d by omega] at hb1
            rw [show min (a + d + d) n = a + 2 * d by omega] at hb2
            have hcall := HMRG.out a (a + d) (a + 2 * d) l3 _ HG3.out HL3.out HSUB3.out (by omega) (by omega) hin hb1 hb2 (HCUT3.out (a + d) (Nat.dvd_add HDA.out (Nat.dvd_refl _)) (by omega))
            rw [e2, e3] at hcall
            have HCALL := hide hcall
            have E3 := hide e3
            clear hcall e2 e3 hb1 hb2
            go_wp2_with fail
            refine HCALL.out.mono ?_
            rintro e w1 ⟨rfl, hg1, l4, hr4, hs4, ht4⟩
            have HY := hide (show St3 f g B n c d lt l w (.int .i64 ((a : Int) + 2 * (d : Int))) (.int .i64 ((a : Int) + 2 * (d : Int) + 2 * (d : Int))) (a + 2 * d) l4 w1 from
              ⟨by rw [← E3.out], by rw [← E3.out], Nat.dvd_add HDV.out (Nat.dvd_refl _), hin, HG3.out.trans hg1, hr4, HSUB3.out.trans (hs4.wider (Nat.zero_le _) hin), fun p h1 h2 => by
                by_cases e : p < a
                · exact (HOLD.out.sub hs4 (Nat.le_refl _)) p h1 (dvd_gap h1 HDV.out e)
                · obtain rfl : p = a := by omega
                  exact ht4, fun p h1 h2 h3 => (HBLK3.out p h1 (by omega) h3).out hs4 (.inr h2), HCUTS3.out.sub hs4 HDV.out (Nat.le_refl _) hin, fun p h1 h2 => (HCUT3.out p h1 (by omega)).sub hs4 (.inl h2) (Nat.zero_le _) hin⟩)
            clear hg1 hr4 hs4 ht4
            go_wp2_with fail
            go_roundg (n - (a + 2 * d))
            case measure => omega
            case rel => exact ⟨a + 2 * d, l4, by omega, HY.out⟩
          · have e1 : ¬ ((a : Int) + 2 * (d : Int) ≤ (n : Int)) := by omega
            have e2 : ((2 * d : Nat) : Int) = (d : Int) * 2 := by omega
            have E2 := hide e2
            clear e2
            by_cases hm : a + d < n
            · have e3 : (a : Int) + (d : Int) < (n : Int) := by omega
              have e4 : ((a + d : Nat) : Int) = (a : Int) + (d : Int) := by omega
              have hb1 := HBLK3.out a HDA.out (Nat.le_refl _) (by omega)
              have hb2 := HBLK3.out (a + d) (Nat.dvd_add HDA.out (Nat.dvd_refl _)) (by omega) hm
              rw [show min (a + d) n = a + d by omega] at hb1
              rw [show min (a + d + d) n = n by omega] at hb2
              have hcall := HMRG.out a (a + d) n l3 _ HG3.out HL3.out HSUB3.out (by omega) hm (Nat.le_refl _) hb1 hb2 (HCUT3.out (a + d) (Nat.dvd_add HDA.out (Nat.dvd_refl _)) (by omega))
              rw [e4] at hcall
              have HCALL := hide hcall
              clear hcall e4 hb1 hb2
              go_wp2_with fail
              refine HCALL.out.mono ?_
              rintro e w1 ⟨rfl, hg1, l4, hr4, hs4, ht4⟩
              have HY := hide (show St2 f g B n c lt l w (.int .i64 ((d : Int) * 2)) (2 * d) l4 w1 from
                ⟨by rw [← E2.out], by omega, by omega, HG3.out.trans hg1, hr4, HSUB3.out.trans (hs4.wider (Nat.zero_le _) (Nat.le_refl _)), fun p h1 h2 => by
                  by_cases e : p < a
                  · have e2 := dvd_gap h1 HDV.out e
                    rw [show min (p + 2 * d) n = p + 2 * d by omega]
                    exact (HOLD.out.sub hs4 (Nat.le_refl _)) p h1 e2
                  · obtain rfl : p = a := by
                      rcases Nat.lt_or_ge a p with e3 | e3
                      · have := dvd_gap HDV.out h1 e3
                        omega
                      · omega
                    rw [show min (p + 2 * d) n = n by omega]
                    exact ht4, HCUTS3.out.sub hs4 HDV.out (by omega) (Nat.le_refl _)⟩)
              clear hg1 hr4 hs4 ht4
              go_wp2_with fail
              go_roundg (n - 2 * d)
              case measure => omega
              case rel => exact ⟨2 * d, l4, by omega, HY.out⟩
            · have e3 : ¬ ((a : Int) + (d : Int) < (n : Int)) := by omega
              have HY := hide (fun W (hW : w.grownBy W (some g)) (hRW : RowI f W B (some ⟨g, 0, none⟩) n c l3) => show St2 f g B n c lt l w (.int .i64 ((d : Int) * 2)) (2 * d) l3 W from
                ⟨by rw [← E2.out], by omega, by omega, hW, hRW, HSUB3.out, fun p h1 h2 => by
                  by_cases e : p < a
                  · have e2 := dvd_gap h1 HDV.out e
                    rw [show min (p + 2 * d) n = p + 2 * d by omega]
                    exact HOLD.out p h1 e2
                  · obtain rfl : p = a := by
                      rcases Nat.lt_or_ge a p with e3 | e3
                      · have := dvd_gap HDV.out h1 e3
                        omega
                      · omega
                    rw [show min (p + 2 * d) n = n by omega]
                    have := HBLK3.out p HDA.out (Nat.le_refl _) h2
                    rwa [show min (p + d) n = n by omega] at this, HCUTS3.out⟩)
              go_wp2_with fail
              go_roundg (n - 2 * d)
              case measure => omega
              case rel => exact ⟨2 * d, l3, by omega, HY.out _ HG3.out HL3.out⟩
      · have d1 : ¬ ((d : Int) < (n : Int)) := by omega
        go_wp2_with fail
        go_end0
        refine ⟨rfl, HG.out, l2, HL.out, HSUB.out, ?_⟩
        rcases Nat.eq_zero_or_pos n with h0 | h0
        · intro i j _ h2 h3
          omega
        · have := HBLK.out 0 (Nat.dvd_zero _) h0
          rwa [show min (0 + d) n = n by omega] at this

set_option maxRecDepth 100000 in
set_option maxHeartbeats 4000000 in
theorem sortStable_any (f : Int → IV) (g : Nat) (lt : Int → Int → Bool) (hw : Weak lt) (R : World → Prop) (P : Int → Prop) (hc : Cmp f g lt R P) (B n c : Nat) (l : List Int) (w : World) (h : RowI f w B (some ⟨g, 0, none⟩) n c l) (hR : R w) (hP : ∀ x ∈ l, P x)
    (hn : n ≤ 1000000) (hup : ∀ i j, i < j → j < n → nth l i < nth l j) :
    Calls Try.prog 61 #[.slice (some ⟨g, 0, none⟩) n c, .func (.func 62) #[] #[]] w fun e w' => e = .returned (.tuple #[]) ∧ w.grownBy w' (some g) ∧ ∃ l', RowI f w' B (some ⟨g, 0, none⟩) n c l' ∧ Sub 0 n l l' ∧ Srt lt l' 0 n := by
  have HS := hide (stable_any f g lt hw R P hc B n c l w h hR hP hn hup)
  clear h hc
  go_enter Try.func61, Try.ntmps61
  go_wp2_with fail
  refine HS.out.mono ?_
  rintro e w1 ⟨rfl, hx⟩
  have HX := hide hx
  clear hx
  go_wp2_with fail
  go_end0
  exact ⟨rfl, HX.out⟩
end Stm
end Go.Proofs.Ytchcpeenpijekaa

/- The menu's test on two items: words.Menu's function, cmp.Compare at ints; what the sort asks of it. -/
namespace Go.Proofs.Ytchcpeenpijekaa
open Go.RowKit
set_option linter.unusedVariables false

theorem isNaN64_any (n : Int) (w : World) : Calls Try.prog 74 #[.int .i64 n] w fun e w' => e = .returned (.bool false) ∧ w = w' := by
  have d0 : (n != n) = false := by simp
  go_enter Try.func74, Try.ntmps74
  go_wp2_with fail
  go_ret
  exact ⟨retB (by simp), rfl⟩
def cmpS (x y : Int) : Int := if x < y then -1 else if y < x then 1 else 0
theorem compare_int (x y : Int) (w : World) : Calls Try.prog 63 #[.int .i64 x, .int .i64 y] w fun e w' => e = .returned (.int .i64 (cmpS x y)) ∧ w = w' := by
  rcases Int.lt_trichotomy x y with h | h | h
  · have HE := hide (show cmpS x y = -1 by simp [cmpS, h])
    go_enter Try.func63, Try.ntmps63
    go_wp2_with (go_at_call 74; refine (isNaN64_any _ _).mono ?_; rintro e w' ⟨rfl, rfl⟩)
    go_ret
    exact ⟨retI HE.out.symm, rfl⟩
  · have HE := hide (show cmpS x y = 0 by simp [cmpS, h])
    have d1 : ¬ (x < y) := by omega
    have d2 : ¬ (y < x) := by omega
    clear h
    go_enter Try.func63, Try.ntmps63
    go_wp2_with (go_at_call 74; refine (isNaN64_any _ _).mono ?_; rintro e w' ⟨rfl, rfl⟩)
    go_ret
    exact ⟨retI HE.out.symm, rfl⟩
  · have d1 : ¬ (x < y) := by omega
    have HE := hide (show cmpS x y = 1 by simp only [cmpS, if_neg d1, if_pos h])
    go_enter Try.func63, Try.ntmps63
    go_wp2_with (go_at_call 74; refine (isNaN64_any _ _).mono ?_; rintro e w' ⟨rfl, rfl⟩)
    go_ret
    exact ⟨retI HE.out.symm, rfl⟩

/-- More often there: ahead. -/
def ltK (f : Int → IV) (x y : Int) : Bool := decide ((f y).k < (f x).k)
theorem ltK_weak (f : Int → IV) : Stm.Weak (ltK f) := ⟨fun x => by simp [ltK], fun x y z h k => by simp [ltK] at *; omega, fun x y z h k => by simp [ltK] at *; omega⟩
set_option maxHeartbeats 1000000 in
theorem menuCmp_any (u v : IV) (w : World) (hu : u.k ≤ 1000000) (hv : v.k ≤ 1000000) : Calls Try.prog 62 #[.agg #[.slice u.A u.n u.c, .int .i64 (u.k : Nat)], .agg #[.slice v.A v.n v.c, .int .i64 (v.k : Nat)]] w fun e w' => ∃ x : Int, e = .returned (.int .i64 x) ∧ decide (x < 0) = decide (v.k < u.k) ∧ Below w.heap.size w w' := by
  have HE := hide (show decide (cmpS (v.k : Nat) (u.k : Nat) < 0) = decide (v.k < u.k) from by
    rw [decide_eq_decide]
    unfold cmpS
    split
    · omega
    · split <;> omega)
  have HB := hide (((Below.refl w.heap.size w).alloc (Nat.le_refl _) (.cells #[.slice u.A u.n u.c, .int .i64 (u.k : Nat)] 49)).alloc (by simp) (.cells #[.slice v.A v.n v.c, .int .i64 (v.k : Nat)] 49))
  go_enter Try.func62, Try.ntmps62
  go_wp2_with (go_at_call 63; (with_reducible refine (compare_int _ _ _).mono ?_); rintro e w5 ⟨rfl, rfl⟩)
  go_ret
  exact ⟨_, rfl, HE.out, HB.out⟩
theorem cmp22 (f : Int → IV) (g : Nat) : Stm.Cmp f g (ltK f) (fun _ => True) (fun x => (f x).k ≤ 1000000) where
  call := fun x y W _ hx hy => menuCmp_any (f x) (f y) W hx hy
  goes := fun _ _ _ _ => trivial
end Go.Proofs.Ytchcpeenpijekaa
