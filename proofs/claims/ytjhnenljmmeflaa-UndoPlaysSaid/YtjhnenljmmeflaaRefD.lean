/- The reference's tree: the walk of Add. -/
import Derived.Test.YtjhnenljmmeflaaRefA
import Derived.Deep.RegionLaw
import Derived.IntWalk
import Derived.BigRegion
namespace Go.Proofs.Ytjhnenljmmeflaa
open Go.RowKit
set_option linter.unusedVariables false

/-- append, hidden from the simplifier: a run of it that is laid ahead is used as it stands. -/
def appSem (ts : Array TypeId) (ty : TypeId) (args : Array Value) : Sem Value := Builtin.append_ ts ty args
theorem app_sem (ts : Array TypeId) (ty : TypeId) (args : Array Value) : Builtin.append_ ts ty args = appSem ts ty args := rfl
attribute [local go_sem ↓] app_sem

/-- One more kid: what the cut around it says. -/
def RKid (P : Nat → Prop) (wd : World) (t g n c now : Nat) (f : Nat → Nat → List (GV × Grp)) (wx : World) : Prop := ∃ (k2 ck2 : Nat) (Q3 : Nat → Prop), TR wx Q3 t g (n + 1) c now (f k2 ck2) ∧ Keeps P wd wx ∧ ∀ b, Q3 b → P b ∨ wd.heap.size ≤ b

set_option maxRecDepth 100000 in
set_option maxHeartbeats 8000000 in
theorem radd_any (w : World) (P : Nat → Prop) (t : Nat) (gs : List Grp) (now : Nat) (X : Option Addr) (m d : Nat) (us : Nat → CV) (l : List Chg) (before : Int) (h : TreeR w P t gs now) (hlk : ∀ W, Keeps P w W → Chgs W X m us l) (hm : 0 < m) (hm2 : m ≤ 1000000)
    (hb : -9223372036854775808 ≤ before ∧ before ≤ 9223372036854775807) (hs : gs.length ≤ 100) :
    Calls Try.prog 57 #[.pointer (some ⟨t, 0, none⟩), .slice X m d, .int .i64 before] w (RAddR w P t gs now l before) := by
  obtain ⟨g, n, c, ps, hgs, htm⟩ := h.mem
  have hpl : ps.length = n := by have := htm.row.cnt; simpa using this
  have hn : n = gs.length := by rw [hgs, List.length_map, hpl]
  have HTM := hide htm
  have HGS := hide hgs
  have HN := hide hn
  obtain ⟨⟨t0, t1⟩, z0, z1⟩ := htm.box.c2
  have hnw := h.wf.nw
  have hl := hlk w (Keeps.refl _ _)
  have HC := hide (fun W hk => rcopied_any X m d us l W (hlk W hk) (by omega))
  have HLO := hide (show ∀ c ∈ l, ChgOk c from fun c hc => by
    obtain ⟨j, hj⟩ := List.mem_iff_getElem?.1 hc
    have hjl := (List.getElem?_eq_some_iff.1 hj).1
    obtain ⟨x, hx, hr⟩ := hl.rd j (by rw [← hl.len]; exact hjl)
    rw [hj] at hx
    injection hx with hx
    exact hx ▸ hr.ok)
  have HLL := hide (show l.length ≤ 1000000 by rw [hl.len]; exact hm2)
  have HWF := hide h.wf
  have HADD := hide (h.wf.add (before := before) hs hb HLO.out HLL.out)
  have HNE := hide (show some t ≠ blk (some (⟨g, 0, none⟩ : Addr)) from fun e => htm.ne (by injection e with e; exact e.symm))
  have i2 : ((m : Int) == 0) = false := by simp; omega
  have hnb : n ≤ 100 := by omega
  have i3 : decide ((100 : Int) < (n : Int)) = false := by simp; omega
  have hnn : now < n := by omega
  have hpl2 : now < ps.length := by omega
  obtain ⟨p, hp⟩ : ∃ p, ps[now]? = some p := ⟨_, List.getElem?_eq_getElem (by omega)⟩
  have HP := hide hp
  obtain ⟨wd, hwd⟩ : ∃ wd, wd = w := ⟨_, rfl⟩
  subst hwd
  clear h hgs htm hn hl hlk hp hs
  go_enter Try.func57, Try.ntmps57
  go_upto_region 6 with fail
  go_cut [] (fun wx => ∃ (Q2 : Nat → Prop) (g2 c2 : Nat) (L : Option Addr) (nL cL : Nat) (vs : List CV), TR wx Q2 t g2 (n + 1) c2 now (ps ++ [((⟨L, nL, cL, vs, none, 0, 0⟩ : GV), (⟨l, before, now, [], 0⟩ : Grp))]) ∧ Keeps P wd wx ∧ ∀ b, Q2 b → P b ∨ wd.heap.size ≤ b)
  case first =>
    go_region_law (first
      | (refine step_appG refT (by rfl) (.tmp 34) (.tmp 43) (by rfl) 0 (by rfl) (HR1.out.alloc _) (m := 1) (d := 1) (by rfl) (us := [cellsR ((⟨L, nL, cL, vs, none, 0, 0⟩ : GV), (⟨l, before, now, [], 0⟩ : Grp))]) (news_box (cs := (cellsR ((⟨L, nL, cL, vs, none, 0, 0⟩ : GV), (⟨l, before, now, [], 0⟩ : Grp))).toArray) (Box.new w1 _ _)) (Each.one rfl (cellsR_one _)) rfl (by omega) (by omega) (by omega) (Nat.zero_le _) ?_
         intro g2 c2 w2 hr2 hg2 hb2 hor
         have hbt2 := (HBT1.out.alloc (.cells (cellsR ((⟨L, nL, cL, vs, none, 0, 0⟩ : GV), (⟨l, before, now, [], 0⟩ : Grp))).toArray 78)).grown hg2 HNE.out
         obtain ⟨⟨s0, s1⟩, y0, y1⟩ := hbt2.c2)
      | (go_simp; go_at_call 66; (with_reducible refine (HC.out _ (Keeps.refl P wd).drew).mono ?_); rintro e w1 ⟨L, nL, cL, vs, rfl, hrw, hel, hb1⟩
         have HB1 := hide ((Below.refl wd.heap.size wd).drew.trans hb1)
         have HR1 := hide (HTM.out.row.below HB1.out)
         have HBT1 := hide (HTM.out.box.below HB1.out)
         have HRW := hide hrw
         have HEL := hide hel
         obtain ⟨⟨k0, k1⟩, _⟩ := HBT1.out.c2
         have k2 : ∀ o, (w1.alloc o).cell? ⟨t, 0, none⟩ = some (.slice (some ⟨g, 0, none⟩) n c) := fun o => (HBT1.out.alloc o).c2.1.1
         clear hrw hel hb1))
    all_goals go_wp2_with fail
    all_goals go_meet
    all_goals
      obtain ⟨a1, a2⟩ := HTM.out.added HRW.out HEL.out HB1.out hg2 hor hr2
      exact ⟨_, g2, c2, L, nL, cL, vs, a1, a2, fun b hb' => by
        rcases hb' with hb' | hb'
        · exact .inl hb'
        · exact .inr hb'.1⟩
  case rest =>
    clear t0 t1 z0 z1 HNE HTM HC
    obtain ⟨Q2, g2, c2, L, nL, cL, vs, htm2, hk2, hq2⟩ := hcut
    have HP2 := hide (show (ps ++ [((⟨L, nL, cL, vs, none, 0, 0⟩ : GV), (⟨l, before, now, [], 0⟩ : Grp))])[now]? = some p by rw [List.getElem?_append_left (by omega)]; exact HP.out)
    have hxx : gs[now]? = some p.2 := by rw [HGS.out, List.getElem?_map, HP.out]; rfl
    have hkl : p.1.nK = p.2.kids.length := by
      have := ((htm2.each p (List.mem_of_getElem? HP2.out)).kids).cnt
      simp [kidC] at this
      omega
    have HKL := hide hkl
    have hkb : p.1.nK ≤ 100 := by have h1 := HWF.out.few _ _ hxx; have h2 := HN.out; omega
    have hcap := htm2.row.cap
    obtain ⟨⟨t0, t1⟩, z0, z1⟩ := htm2.box.c2
    have hrow := htm2.row
    have hv : ((ps ++ [((⟨L, nL, cL, vs, none, 0, 0⟩ : GV), (⟨l, before, now, [], 0⟩ : Grp))]).map cellsR)[now]? = some (cellsR p) := by rw [List.getElem?_map, HP2.out]; rfl
    obtain ⟨_, e3, c3, y3⟩ := hrow.cell hv (i := 3) (u := .int .i64 (p.2.picked : Int)) (by omega) rfl
    cases e3
    obtain ⟨_, e4, c4, y4⟩ := hrow.cell hv (i := 4) (u := .slice p.1.K p.1.nK p.1.cK) (by omega) rfl
    cases e4
    have i0 : (0 : Int) ≤ (now : Int) := by omega
    have i1 : (now : Int) < ((n + 1 : Nat) : Int) := by omega
    have i4 : (now : Int) < (n : Int) + 1 := by omega
    have HT2 := hide htm2
    have HK2 := hide hk2
    have HQ2 := hide hq2
    clear htm2 hxx hrow hv hkl hk2 hq2
    have HKS := hide (HT2.out.each p (List.mem_of_getElem? HP2.out))
    go_upto_region 7 with fail
    obtain ⟨wf, hwf⟩ : ∃ wf, wf = wc := ⟨_, rfl⟩
    rw [← hwf] at t0 t1 z0 z1 c3 y3 c4 y4 HT2 HK2 HKS ⊢
    clear hwf
    go_cut [] (fun wx => wx = (wf.setCell ⟨g2, now * 5 + 3, none⟩ (.int .i64 (p.1.nK : Int))).drew)
    case first =>
      clear HADD HGS HP HN HKL HWF HLO HLL HT2 HK2 HKS HQ2 HP2
      go_region
      all_goals go_wp2_with fail
      all_goals go_meet
      all_goals rfl
    case rest =>
    obtain rfl := hcut
    have hm2 := HKS.out
    have HT3 := hide ((HT2.out.setG (i := 3) (p' := ((p.1 : GV), ({ p.2 with picked := p.1.nK } : Grp))) (u := .int .i64 (p.1.nK : Int)) HP2.out (by omega) rfl rfl ⟨hm2.row, hm2.els, hm2.kids, hm2.inL, hm2.inK, hm2.inU⟩ (HT2.out.ap.set_same HP2.out rfl)).below (below_drewN (Below.refl _ _) 1))
    have HK3 := hide ((HK2.out.set (p := ⟨g2, now * 5 + 3, none⟩) (fun hl => by
      rcases HQ2.out g2 HT2.out.inG with h | h
      · exact h
      · exact absurd hl (by show ¬ g2 < wd.heap.size; omega)) (.int .i64 (p.1.nK : Int))).drewN 1)
    have HP3 := hide (show ((ps ++ [((⟨L, nL, cL, vs, none, 0, 0⟩ : GV), (⟨l, before, now, [], 0⟩ : Grp))]).set now ((p.1 : GV), ({ p.2 with picked := p.1.nK } : Grp)))[now]? = some ((p.1 : GV), ({ p.2 with picked := p.1.nK } : Grp)) from List.getElem?_set_self (by simp; omega))
    generalize hW0 : (wf.setCell ⟨g2, now * 5 + 3, none⟩ (.int .i64 (p.1.nK : Int))).drew = W0
    have hW1 : (wf.setCell ⟨g2, now * 5 + 3, none⟩ (.int .i64 (p.1.nK : Int))).drewN 1 = W0 := hW0
    rw [hW1] at HT3 HK3
    clear hW0 hW1 t0 t1 z0 z1 c3 y3 c4 y4 HT2 HK2 HKS HP2 hm2
    obtain ⟨⟨t0, t1⟩, z0, z1⟩ := HT3.out.box.c2
    have hv : (((ps ++ [((⟨L, nL, cL, vs, none, 0, 0⟩ : GV), (⟨l, before, now, [], 0⟩ : Grp))]).set now ((p.1 : GV), ({ p.2 with picked := p.1.nK } : Grp))).map cellsR)[now]? = some (cellsR ((p.1 : GV), ({ p.2 with picked := p.1.nK } : Grp))) := by rw [List.getElem?_map, HP3.out]; rfl
    obtain ⟨_, e4, c4, y4⟩ := HT3.out.row.cell hv (i := 4) (u := .slice p.1.K p.1.nK p.1.cK) (by omega) rfl
    cases e4
    have HKS3 := hide (HT3.out.each ((p.1 : GV), ({ p.2 with picked := p.1.nK } : Grp)) (List.mem_of_getElem? HP3.out)).kids
    have HKNE := hide (show ∀ b, blk p.1.K = some b → b ≠ t ∧ b ≠ g2 from fun b hb => by
      rcases HKS3.out.form with ⟨e, _⟩ | ⟨b', e, _⟩
      · have e' : p.1.K = none := e
        rw [e'] at hb; cases hb
      · have hk := HKS3.out
        have e' : p.1.K = some ⟨b', 0, none⟩ := e
        simp only [e'] at hk hb
        injection hb with hb
        have hb' : b' = b := hb
        subst hb'
        obtain ⟨cur, hx⟩ := hk.box
        refine ⟨fun e2 => ?_, fun e2 => ?_⟩
        · subst e2
          have h2 := HT3.out.box
          unfold Box at hx h2
          rw [h2] at hx
          injection hx with hx
          injection hx with _ hx
          exact absurd hx (by decide)
        · subst e2
          exact hx.ne_rowG HT3.out.row (by decide) rfl)
    have hgl : g2 < W0.heap.size := HT3.out.lt _ HT3.out.inG
    have htl : t < W0.heap.size := HT3.out.lt _ HT3.out.inT
    have hbb : Below W0.heap.size W0 ((W0.alloc (.cells #[.int .i64 (n : Int)] 3)).drewN 1) := below_drewN ((Below.refl _ _).alloc (Nat.le_refl _) _) 1
    have c5 : ∀ o, (W0.alloc o).cell? ⟨g2, now * 5 + 4, none⟩ = some (.slice p.1.K p.1.nK p.1.cK) := fun o => (((Below.refl _ W0).alloc (Nat.le_refl _) o).cell (p := ⟨g2, now * 5 + 4, none⟩) hgl).trans c4
    have t2 : ∀ o, (W0.alloc o).cell? ⟨t, 0, none⟩ = some (.slice (some ⟨g2, 0, none⟩) (n + 1) c2) := fun o => (((Below.refl _ W0).alloc (Nat.le_refl _) o).cell (p := ⟨t, 0, none⟩) htl).trans t0
    have t3 : ∀ o, (W0.alloc o).cell? ⟨t, 1, none⟩ = some (.int .i64 (now : Int)) := fun o => (((Below.refl _ W0).alloc (Nat.le_refl _) o).cell (p := ⟨t, 1, none⟩) htl).trans t1
    go_wp2_with fail
    go_cut [] (fun wx => RKid P wd t g2 n c2 now (fun k2 ck2 => ((ps ++ [((⟨L, nL, cL, vs, none, 0, 0⟩ : GV), (⟨l, before, now, [], 0⟩ : Grp))]).set now (({ p.1 with K := some ⟨k2, 0, none⟩, nK := p.1.nK + 1, cK := ck2 } : GV), ({ p.2 with kids := p.2.kids ++ [n], picked := p.1.nK } : Grp)))) wx)
    case first =>
      clear HADD HGS HP HN HKL HWF HLO HLL
      have hK := HKS3.out
      obtain ⟨k2, ck2, w2, hrun, hr2, hg2, hor⟩ := run_appG intT 23 ((hK.alloc (.cells #[.int .i64 (n : Int)] 3)).drewN 1) (X := ⟨W0.heap.size, 0, none⟩) (m := 1) (d := 1) (us := [[.int .i64 (n : Int)]]) (news_box (cs := #[.int .i64 (n : Int)]) ((Box.new W0 _ _).drewN 1)) (Each.one rfl (fun u hu => by rw [List.mem_singleton.1 hu]; rfl)) rfl (by show p.1.nK + 1 ≤ _; omega) (by show (p.1.nK + 1) * _ ≤ _; omega) (by omega) (Nat.zero_le _)
      have hrun' : (appSem #[23, 23] 23 #[.slice p.1.K p.1.nK p.1.cK, .slice (some ⟨W0.heap.size, 0, none⟩) 1 1]).run Try.prog (W0.alloc (.cells #[.int .i64 (n : Int)] 3)).drew = .ok (.slice (some ⟨k2, 0, none⟩) (p.1.nK + 1) ck2) w2 := hrun
      have s0 : w2.cell? ⟨t, 0, none⟩ = some (.slice (some ⟨g2, 0, none⟩) (n + 1) c2) := (hg2.cell_far ⟨t, 0, none⟩ (Nat.lt_of_lt_of_le htl hbb.size) (fun e => (HKNE.out t e.symm).1 rfl)).trans ((hbb.cell (p := ⟨t, 0, none⟩) htl).trans t0)
      have s1 : w2.cell? ⟨t, 1, none⟩ = some (.int .i64 (now : Int)) := (hg2.cell_far ⟨t, 1, none⟩ (Nat.lt_of_lt_of_le htl hbb.size) (fun e => (HKNE.out t e.symm).1 rfl)).trans ((hbb.cell (p := ⟨t, 1, none⟩) htl).trans t1)
      have s3 : w2.cell? ⟨g2, now * 5 + 4, none⟩ = some (.slice p.1.K p.1.nK p.1.cK) := (hg2.cell_far ⟨g2, now * 5 + 4, none⟩ (Nat.lt_of_lt_of_le hgl hbb.size) (fun e => (HKNE.out g2 e.symm).2 rfl)).trans ((hbb.cell (p := ⟨g2, now * 5 + 4, none⟩) hgl).trans c4)
      have s4 : w2.frozen? ⟨g2, now * 5 + 4, none⟩ = false := (hg2.frozen_far ⟨g2, now * 5 + 4, none⟩ (Nat.lt_of_lt_of_le hgl hbb.size) (fun e => (HKNE.out g2 e.symm).2 rfl)).trans ((hbb.frozen (p := ⟨g2, now * 5 + 4, none⟩) hgl).trans y4)
      have HRR := hide hr2
      have HGG := hide hg2
      have HOO := hide hor
      clear hrun hr2 hg2 hor hK hbb
      go_region
      clear hrun' s0 s1 s3 s4 c4 y4 c5 t2 t3 t0 t1 z0 z1 i0 i1 i2 i3 i4
      all_goals go_wp2_with fail
      all_goals go_meet
      all_goals
        obtain ⟨k2', ck2', Q3, a1, a2, a3⟩ := HT3.out.kid HK3.out HQ2.out HP3.out HGG.out HOO.out HRR.out
        rw [List.set_set] at a1
        exact ⟨k2', ck2', Q3, a1, a2, a3⟩
    case rest =>
      generalize wc = we at *
      obtain ⟨k2, ck2, Q3, htm4, hk4, hq4⟩ := hcut
      have HT4 := hide htm4
      have HK4 := hide hk4
      have HQ4 := hide hq4
      clear t0 t1 z0 z1 c4 y4 c5 t2 t3 hgl htl hbb hv HKNE HKS3 HT3 HK3 HQ2 HP3 W0
      obtain ⟨⟨t0, t1⟩, z0, z1⟩ := htm4.box.c2
      clear htm4 hk4 hq4
      go_wp2_with fail
      go_ret
      exact radd_done HADD.out HGS.out HP.out HN.out HKL.out HT4.out HK4.out HQ4.out rfl
end Go.Proofs.Ytjhnenljmmeflaa
