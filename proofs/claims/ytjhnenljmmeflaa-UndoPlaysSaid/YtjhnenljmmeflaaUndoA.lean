/- The contract of the tree's Add. -/
import Derived.Test.YtjhnenljmmeflaaUndoT
import Derived.Deep.RegionLaw
import Derived.IntWalk
namespace Go.Proofs.Ytjhnenljmmeflaa
open Go.RowKit
set_option linter.unusedVariables false

theorem GrpM.new {w : World} {B : Nat} {L : Option Addr} {nL cL : Nat} {vs : List CV} {l : List Chg} (before : Int) (now : Nat) (hr : RowC w B L nL cL vs) (he : Elts w B vs l) : GrpM w (fun b => B ≤ b ∧ b < w.heap.size) ⟨L, nL, cL, vs, none, 0, 0⟩ ⟨l, before, now, [], 0⟩ :=
  ⟨hr.mono (Nat.zero_le _), he.mono (Nat.zero_le _), RowG.nil _ _ _ _, hr.blk_ge, (fun b hb => by cases hb), fun u hu => by
    obtain ⟨j, hj⟩ := List.mem_iff_getElem?.1 hu
    obtain ⟨x, _, hx⟩ := he.at_ j u hj
    exact ⟨hx.cut.blk_ge, hx.put.blk_ge⟩⟩
theorem TM.added {w w1 w2 : World} {P : Nat → Prop} {t g n c now g2 c2 : Nat} {ps : List (GV × Grp)} {L : Option Addr} {nL cL : Nat} {vs : List CV} {l : List Chg} {before : Int} {o : Obj} (h : TM w P t g n c now ps) (hrw : RowC w1 w.heap.size L nL cL vs) (hel : Elts w1 w.heap.size vs l)
    (hb : Below w.heap.size w w1) (hg : (w1.alloc o).grownBy w2 (some g)) (hor : some g = some g2 ∨ g2 = (w1.alloc o).heap.size)
    (hr : RowG w2 75 5 0 (some ⟨g2, 0, none⟩) (n + 1) c2 (ps.map cellsP ++ [cellsP (⟨L, nL, cL, vs, none, 0, 0⟩, ⟨l, before, now, [], 0⟩)])) :
    TM (w2.setCell ⟨t, 0, none⟩ (.slice (some ⟨g2, 0, none⟩) (n + 1) c2)) (fun b => P b ∨ (w.heap.size ≤ b ∧ b < (w2.setCell ⟨t, 0, none⟩ (.slice (some ⟨g2, 0, none⟩) (n + 1) c2)).heap.size)) t g2 (n + 1) c2 now (ps ++ [(⟨L, nL, cL, vs, none, 0, 0⟩, ⟨l, before, now, [], 0⟩)]) ∧
      Keeps P w (w2.setCell ⟨t, 0, none⟩ (.slice (some ⟨g2, 0, none⟩) (n + 1) c2)) := by
  have hba := hb.alloc hb.size o
  have hbo : Below w1.heap.size w1 (w1.alloc o) := (Below.refl _ _).alloc (Nat.le_refl _) o
  have hn : GrpM (w1.alloc o) (fun b => w.heap.size ≤ b ∧ b < (w1.alloc o).heap.size) ⟨L, nL, cL, vs, none, 0, 0⟩ ⟨l, before, now, [], 0⟩ :=
    (GrpM.new before now hrw hel).same (fun b hb' => hbo.block b hb'.2) fun b hb' => ⟨hb'.1, by simp; omega⟩
  have hT := h.grow hba hg (by rcases hor with e | e; exact .inl (by injection e); exact .inr e) hr hn rfl
  refine ⟨hT.same (fun _ _ => rfl) (fun b hb' => ?_) (fun b hb' => ?_), ?_⟩
  · rcases hb' with hb' | hb'
    · exact .inl hb'
    · exact .inr ⟨hb'.1, by simpa [World.setCell] using hb'.2⟩
  · rcases hb' with hb' | hb'
    · exact hT.lt b (.inl hb')
    · exact hb'.2
  · refine Keeps.set (p := ⟨t, 0, none⟩) ?_ (fun _ => h.inT) _
    exact Keeps.grown ((Keeps.refl P w).below hba) hg fun b hb' _ => by
      injection hb' with hb'
      exact hb' ▸ h.inG

/-- Another tree's parts come to lie in this one. -/
theorem TM.moved {w w1 : World} {P : Nat → Prop} {t g n c now t' g' n' c' now' : Nat} {ps ps' : List (GV × Grp)} (h : TM w P t g n c now ps) (hb : Below w.heap.size w w1) (h2 : TM w1 (fun b => w.heap.size ≤ b ∧ b < w1.heap.size) t' g' n' c' now' ps') :
    TM ((w1.setCell ⟨t, 0, none⟩ (.slice (some ⟨g', 0, none⟩) n' c')).setCell ⟨t, 1, none⟩ (.int .i64 (now' : Int))) (fun b => P b ∨ (w.heap.size ≤ b ∧ b < ((w1.setCell ⟨t, 0, none⟩ (.slice (some ⟨g', 0, none⟩) n' c')).setCell ⟨t, 1, none⟩ (.int .i64 (now' : Int))).heap.size)) t g' n' c' now' ps' ∧
    Keeps P w ((w1.setCell ⟨t, 0, none⟩ (.slice (some ⟨g', 0, none⟩) n' c')).setCell ⟨t, 1, none⟩ (.int .i64 (now' : Int))) := by
  have htl := h.lt t h.inT
  have hgl := h2.inG
  have hs := hb.size
  have hne : blk (some (⟨g', 0, none⟩ : Addr)) ≠ some t := fun e => by
    injection e with e
    have e' : g' = t := e
    omega
  have hx := h.box.below hb
  have hsz : ((w1.setCell ⟨t, 0, none⟩ (.slice (some ⟨g', 0, none⟩) n' c')).setCell ⟨t, 1, none⟩ (.int .i64 (now' : Int))).heap.size = w1.heap.size := by simp [World.setCell]
  refine ⟨⟨(hx.set 0 _).set 1 _, (h2.row.far (p := ⟨t, 0, none⟩) hne _).far (p := ⟨t, 1, none⟩) hne _, fun p hp => ?_, h2.ap, fun b hb' => ?_, .inl h.inT, .inr ⟨hgl.1, by rw [hsz]; exact hgl.2⟩⟩, ?_⟩
  · exact (((h2.each p hp).stay hx (by decide) (by decide) (by decide) fun b _ hn => Below.heap_setCell w1 ⟨t, 0, none⟩ _ b hn).stay (hx.set 0 _) (by decide) (by decide) (by decide) fun b _ hn => Below.heap_setCell _ ⟨t, 1, none⟩ _ b hn).wider fun b hb' => .inr ⟨hb'.1, by rw [hsz]; exact hb'.2⟩
  · rw [hsz] at hb' ⊢
    rcases hb' with hb' | hb'
    · have := h.lt b hb'; omega
    · exact hb'.2
  · exact ((((Keeps.refl P w).below hb).set (p := ⟨t, 0, none⟩) (fun _ => h.inT) _).set (p := ⟨t, 1, none⟩) (fun _ => h.inT) _)

/-- One more kid: all that the walk needs of it. -/
theorem TM.kid {w W0 w2 : World} {P Q : Nat → Prop} {t g n2 c2 now n k2 ck2 : Nat} {ps : List (GV × Grp)} {p : GV × Grp} {o : Obj} (h : TM W0 Q t g n2 c2 now ps) (hk : Keeps P w W0) (hq : ∀ b, Q b → P b ∨ w.heap.size ≤ b) (hp : ps[now]? = some p)
    (hg : (W0.alloc o).drew.grownBy w2 (blk p.1.K)) (hor : blk p.1.K = some k2 ∨ k2 = (W0.alloc o).drew.heap.size) (hr : RowG w2 3 1 0 (some ⟨k2, 0, none⟩) (p.1.nK + 1) ck2 (kidC p.2.kids ++ [[.int .i64 (n : Int)]])) :
    ∃ (k2' ck2' : Nat) (Q2 : Nat → Prop), TM (w2.setCell ⟨g, now * 5 + 3, none⟩ (.slice (some ⟨k2, 0, none⟩) (p.1.nK + 1) ck2)) Q2 t g n2 c2 now (ps.set now ({ p.1 with K := some ⟨k2', 0, none⟩, nK := p.1.nK + 1, cK := ck2' }, { p.2 with kids := p.2.kids ++ [n] })) ∧
      Keeps P w (w2.setCell ⟨g, now * 5 + 3, none⟩ (.slice (some ⟨k2, 0, none⟩) (p.1.nK + 1) ck2)) ∧ ∀ b, Q2 b → P b ∨ w.heap.size ≤ b := by
  have hbb : Below W0.heap.size W0 (W0.alloc o).drew := ((Below.refl _ _).alloc (Nat.le_refl _) _).drew
  have e : kidC (p.2.kids ++ [n]) = kidC p.2.kids ++ [[.int .i64 (n : Int)]] := by unfold kidC; rw [List.map_append]; rfl
  rw [← e] at hr
  refine ⟨k2, ck2, _, h.addKid hp hbb hg hor hr, ?_, fun b hb' => ?_⟩
  · refine (Keeps.grown (hk.below hbb) hg fun b hb' hlt => ?_).set (p := ⟨g, now * 5 + 3, none⟩) (fun hlt => ?_) _
    · rcases hq b ((h.each p (List.mem_of_getElem? hp)).inK b hb') with h1 | h1
      · exact h1
      · omega
    · rcases hq g h.inG with h1 | h1
      · exact h1
      · exact absurd hlt (by show ¬ g < w.heap.size; omega)
  · rcases hb' with hb' | hb'
    · exact hq b hb'
    · have := hk.size
      exact .inr (by omega)

/-- What Add hands back: true; the tree has one group more. -/
def AddR (w : World) (P : Nat → Prop) (t : Nat) (gs : List Grp) (now : Nat) (l : List Chg) (before : Int) (e : Ending) (w' : World) : Prop :=
  e = .returned (.bool true) ∧ ∃ Q, TreeM w' Q t (addG gs now l before) gs.length ∧ Keeps P w w' ∧ ∀ b, Q b → P b ∨ w.heap.size ≤ b
theorem add_done {w W : World} {P Q : Nat → Prop} {t g n now k2 ck2 c2 : Nat} {gs : List Grp} {ps : List (GV × Grp)} {p : GV × Grp} {l : List Chg} {before : Int} {vn : GV} {e : Ending} (hwf : WF (addG gs now l before) gs.length) (hgs : gs = ps.map (·.2)) (hp : ps[now]? = some p) (hn : n = gs.length) (hkl : p.1.nK = p.2.kids.length)
    (hT : TM W Q t g (n + 1) c2 now ((ps ++ [(vn, (⟨l, before, now, [], 0⟩ : Grp))]).set now ({ p.1 with K := some ⟨k2, 0, none⟩, nK := p.1.nK + 1, cK := ck2 }, { p.2 with kids := p.2.kids ++ [n] }))) (hk : Keeps P w W) (hq : ∀ b, Q b → P b ∨ w.heap.size ≤ b) (he : e = .returned (.bool true)) :
    AddR w P t gs now l before e ((W.setCell ⟨g, now * 5 + 4, none⟩ (.int .i64 (p.1.nK : Int))).setCell ⟨t, 1, none⟩ (.int .i64 (n : Int))) := by
  have hlt := (List.getElem?_eq_some_iff.1 hp).1
  have hlt2 : now < (ps ++ [(vn, (⟨l, before, now, [], 0⟩ : Grp))]).length := by simp; omega
  have hg := hT.each _ (List.mem_of_getElem? (List.getElem?_set_self hlt2))
  have hm : GrpM W Q ({ p.1 with K := some ⟨k2, 0, none⟩, nK := p.1.nK + 1, cK := ck2 } : GV) ({ p.2 with kids := p.2.kids ++ [n], picked := p.1.nK } : Grp) := ⟨hg.row, hg.els, hg.kids, hg.inL, hg.inK, hg.inU⟩
  have h1 := hT.setG (i := 4) (u := .int .i64 (p.1.nK : Int)) (p' := ({ p.1 with K := some ⟨k2, 0, none⟩, nK := p.1.nK + 1, cK := ck2 }, { p.2 with kids := p.2.kids ++ [n], picked := p.1.nK })) (List.getElem?_set_self hlt2) (by omega) rfl rfl
    hm (hT.ap.set_same (List.getElem?_set_self hlt2) rfl)
  have h2 := h1.setNow n
  have hxx : gs[now]? = some p.2 := by rw [hgs, List.getElem?_map, hp]; rfl
  have e1 : ((((ps ++ [(vn, (⟨l, before, now, [], 0⟩ : Grp))]).set now ({ p.1 with K := some ⟨k2, 0, none⟩, nK := p.1.nK + 1, cK := ck2 }, { p.2 with kids := p.2.kids ++ [n] })).set now ({ p.1 with K := some ⟨k2, 0, none⟩, nK := p.1.nK + 1, cK := ck2 }, { p.2 with kids := p.2.kids ++ [n], picked := p.1.nK })).map (·.2)) = addG gs now l before := by
    rw [List.set_set, addG_at hxx, List.map_set, List.map_append, ← hgs, List.set_append_left _ _ (by rw [hgs]; simpa using hlt)]
    simp [kidded, hn, hkl]
  have h3 := h2.tree (by rw [e1, hn]; exact hwf)
  rw [e1] at h3
  rw [hn] at h3 ⊢
  refine ⟨he, Q, h3, ?_, hq⟩
  refine (hk.set (p := ⟨g, now * 5 + 4, none⟩) (fun hl => ?_) _).set (p := ⟨t, 1, none⟩) (fun hl => ?_) _
  · rcases hq g hT.inG with h | h
    · exact h
    · exact absurd hl (by show ¬ g < w.heap.size; omega)
  · rcases hq t hT.inT with h | h
    · exact h
    · exact absurd hl (by show ¬ t < w.heap.size; omega)

set_option maxRecDepth 100000 in
set_option maxHeartbeats 8000000 in
theorem add_any (w : World) (P : Nat → Prop) (t : Nat) (gs gs' : List Grp) (now now' : Nat) (X : Option Addr) (m d : Nat) (us : Nat → CV) (l : List Chg) (before : Int) (h : TreeM w P t gs now) (hlk : ∀ W, Keeps P w W → Chgs W X m us l) (hm : 0 < m) (hm2 : m ≤ 1000000)
    (hb : -9223372036854775808 ≤ before ∧ before ≤ 9223372036854775807) (hc : (gs.length ≤ 100 ∧ gs' = gs ∧ now' = now) ∨ (100 < gs.length ∧ gs' = [root0] ∧ now' = 0)) :
    Calls Try.prog 18 #[.pointer (some ⟨t, 0, none⟩), .slice X m d, .int .i64 before] w (AddR w P t gs' now' l before) := by
  have H := hide h
  obtain ⟨g, n, c, ps, hgs, htm, hn⟩ := h.tm
  have HTM := hide htm
  have HGS := hide hgs
  have HN := hide hn
  have HCC := hide hc
  obtain ⟨⟨t0, t1⟩, z0, z1⟩ := htm.box.c2
  have hnw := h.wf.nw
  have hsz := h.wf.size
  have hl := hlk w (Keeps.refl _ _)
  have HC := hide (fun W hk => ccopy_any X m d us l W (hlk W hk) (by omega))
  have HLO := hide (show ∀ c ∈ l, ChgOk c from fun c hc => by
    obtain ⟨j, hj⟩ := List.mem_iff_getElem?.1 hc
    have hjl := (List.getElem?_eq_some_iff.1 hj).1
    obtain ⟨x, hx, hr⟩ := hl.rd j (by rw [← hl.len]; exact hjl)
    rw [hj] at hx
    injection hx with hx
    exact hx ▸ hr.ok)
  have HLL := hide (show l.length ≤ 1000000 by rw [hl.len]; exact hm2)
  have i2 : ((m : Int) == 0) = false := by simp; omega
  clear h hgs htm hn hl hc hlk
  go_enter Try.func18, Try.ntmps18
  go_upto_if 20 with fail
  go_cut [] (fun wx => ∃ (Q : Nat → Prop) (g1 n1 c1 : Nat) (ps1 : List (GV × Grp)), gs' = ps1.map (·.2) ∧ n1 = gs'.length ∧ TM wx Q t g1 n1 c1 now' ps1 ∧ Keeps P w wx ∧ ∀ b, Q b → P b ∨ w.heap.size ≤ b)
  case first =>
    go_wp2_with (first
      | (go_at_call 15; (with_reducible refine (new_any _).mono ?_); rintro e w1 ⟨t', rfl, hT1, hb1⟩
         obtain ⟨g1, n1, c1, ps1, hgs1, htm1, hn1⟩ := hT1.tm
         obtain rfl : n1 = 1 := hn1
         have HTM1 := hide htm1
         have HGS1 := hide hgs1
         obtain ⟨⟨r0, r1⟩, _⟩ := htm1.box.c2
         obtain ⟨⟨q0, q1⟩, f0, f1⟩ := (HTM.out.box.below hb1).c2
         clear hgs1 htm1 hT1))
    all_goals go_meet
    · have hh := HCC.out
      have hN := HN.out
      rcases hh with ⟨h1, _⟩ | ⟨_, rfl, rfl⟩
      · omega
      · obtain ⟨a1, a2⟩ := HTM.out.moved hb1 HTM1.out
        exact ⟨_, g1, 1, c1, ps1, HGS1.out, rfl, a1, a2, fun b hb' => by
          rcases hb' with hb' | hb'
          · exact .inl hb'
          · exact .inr hb'.1⟩
    · have hh := HCC.out
      have hN := HN.out
      rcases hh with ⟨_, rfl, rfl⟩ | ⟨h1, _⟩
      · exact ⟨P, g, n, c, ps, HGS.out, HN.out, HTM.out, Keeps.refl _ _, fun b hb' => .inl hb'⟩
      · omega
  case rest =>
    have hgl' : gs'.length ≤ 100 ∧ WF gs' now' := by
      have hh := HCC.out
      rcases hh with ⟨h1, rfl, rfl⟩ | ⟨_, rfl, rfl⟩
      · exact ⟨h1, H.out.wf⟩
      · exact ⟨by simp, WF.root⟩
    have HWF := hide hgl'.2
    have HADD := hide (hgl'.2.add (before := before) hgl'.1 hb HLO.out HLL.out)
    have hsl := hgl'.1
    have hnw' := hgl'.2.nw
    clear H g n c ps HTM HGS HN HCC t0 t1 z0 z1 hnw hsz gs now hgl'
    obtain ⟨Q, g, n, c, ps, hgs, hn, htm, hk, hq⟩ := hcut
    have HTM := hide htm
    have HGS := hide hgs
    have HN := hide hn
    have HK := hide hk
    have HQ := hide hq
    obtain ⟨⟨t0, t1⟩, z0, z1⟩ := htm.box.c2
    have HNE := hide (show some t ≠ blk (some (⟨g, 0, none⟩ : Addr)) from fun e => htm.ne (by injection e with e; exact e.symm))
    clear hgs htm hn hk hq
    have hnb : n ≤ 100 := by have := HN.out; omega
    go_upto_region 5 with fail
    generalize wc = wd at *
    go_cut [] (fun wx => ∃ (Q2 : Nat → Prop) (g2 c2 : Nat) (L : Option Addr) (nL cL : Nat) (vs : List CV), TM wx Q2 t g2 (n + 1) c2 now' (ps ++ [((⟨L, nL, cL, vs, none, 0, 0⟩ : GV), (⟨l, before, now', [], 0⟩ : Grp))]) ∧ Keeps P w wx ∧ ∀ b, Q2 b → P b ∨ w.heap.size ≤ b)
    case first =>
      go_region_law (first
        | (refine step_appG groupT (by rfl) (.tmp 30) (.tmp 39) (by rfl) 0 (by rfl) (HR1.out.alloc _) (m := 1) (d := 1) (by rfl) (us := [cellsP ((⟨L, nL, cL, vs, none, 0, 0⟩ : GV), (⟨l, before, now', [], 0⟩ : Grp))]) (news_box (cs := (cellsP ((⟨L, nL, cL, vs, none, 0, 0⟩ : GV), (⟨l, before, now', [], 0⟩ : Grp))).toArray) (Box.new w1 _ _)) (Each.one rfl (cellsP_one _)) rfl (by omega) (by omega) (by omega) (Nat.zero_le _) ?_
           intro g2 c2 w2 hr2 hg2 hb2 hor
           have hbt2 := (HBT1.out.alloc (.cells (cellsP ((⟨L, nL, cL, vs, none, 0, 0⟩ : GV), (⟨l, before, now', [], 0⟩ : Grp))).toArray 75)).grown hg2 HNE.out
           obtain ⟨⟨s0, s1⟩, y0, y1⟩ := hbt2.c2)
        | (go_simp; go_at_call 51; (with_reducible refine (HC.out _ HK.out.drew).mono ?_); rintro e w1 ⟨L, nL, cL, vs, rfl, hrw, hel, hap, hb1⟩
           have HB1 := hide ((Below.refl wd.heap.size wd).drew.trans hb1)
           have HR1 := hide (HTM.out.row.below HB1.out)
           have HBT1 := hide (HTM.out.box.below HB1.out)
           have HRW := hide hrw
           have HEL := hide hel
           obtain ⟨⟨k0, k1⟩, _⟩ := HBT1.out.c2
           have k2 : ∀ o, (w1.alloc o).cell? ⟨t, 0, none⟩ = some (.slice (some ⟨g, 0, none⟩) n c) := fun o => (HBT1.out.alloc o).c2.1.1
           clear hrw hel hap hb1))
      all_goals go_wp2_with fail
      all_goals go_meet
      all_goals
        obtain ⟨a1, a2⟩ := HTM.out.added HRW.out HEL.out HB1.out hg2 hor hr2
        exact ⟨_, g2, c2, L, nL, cL, vs, a1, HK.out.trans a2 (fun b hb1' hb2' => (HQ.out b hb2').resolve_right (by omega)), fun b hb' => by
          rcases hb' with hb' | hb'
          · exact HQ.out b hb'
          · have := HK.out.size
            exact .inr (by omega)⟩
    case rest =>
      have hpl : ps.length = n := by have := HTM.out.row.cnt; simpa using this
      have hN := HN.out
      obtain ⟨p, hp⟩ : ∃ p, ps[now']? = some p := ⟨_, List.getElem?_eq_getElem (by omega)⟩
      have HP := hide hp
      clear t0 t1 z0 z1 HNE HTM HK HQ hp HC
      obtain ⟨Q2, g2, c2, L, nL, cL, vs, htm2, hk2, hq2⟩ := hcut
      have HP2 := hide (show (ps ++ [((⟨L, nL, cL, vs, none, 0, 0⟩ : GV), (⟨l, before, now', [], 0⟩ : Grp))])[now']? = some p by rw [List.getElem?_append_left (by omega)]; exact HP.out)
      have hxx : gs'[now']? = some p.2 := by rw [HGS.out, List.getElem?_map, HP.out]; rfl
      have hkl : p.1.nK = p.2.kids.length := by
        have := ((htm2.each p (List.mem_of_getElem? HP2.out)).kids).cnt
        simp [kidC] at this
        omega
      have HKL := hide hkl
      have hkb : p.1.nK < gs'.length := by rw [hkl]; exact HWF.out.few _ _ hxx
      have hcap := htm2.row.cap
      obtain ⟨⟨t0, t1⟩, z0, z1⟩ := htm2.box.c2
      have hrow := htm2.row
      have hv : ((ps ++ [((⟨L, nL, cL, vs, none, 0, 0⟩ : GV), (⟨l, before, now', [], 0⟩ : Grp))]).map cellsP)[now']? = some (cellsP p) := by rw [List.getElem?_map, HP2.out]; rfl
      obtain ⟨_, e3, c3, y3⟩ := hrow.cell hv (i := 3) (u := .slice p.1.K p.1.nK p.1.cK) (by omega) rfl
      cases e3
      have HKS := hide (htm2.each p (List.mem_of_getElem? HP2.out)).kids
      have hgt := htm2.ne
      have hnn : now' < n := by omega
      have i0 : (0 : Int) ≤ (now' : Int) := by omega
      have i1 : (now' : Int) < ((n + 1 : Nat) : Int) := by omega
      have w1 := hide (show IntKind.i64.wrap (n : Int) = (n : Int) by rw [IntWalk.i64_in _ (by omega)])
      have HT2 := hide htm2
      have HK2 := hide hk2
      have HQ2 := hide hq2
      clear htm2 hxx hrow hv hkl hk2 hq2 hN
      go_wp2_with fail
      go_quiet (fail)
      go_wp2_with fail
      have HT3 := hide (HT2.out.below (below_drewN (Below.refl _ _) nq))
      have HK3 := hide (HK2.out.drewN nq)
      have HKS3 := hide (HKS.out.drewN nq)
      have hcs : ((wc.drewN nq).cell? ⟨t, 0, none⟩ = some (.slice (some ⟨g2, 0, none⟩) (n + 1) c2) ∧ (wc.drewN nq).cell? ⟨g2, now' * 5 + 3, none⟩ = some (.slice p.1.K p.1.nK p.1.cK)) ∧ (wc.drewN nq).frozen? ⟨g2, now' * 5 + 3, none⟩ = false := ⟨⟨t0, c3⟩, y3⟩
      generalize hW0 : wc.drewN nq = W0 at HT3 HK3 HKS3 hcs ⊢
      clear hW0 HT2 HK2 HKS t0 t1 z0 z1 c3 y3
      obtain ⟨⟨t0, c3⟩, y3⟩ := hcs
      have v1 := w1.out
      have HKNE := hide (show ∀ b, blk p.1.K = some b → b ≠ t ∧ b ≠ g2 from fun b hb => by
        rcases HKS3.out.form with ⟨e, _⟩ | ⟨b', e, _⟩
        · rw [e] at hb; cases hb
        · have hk := HKS3.out
          rw [e] at hk hb
          injection hb with hb
          have hb' : b' = b := hb
          subst hb'
          obtain ⟨cur, hx⟩ := hk.box
          refine ⟨fun e2 => ?_, fun e2 => ?_⟩
          · subst e2
            have h2 := HT3.out.box
            unfold Box at hx h2
            rw [h2] at hx
            injection hx with hx
            injection hx with _ hx
            exact absurd hx (by decide)
          · subst e2
            exact hx.ne_rowG HT3.out.row (by decide) rfl)
      have hgl : g2 < W0.heap.size := HT3.out.lt _ HT3.out.inG
      have hbb : Below W0.heap.size W0 ((W0.alloc (.cells #[.int .i64 (n : Int)] 3)).drewN 1) := below_drewN ((Below.refl _ _).alloc (Nat.le_refl _) _) 1
      have c4 : ∀ o, (W0.alloc o).cell? ⟨g2, now' * 5 + 3, none⟩ = some (.slice p.1.K p.1.nK p.1.cK) := fun o => (((Below.refl _ W0).alloc (Nat.le_refl _) o).cell (p := ⟨g2, now' * 5 + 3, none⟩) hgl).trans c3
      go_cut [] (fun wx => ∃ (k2 ck2 : Nat) (Q3 : Nat → Prop), TM wx Q3 t g2 (n + 1) c2 now' ((ps ++ [((⟨L, nL, cL, vs, none, 0, 0⟩ : GV), (⟨l, before, now', [], 0⟩ : Grp))]).set now' ({ p.1 with K := some ⟨k2, 0, none⟩, nK := p.1.nK + 1, cK := ck2 }, { p.2 with kids := p.2.kids ++ [n] })) ∧ Keeps P w wx ∧ ∀ b, Q3 b → P b ∨ w.heap.size ≤ b)
      case first =>
        go_region_law (first
          | (refine step_appG intT (by rfl) (.tmp 56) (.tmp 63) (by rfl) 0 (by rfl) ((HKS3.out.alloc _).drewN 1) (m := 1) (d := 1) (by rfl) (us := [[.int .i64 (n : Int)]]) (news_box (cs := #[.int .i64 (n : Int)]) ((Box.new W0 _ _).drewN 1)) (Each.one rfl (fun u hu => by rw [List.mem_singleton.1 hu]; rfl)) rfl (by omega) (by omega) (by omega) (Nat.zero_le _) ?_
             intro k2 ck2 w2 hr2 hg2 hb2 hor
             have s3 := (hg2.cell_far ⟨g2, now' * 5 + 3, none⟩ (Nat.lt_of_lt_of_le hgl hbb.size) (fun e => (HKNE.out g2 e.symm).2 rfl)).trans ((hbb.cell (p := ⟨g2, now' * 5 + 3, none⟩) hgl).trans c3)
             have s4 := (hg2.frozen_far ⟨g2, now' * 5 + 3, none⟩ (Nat.lt_of_lt_of_le hgl hbb.size) (fun e => (HKNE.out g2 e.symm).2 rfl)).trans ((hbb.frozen (p := ⟨g2, now' * 5 + 3, none⟩) hgl).trans y3)))
        all_goals go_wp2_with fail
        all_goals go_meet
        all_goals exact HT3.out.kid HK3.out HQ2.out HP2.out hg2 hor hr2
      case rest =>
        generalize wc = we at *
        obtain ⟨k2, ck2, Q3, htm4, hk4, hq4⟩ := hcut
        have HT4 := hide htm4
        have HK4 := hide hk4
        have HQ4 := hide hq4
        clear t0 c3 y3 c4 hgl hbb HKNE HKS3 HT3 HK3 HQ2 W0
        obtain ⟨⟨t0, t1⟩, z0, z1⟩ := htm4.box.c2
        have hlt2 : now' < (ps ++ [((⟨L, nL, cL, vs, none, 0, 0⟩ : GV), (⟨l, before, now', [], 0⟩ : Grp))]).length := by simp; omega
        have hv : (((ps ++ [((⟨L, nL, cL, vs, none, 0, 0⟩ : GV), (⟨l, before, now', [], 0⟩ : Grp))]).set now' (({ p.1 with K := some ⟨k2, 0, none⟩, nK := p.1.nK + 1, cK := ck2 } : GV), ({ p.2 with kids := p.2.kids ++ [n] } : Grp))).map cellsP)[now']? = some (cellsP (({ p.1 with K := some ⟨k2, 0, none⟩, nK := p.1.nK + 1, cK := ck2 } : GV), ({ p.2 with kids := p.2.kids ++ [n] } : Grp))) := by rw [List.getElem?_map, List.getElem?_set_self hlt2]; rfl
        obtain ⟨_, e3, c3, y3⟩ := htm4.row.cell hv (i := 3) (u := .slice (some ⟨k2, 0, none⟩) (p.1.nK + 1) ck2) (by omega) rfl
        cases e3
        obtain ⟨_, e4, c4, y4⟩ := htm4.row.cell hv (i := 4) (u := .int .i64 (p.2.picked : Int)) (by omega) rfl
        cases e4
        have v2 : IntKind.i64.wrap (p.1.nK : Int) = (p.1.nK : Int) := by rw [IntWalk.i64_in _ (by omega)]
        clear htm4 hk4 hq4 hv hlt2
        go_wp2_with fail
        go_ret
        exact add_done HADD.out HGS.out HP.out HN.out HKL.out HT4.out HK4.out HQ4.out rfl
end Go.Proofs.Ytjhnenljmmeflaa
