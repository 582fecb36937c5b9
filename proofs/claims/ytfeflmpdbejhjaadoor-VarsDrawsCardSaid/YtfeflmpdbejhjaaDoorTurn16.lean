/- The walk of VarsTurned. -/
import Derived.Test.YtfeflmpdbejhjaaDoorNumb16
import Derived.Laws.MakeOwn
import Derived.Deep.CutBlock
import Derived.Deep.DeepCutAuto
namespace Go.Proofs.YtfeflmpdbejhjaaDoor
open Go.RowKit
set_option linter.unusedVariables false

theorem made_zerosI (n : Nat) : madeCells #[.int .i64 0] n = ((List.replicate n (0 : Int)).map (Value.int .i64)).toArray := by
  apply Array.ext
  · simp [madeCells]
  · intro i h1 h2
    simp [madeCells, Nat.mod_one]
theorem run_makeI (n : Nat) (hn : n ≤ 1000) (W : World) :
    (Instr.makeSlice 24 (.int .i64 (n : Int)) (.int .i64 (n : Int))).run Tryd.prog W = .ok (.slice (some ⟨W.heap.size, 0, none⟩) n n) (W.alloc (.cells ((List.replicate n (0 : Int)).map (Value.int .i64)).toArray 3)) := by
  obtain ⟨i0, hi, hz0, hz1, hz2⟩ := info_parts intInfo
  have h := run_make (P := Tryd.prog) W 24 3 i0 (.int .i64 0) Tryd.underlying24 hi hz0 .i64 .i64 n n (by omega) (by omega) (by rw [hz2]; omega) (by omega)
  rw [hz1, Int.toNat_natCast, Nat.mul_one] at h
  rw [h, ← made_zerosI]
  rfl
theorem made_ints {W : World} {g : Nat} (hg : W.heap.size = g) (n : Nat) : IntsR (W.alloc (.cells ((List.replicate n (0 : Int)).map (Value.int .i64)).toArray 3)) (some ⟨g, 0, none⟩) n (List.replicate n 0) := by
  have h := ints_box (zs := List.replicate n (0 : Int)) (Box.newAt hg 3 _) rfl (fun x hx => by obtain ⟨_, rfl⟩ := List.mem_replicate.1 hx; omega)
  rwa [List.length_replicate] at h
theorem and_15n (k : Int) : ∃ r : Nat, bits .and .i64 k 15 = ((r : Nat) : Int) ∧ r < 16 := by
  have h : bits .and .i64 k 15 = IntKind.i64.wrap ((BitVec.ofInt 64 k &&& BitVec.ofInt 64 15).toNat : Int) := rfl
  have hb : (BitVec.ofInt 64 k &&& BitVec.ofInt 64 15).toNat ≤ 15 := by
    rw [BitVec.toNat_and]
    exact Nat.le_trans Nat.and_le_right (by decide)
  refine ⟨(BitVec.ofInt 64 k &&& BitVec.ofInt 64 15).toNat, ?_, by omega⟩
  rw [h, IntKind.wrap_i64]
  omega
/-- One draw more, by append. -/
theorem EB.app {w0 w w' : World} {ge B' : Nat} {e : EnvH} {v : EnvV} {A' : Option Addr} {c' : Nat} {x : Int} (h : EB w0 w ge e v) (hT : ∀ i b o, (e.t i).A = some ⟨b, o, none⟩ → 0 < (e.t i).n → b < B') (hB : ∀ b, blk e.d.A = some b → B' ≤ b) (hne : blk e.d.A ≠ some ge) (h0 : w0.heap.size ≤ B') (hx : -9223372036854775808 ≤ x ∧ x ≤ 9223372036854775807) (hn : e.d.n ≤ 1000)
    (hr : RowI w' B' A' (e.d.n + 1) c' (v.d ++ [x])) (hg : w.grownBy w' (blk e.d.A)) (hor : blk A' = blk e.d.A ∨ blk A' = some w.heap.size) : EB w0 (w'.setCell ⟨ge, 14, none⟩ (.slice A' (e.d.n + 1) c')) ge (e.setD ⟨A', e.d.n + 1, c'⟩) (v.setD (v.d ++ [x])) := by
  have hne2 : blk A' ≠ some ge := by
    rcases hor with h1 | h1
    · rw [h1]
      exact hne
    · rw [h1]
      intro e2
      injection e2 with e2
      have := h.box.lt
      omega
  have hr2 : RowI (w'.setCell ⟨ge, 14, none⟩ (.slice A' (e.d.n + 1) c')) B' A' (e.d.n + 1) c' (v.d ++ [x]) := hr.far (p := ⟨ge, 14, none⟩) hne2 _
  have hv := RowI.read hr2
  refine ⟨by rw [← cells_setD]; exact (h.box.grown hg (fun e => hne e.symm)).set 14 _, ⟨fun i => ?_, h.rd.tn, ⟨hv.len, hv.at_, fun y hy => ?_⟩, by show e.d.n + 1 ≤ _; omega, h.rd.ix, h.rd.ck, h.rd.ib, h.rd.cb⟩, h.ot, fun b o ha _ => ?_, ?_, h.lo⟩
  · refine (h.rd.tx i).keep fun b o ha hn => ?_
    have h1 := h.ot i b o ha hn
    have h2 := hT i b o ha hn
    have h3 : w'.heap[b]? = w.heap[b]? := hg.block b ((h.rd.tx i).lt hn ha) (fun e => by have := hB b e.symm; omega)
    exact (Below.heap_setCell w' ⟨ge, 14, none⟩ _ b (fun e => h1 e)).trans h3
  · rcases List.mem_append.1 hy with h1 | h1
    · exact h.rd.dr.wf y h1
    · rw [List.mem_singleton.1 h1]; exact hx
  · intro e2
    exact hne2 (by rw [show A' = some ⟨b, o, none⟩ from ha, ← e2]; rfl)
  · exact (h.bel.grown hg h.bel.size (fun b hb => by have := hB b hb; omega)).setCell (p := ⟨ge, 14, none⟩) h.lo _

set_option maxRecDepth 100000 in
set_option maxHeartbeats 16000000 in
theorem varsTurned_any (Z : Option Addr) (zn zc : Nat) (z : List Int) (how nn : Int) (A : Option Addr) (sn sc : Nat) (s : List Int) (k : Int) (w : World) (hz : IntsR w Z zn z) (hzn : zn ≤ 35184372088832) (hs : Runes w A sn s) (hsn : sn ≤ 35184372088832) (hsc : sn ≤ sc) (hnn : -9223372036854775808 ≤ nn ∧ nn ≤ 9223372036854775807) (hT : Tabs w) :
    Calls Tryd.prog 4 #[.slice Z zn zc, .int .i64 how, .int .i64 nn, .slice A sn sc, .int .i64 k] w fun r w' => r = .returned (.bool true) ∧ Below w.heap.size w w' := by
  obtain ⟨g, hg⟩ : ∃ g, w.heap.size = g := ⟨_, rfl⟩
  have HB0 := hide ((Below.refl w.heap.size w).alloc (Nat.le_refl _) (.cells #[.slice Z zn zc, .int .i64 0] 29))
  have HT0 := hide (show Tap (w.alloc (.cells #[.slice Z zn zc, .int .i64 0] 29)) g Z zn zc z from hg ▸ Tap.new hz)
  have HT := hide (fun W (hb : Below w.heap.size w W) => hT.below hb)
  have HS := hide (fun W (hb : Below w.heap.size w W) => hs.below hb)
  have HSB := hide (fun b o (ha : A = some ⟨b, o, none⟩) (hn : 0 < sn) => hs.lt hn ha)
  have hlw : w.heap.size ≤ (w.alloc (.cells #[.slice Z zn zc, .int .i64 0] 29)).heap.size := HB0.out.size
  clear hT hz hs
  go_enter Tryd.func4, Tryd.ntmps4
  go_upto_region 2 with (go_at_call 7; (with_reducible refine (tenv_any g Z zn zc z _ HT0.out hzn).mono ?_); rintro r w2 ⟨e, v, B', rfl, hE, hM, hBw, hR, hTx, -, hG⟩; (unfold EnvH.v EnvH.cells))
  obtain ⟨ge, hge⟩ : ∃ ge, w2.heap.size = ge := ⟨_, rfl⟩
  rw [hge]
  have HE := hide (show EB w (w2.alloc (.cells #[.slice (e.t 0).A (e.t 0).n (e.t 0).c, .slice (e.t 1).A (e.t 1).n (e.t 1).c, .slice (e.t 2).A (e.t 2).n (e.t 2).c, .slice (e.t 3).A (e.t 3).n (e.t 3).c, .slice (e.t 4).A (e.t 4).n (e.t 4).c, .slice (e.t 5).A (e.t 5).n (e.t 5).c, .int .i64 e.ix, .int .i64 (e.ck 0), .int .i64 (e.ck 1), .int .i64 (e.ck 2), .int .i64 (e.ck 3), .int .i64 (e.ck 4), .int .i64 (e.ck 5), .int .i64 (e.ck 6), .slice e.d.A e.d.n e.d.c] 26)) ge e v from EB.make HB0.out (by omega) hE hG hge)
  obtain ⟨B2, hR, hB2, hB3, hTx⟩ : ∃ B2, RowI w2 B2 e.d.A e.d.n e.d.c v.d ∧ B2 ≤ w2.heap.size ∧ w.heap.size ≤ B2 ∧ ∀ i b o, (e.t i).A = some ⟨b, o, none⟩ → 0 < (e.t i).n → b < B2 := by
    cases hA : blk e.d.A with
    | none => exact ⟨w2.heap.size, hR.from_ (fun g hg => by rw [hA] at hg; cases hg), Nat.le_refl _, Nat.le_trans hlw hG.size, fun i b o ha hn => (hE.tx i).lt hn ha⟩
    | some b => exact ⟨B', hR, by have := hR.blk_ge b hA; omega, Nat.le_trans hlw hBw, fun i b' o ha hn => (hTx i b' (by rw [ha]; rfl)).2⟩
  have HR := hide (hR.alloc (.cells #[.slice (e.t 0).A (e.t 0).n (e.t 0).c, .slice (e.t 1).A (e.t 1).n (e.t 1).c, .slice (e.t 2).A (e.t 2).n (e.t 2).c, .slice (e.t 3).A (e.t 3).n (e.t 3).c, .slice (e.t 4).A (e.t 4).n (e.t 4).c, .slice (e.t 5).A (e.t 5).n (e.t 5).c, .int .i64 e.ix, .int .i64 (e.ck 0), .int .i64 (e.ck 1), .int .i64 (e.ck 2), .int .i64 (e.ck 3), .int .i64 (e.ck 4), .int .i64 (e.ck 5), .int .i64 (e.ck 6), .slice e.d.A e.d.n e.d.c] 26))
  have HTX := hide hTx
  have HRL := hide (fun b hb => (hR.blk_ge b hb).1)
  have HND := hide (show blk e.d.A ≠ some ge from fun h => by have := (hR.blk_ge ge h).2; omega)
  have HRB := hide (show w.heap.size ≤ B2 ∧ B2 ≤ ge from ⟨hB3, by omega⟩)
  have HDN := hide (show e.d.n ≤ 1000 from by
    have hx := hM
    unfold mayE at hx
    simp only [Bool.and_eq_true, decide_eq_true_eq] at hx
    have h1 := hE.dr.len
    omega)
  clear hE hG HB0 HT0 hR hTx hM hlw hBw hB2 hB3
  generalize w2.alloc (.cells #[.slice (e.t 0).A (e.t 0).n (e.t 0).c, .slice (e.t 1).A (e.t 1).n (e.t 1).c, .slice (e.t 2).A (e.t 2).n (e.t 2).c, .slice (e.t 3).A (e.t 3).n (e.t 3).c, .slice (e.t 4).A (e.t 4).n (e.t 4).c, .slice (e.t 5).A (e.t 5).n (e.t 5).c, .int .i64 e.ix, .int .i64 (e.ck 0), .int .i64 (e.ck 1), .int .i64 (e.ck 2), .int .i64 (e.ck 3), .int .i64 (e.ck 4), .int .i64 (e.ck 5), .int .i64 (e.ck 6), .slice e.d.A e.d.n e.d.c] 26) = w3 at HE HR ⊢
  clear hge hg
  obtain ⟨r, hr, hr16⟩ := and_15n how
  go_upto_block 0 with fail
  go_cut [18] (fun s18 wx => s18 = .int .i64 ((r : Nat) : Int) ∧ ∃ e v, EB w wx ge e v)
  case first =>
    have hr2 : r = 0 ∨ r = 1 ∨ r = 2 ∨ r = 3 ∨ r = 4 ∨ r = 5 ∨ r = 6 ∨ r = 7 ∨ r = 8 ∨ r = 9 ∨ r = 10 ∨ r = 11 ∨ r = 12 ∨ r = 13 ∨ r = 14 ∨ r = 15 := by omega
    obtain ⟨y0, y1, y2, y3, y4, y5, y6, y7, y8, y9, y10, y11, y12, y13, y14⟩ := EnvH.at_ HE.out.box
    have z0 := HE.out.box.frozen 0
    have z1 := HE.out.box.frozen 1
    have z2 := HE.out.box.frozen 2
    have z3 := HE.out.box.frozen 3
    have z4 := HE.out.box.frozen 4
    have z5 := HE.out.box.frozen 5
    have z6 := HE.out.box.frozen 6
    have z7 := HE.out.box.frozen 7
    have z8 := HE.out.box.frozen 8
    have z9 := HE.out.box.frozen 9
    have z10 := HE.out.box.frozen 10
    have z11 := HE.out.box.frozen 11
    have z12 := HE.out.box.frozen 12
    have z13 := HE.out.box.frozen 13
    have z14 := HE.out.box.frozen 14
    rcases hr2 with rfl | rfl | rfl | rfl | rfl | rfl | rfl | rfl | rfl | rfl | rfl | rfl | rfl | rfl | rfl | rfl
    · go_wp2_with fail
      go_meet
      exact ⟨rfl, _, _, HE.out.setT 0 (HS.out _ HE.out.bel) hsn hsc (fun b o ha hn => by have h1 := HSB.out b o ha hn; have h2 := HE.out.lo; omega)⟩
    · go_wp2_with fail
      go_meet
      exact ⟨rfl, _, _, HE.out.setT 1 (HS.out _ HE.out.bel) hsn hsc (fun b o ha hn => by have h1 := HSB.out b o ha hn; have h2 := HE.out.lo; omega)⟩
    · go_wp2_with fail
      go_meet
      exact ⟨rfl, _, _, HE.out.setT 2 (HS.out _ HE.out.bel) hsn hsc (fun b o ha hn => by have h1 := HSB.out b o ha hn; have h2 := HE.out.lo; omega)⟩
    · go_wp2_with fail
      go_meet
      exact ⟨rfl, _, _, HE.out.setT 3 (HS.out _ HE.out.bel) hsn hsc (fun b o ha hn => by have h1 := HSB.out b o ha hn; have h2 := HE.out.lo; omega)⟩
    · go_wp2_with fail
      go_meet
      exact ⟨rfl, _, _, HE.out.setT 4 (HS.out _ HE.out.bel) hsn hsc (fun b o ha hn => by have h1 := HSB.out b o ha hn; have h2 := HE.out.lo; omega)⟩
    · go_wp2_with fail
      go_meet
      exact ⟨rfl, _, _, HE.out.setT 5 (HS.out _ HE.out.bel) hsn hsc (fun b o ha hn => by have h1 := HSB.out b o ha hn; have h2 := HE.out.lo; omega)⟩
    · go_wp2_with fail
      go_meet
      exact ⟨rfl, _, _, HE.out.setI nn hnn⟩
    · have f14 : w3.cell? ⟨ge, 14, none⟩ = some (.slice e.d.A e.d.n e.d.c) := HE.out.box.cell 14
      have HAL := hide (HE.out.below ((Below.refl w3.heap.size w3).alloc (Nat.le_refl _) (.cells #[.int .i64 nn] 3)))
      have hgl := HE.out.box.lt
      have hdn := HDN.out
      go_wp2_with (at_builtin
                   refine wpList_appI rfl (.tmp 56) (.tmp 58) rfl B2 rfl (HR.out.alloc _) rfl (m := 1) (d := 1) (IntV.box (Box.new _ _ _)) (by omega) (by have h1 := HRB.out.2; have h2 := size_al w3 (.cells #[.int .i64 nn] 3); omega) ?_
                   intro A4 c4 w4 hr4 hg4 hb4 hor4
                   have f14b : w4.cell? ⟨ge, 14, none⟩ = some (.slice e.d.A e.d.n e.d.c) := (HAL.out.box.grown hg4 (fun e => HND.out e.symm)).cell 14
                   have z14b := (HAL.out.box.grown hg4 (fun e => HND.out e.symm)).frozen 14)
      go_meet
      exact ⟨rfl, _, _, EB.app HAL.out HTX.out HRL.out HND.out HRB.out.1 hnn hdn hr4 hg4 hor4⟩
    · have HI := hide (show Calls Tryd.prog 11 #[.int .i64 nn, .int .i64 43] w3 fun e w' => e = .returned (.int .i64 (idxN nn 43)) ∧ w3 = w' from index_any nn 43 w3 (by omega) (by omega))
      have hlt43 := idxN_lt (k := nn) (n := 43) (by omega)
      generalize idxN nn 43 = q at hlt43 HI
      have hmk := run_makeI q (by omega)
      obtain ⟨gq, hgq⟩ : ∃ gq, w3.heap.size = gq := ⟨_, rfl⟩
      have HZQ := hide (made_ints hgq q)
      have HAL := hide (HE.out.below ((Below.refl w3.heap.size w3).alloc (Nat.le_refl _) (.cells ((List.replicate q (0 : Int)).map (Value.int .i64)).toArray 3)))
      have hgl := HE.out.box.lt
      have f14 : (w3.alloc (.cells ((List.replicate q (0 : Int)).map (Value.int .i64)).toArray 3)).cell? ⟨ge, 14, none⟩ = some (.slice e.d.A e.d.n e.d.c) := HAL.out.box.cell 14
      have z14b := HAL.out.box.frozen 14
      generalize ((List.replicate q (0 : Int)).map (Value.int .i64)).toArray = cq at hmk HZQ HAL f14 z14b
      go_wp2_with (go_at_call 11; (with_reducible refine HI.out.mono ?_); rintro e w' ⟨rfl, rfl⟩)
      go_meet
      exact ⟨rfl, _, _, HAL.out.setD HZQ.out (by omega) (fun b o ha _ => by injection ha with ha; injection ha with ha; omega)⟩
    · go_wp2_with fail
      go_meet
      exact ⟨rfl, _, _, HE.out.setC 2 nn hnn⟩
    · go_wp2_with fail
      go_meet
      exact ⟨rfl, _, _, HE.out.setC 3 nn hnn⟩
    · go_wp2_with fail
      go_meet
      exact ⟨rfl, _, _, HE.out.setC 4 nn hnn⟩
    · go_wp2_with fail
      go_meet
      exact ⟨rfl, _, _, HE.out.setC 5 nn hnn⟩
    · go_wp2_with fail
      go_meet
      exact ⟨rfl, _, _, HE.out.setC 6 nn hnn⟩
    · go_wp2_with fail
      go_meet
      exact ⟨rfl, _, _, HE.out.setC 0 nn hnn⟩
    · go_wp2_with fail
      go_meet
      exact ⟨rfl, _, _, HE.out.setC 1 nn hnn⟩
  case rest =>
    obtain ⟨rfl, e2, v2, hE2⟩ := hcut
    have HE := hide hE2
    clear hE2
    generalize wc = w4 at *
    go_wp2_with fail
    go_loopw [12] (fun s12 wr => ∃ i : Nat, i ≤ 28 ∧ s12 = .int .i64 ((i : Nat) : Int) ∧ Hid (EB w wr ge e2 v2)) (fun s12 _ => 28 - (intOf s12).toNat)
    case atStart => exact ⟨0, by omega, rfl, HE.out⟩
    case round =>
      clear HE
      obtain ⟨i, hi, rfl, HE⟩ := hrel
      by_cases hlt : i < 28
      · have hlt2 : (i : Int) < 28 := by omega
        go_wp2_with fail
        have HS_ := hide (fun W (hb : Below wr.heap.size wr W) A n c l used (hl : Runes W A n l) (hn : n ≤ 1000) => show Calls Tryd.prog 8 #[.agg #[.slice (e2.t 0).A (e2.t 0).n (e2.t 0).c, .slice (e2.t 1).A (e2.t 1).n (e2.t 1).c, .slice (e2.t 2).A (e2.t 2).n (e2.t 2).c, .slice (e2.t 3).A (e2.t 3).n (e2.t 3).c, .slice (e2.t 4).A (e2.t 4).n (e2.t 4).c, .slice (e2.t 5).A (e2.t 5).n (e2.t 5).c, .int .i64 e2.ix, .int .i64 (e2.ck 0), .int .i64 (e2.ck 1), .int .i64 (e2.ck 2), .int .i64 (e2.ck 3), .int .i64 (e2.ck 4), .int .i64 (e2.ck 5), .int .i64 (e2.ck 6), .slice e2.d.A e2.d.n e2.d.c], .slice A n c, .int .i64 used] W (fun r w' => r = .returned (.bool true) ∧ Below W.heap.size W w') from same16_any e2 v2 A n c l used W (HE.out.rd.below hb) hl (by omega) (HT.out _ (HE.out.bel.trans (hb.mono HE.out.bel.size))))
        have HXE := hide (fun W (hb : Below wr.heap.size wr W) => show W.cell? ⟨ge, 0, none⟩ = some (.slice (e2.t 0).A (e2.t 0).n (e2.t 0).c) ∧ W.cell? ⟨ge, 1, none⟩ = some (.slice (e2.t 1).A (e2.t 1).n (e2.t 1).c) ∧ W.cell? ⟨ge, 2, none⟩ = some (.slice (e2.t 2).A (e2.t 2).n (e2.t 2).c) ∧ W.cell? ⟨ge, 3, none⟩ = some (.slice (e2.t 3).A (e2.t 3).n (e2.t 3).c) ∧ W.cell? ⟨ge, 4, none⟩ = some (.slice (e2.t 4).A (e2.t 4).n (e2.t 4).c) ∧ W.cell? ⟨ge, 5, none⟩ = some (.slice (e2.t 5).A (e2.t 5).n (e2.t 5).c) ∧ W.cell? ⟨ge, 6, none⟩ = some (.int .i64 e2.ix) ∧ W.cell? ⟨ge, 7, none⟩ = some (.int .i64 (e2.ck 0)) ∧ W.cell? ⟨ge, 8, none⟩ = some (.int .i64 (e2.ck 1)) ∧ W.cell? ⟨ge, 9, none⟩ = some (.int .i64 (e2.ck 2)) ∧ W.cell? ⟨ge, 10, none⟩ = some (.int .i64 (e2.ck 3)) ∧ W.cell? ⟨ge, 11, none⟩ = some (.int .i64 (e2.ck 4)) ∧ W.cell? ⟨ge, 12, none⟩ = some (.int .i64 (e2.ck 5)) ∧ W.cell? ⟨ge, 13, none⟩ = some (.int .i64 (e2.ck 6)) ∧ W.cell? ⟨ge, 14, none⟩ = some (.slice e2.d.A e2.d.n e2.d.c) from EnvH.at_ (HE.out.box.below hb))
        have hacc := (Below.refl wr.heap.size wr).drew
        obtain ⟨y0, y1, y2, y3, y4, y5, y6, y7, y8, y9, y10, y11, y12, y13, y14⟩ := HXE.out wr (Below.refl _ _)
        go_region_held3 (fun w' => w'.cell? ⟨ge, 0, none⟩ = some (.slice (e2.t 0).A (e2.t 0).n (e2.t 0).c) ∧ w'.cell? ⟨ge, 1, none⟩ = some (.slice (e2.t 1).A (e2.t 1).n (e2.t 1).c) ∧ w'.cell? ⟨ge, 2, none⟩ = some (.slice (e2.t 2).A (e2.t 2).n (e2.t 2).c) ∧ w'.cell? ⟨ge, 3, none⟩ = some (.slice (e2.t 3).A (e2.t 3).n (e2.t 3).c) ∧ w'.cell? ⟨ge, 4, none⟩ = some (.slice (e2.t 4).A (e2.t 4).n (e2.t 4).c) ∧ w'.cell? ⟨ge, 5, none⟩ = some (.slice (e2.t 5).A (e2.t 5).n (e2.t 5).c) ∧ w'.cell? ⟨ge, 6, none⟩ = some (.int .i64 e2.ix) ∧ w'.cell? ⟨ge, 7, none⟩ = some (.int .i64 (e2.ck 0)) ∧ w'.cell? ⟨ge, 8, none⟩ = some (.int .i64 (e2.ck 1)) ∧ w'.cell? ⟨ge, 9, none⟩ = some (.int .i64 (e2.ck 2)) ∧ w'.cell? ⟨ge, 10, none⟩ = some (.int .i64 (e2.ck 3)) ∧ w'.cell? ⟨ge, 11, none⟩ = some (.int .i64 (e2.ck 4)) ∧ w'.cell? ⟨ge, 12, none⟩ = some (.int .i64 (e2.ck 5)) ∧ w'.cell? ⟨ge, 13, none⟩ = some (.int .i64 (e2.ck 6)) ∧ w'.cell? ⟨ge, 14, none⟩ = some (.slice e2.d.A e2.d.n e2.d.c)) (first | go_keep) (first
          | (go_at_call 9; (with_reducible refine (lname_any _ _).mono ?_); rintro r wn ⟨An, nn, cn, ln, rfl, hon, hbn, hnn⟩
             have hrn := hon.runes
             have hacc := hacc.trans (hbn.mono hacc.size)
             obtain ⟨y0, y1, y2, y3, y4, y5, y6, y7, y8, y9, y10, y11, y12, y13, y14⟩ := HXE.out wn hacc)
          | (go_at_call 8; (with_reducible refine (HS_.out _ hacc _ _ _ _ _ hrn hnn).mono ?_); rintro r wn ⟨rfl, hbn⟩
             have hacc := hacc.trans (hbn.mono hacc.size)
             obtain ⟨y0, y1, y2, y3, y4, y5, y6, y7, y8, y9, y10, y11, y12, y13, y14⟩ := HXE.out wn hacc))
        have HE := hide (HE.out.below hacc)
        clear hacc hbn hrn hon hnn y0 y1 y2 y3 y4 y5 y6 y7 y8 y9 y10 y11 y12 y13 y14 HS_ HXE
        go_wp2_with fail
        go_roundw
        case rel => exact ⟨i + 1, by omega, by first | rfl | go_num, HE.out⟩
        case measure => simp [intOf]; omega
      · have HK := hide (known16_any wr (HT.out _ HE.out.bel))
        go_wp2_with (go_at_call 10; (with_reducible refine HK.out.mono ?_); rintro r w9 ⟨rfl, hb9⟩)
        go_ret
        exact ⟨rfl, HE.out.bel.trans (hb9.mono HE.out.bel.size)⟩
end Go.Proofs.YtfeflmpdbejhjaaDoor
