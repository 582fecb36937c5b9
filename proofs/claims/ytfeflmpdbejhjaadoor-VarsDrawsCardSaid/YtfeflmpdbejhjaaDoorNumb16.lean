/- The walk of VarsNumbers. -/
import Derived.Test.YtfeflmpdbejhjaaDoorEB
import Derived.Deep.LoopGhost
namespace Go.Proofs.YtfeflmpdbejhjaaDoor
open Go.RowKit
set_option linter.unusedVariables false

theorem ints_box {w : World} {g : Nat} {zs : List Int} {cs : Array Value} (h : Box w g 3 cs) (hc : cs = (zs.map (Value.int .i64)).toArray) (hz : ∀ x ∈ zs, -9223372036854775808 ≤ x ∧ x ≤ 9223372036854775807) : IntsR w (some ⟨g, 0, none⟩) zs.length zs :=
  ⟨rfl, fun j hj => ⟨g, 0, rfl, by
    subst hc
    rw [Nat.zero_add, h.cell j]
    simp [hj, nth_eq]⟩, hz⟩
theorem and_7 (k : Int) : ∃ r : Nat, bits .and .i64 k 7 = ((r : Nat) : Int) ∧ r < 8 := by
  have h : bits .and .i64 k 7 = IntKind.i64.wrap ((BitVec.ofInt 64 k &&& BitVec.ofInt 64 7).toNat : Int) := rfl
  have hb : (BitVec.ofInt 64 k &&& BitVec.ofInt 64 7).toNat ≤ 7 := by
    rw [BitVec.toNat_and]
    exact Nat.le_trans Nat.and_le_right (by decide)
  refine ⟨(BitVec.ofInt 64 k &&& BitVec.ofInt 64 7).toNat, ?_, by omega⟩
  rw [h, IntKind.wrap_i64]
  omega

set_option maxRecDepth 100000 in
set_option maxHeartbeats 8000000 in
theorem varsNumbers_any (w : World) (hT : Tabs w) : Calls Tryd.prog 5 #[] w fun r w' => r = .returned (.bool true) ∧ Below w.heap.size w w' := by
  obtain ⟨g, hg⟩ : ∃ g, w.heap.size = g := ⟨_, rfl⟩
  have HB0 := hide ((Below.refl w.heap.size w).alloc (Nat.le_refl _) (.cells #[.slice none 0 0, .int .i64 0] 29))
  have HT0 := hide (show Tap (w.alloc (.cells #[.slice none 0 0, .int .i64 0] 29)) g none 0 0 [] from hg ▸ Tap.new ⟨rfl, fun j hj => absurd hj (by omega), fun x hx => by cases hx⟩)
  have HT := hide (fun W (hb : Below w.heap.size w W) => hT.below hb)
  clear hT
  go_enter Tryd.func5, Tryd.ntmps5
  go_upto_region 2 with (go_at_call 7; (with_reducible refine (tenv_any g none 0 0 [] _ HT0.out (by omega)).mono ?_); rintro r w2 ⟨e, v, B', rfl, hE, -, -, -, -, -, hG⟩; (unfold EnvH.v EnvH.cells))
  obtain ⟨ge, hge⟩ : ∃ ge, w2.heap.size = ge := ⟨_, rfl⟩
  rw [hge]
  have HE := hide (show EB w (w2.alloc (.cells #[.slice (e.t 0).A (e.t 0).n (e.t 0).c, .slice (e.t 1).A (e.t 1).n (e.t 1).c, .slice (e.t 2).A (e.t 2).n (e.t 2).c, .slice (e.t 3).A (e.t 3).n (e.t 3).c, .slice (e.t 4).A (e.t 4).n (e.t 4).c, .slice (e.t 5).A (e.t 5).n (e.t 5).c, .int .i64 e.ix, .int .i64 (e.ck 0), .int .i64 (e.ck 1), .int .i64 (e.ck 2), .int .i64 (e.ck 3), .int .i64 (e.ck 4), .int .i64 (e.ck 5), .int .i64 (e.ck 6), .slice e.d.A e.d.n e.d.c] 26)) ge e v from EB.make HB0.out (by omega) hE hG hge)
  clear hE hG HB0 HT0
  generalize w2.alloc (.cells #[.slice (e.t 0).A (e.t 0).n (e.t 0).c, .slice (e.t 1).A (e.t 1).n (e.t 1).c, .slice (e.t 2).A (e.t 2).n (e.t 2).c, .slice (e.t 3).A (e.t 3).n (e.t 3).c, .slice (e.t 4).A (e.t 4).n (e.t 4).c, .slice (e.t 5).A (e.t 5).n (e.t 5).c, .int .i64 e.ix, .int .i64 (e.ck 0), .int .i64 (e.ck 1), .int .i64 (e.ck 2), .int .i64 (e.ck 3), .int .i64 (e.ck 4), .int .i64 (e.ck 5), .int .i64 (e.ck 6), .slice e.d.A e.d.n e.d.c] 26) = w3 at HE ⊢
  clear hge
  obtain ⟨gd, hgd⟩ : ∃ gd, w3.heap.size = gd := ⟨_, rfl⟩
  have HD := hide (Box.newAt hgd 3 #[.int .i64 0, .int .i64 1, .int .i64 16777215, .int .i64 999999, .int .i64 1000000, .int .i64 11259375])
  have hbd := (Below.refl w3.heap.size w3).alloc (Nat.le_refl _) (.cells #[.int .i64 0, .int .i64 1, .int .i64 16777215, .int .i64 999999, .int .i64 1000000, .int .i64 11259375] 3)
  have HE4 := hide (HE.out.below hbd)
  have f14 : (w3.alloc (.cells #[.int .i64 0, .int .i64 1, .int .i64 16777215, .int .i64 999999, .int .i64 1000000, .int .i64 11259375] 3)).cell? ⟨ge, 14, none⟩ = some (.slice e.d.A e.d.n e.d.c) := HE4.out.box.cell 14
  have z14 := HE4.out.box.frozen 14
  have hgl := HE.out.box.lt
  go_upto_region 3 with fail
  obtain ⟨e2, v2, hE5⟩ : ∃ e2 v2, EB w ((w3.alloc (.cells #[.int .i64 0, .int .i64 1, .int .i64 16777215, .int .i64 999999, .int .i64 1000000, .int .i64 11259375] 3)).setCell ⟨ge, 14, none⟩ (.slice (some ⟨gd, 0, none⟩) 6 6)) ge e2 v2 := ⟨_, _, HE4.out.setD (l := [0, 1, 16777215, 999999, 1000000, 11259375]) (ints_box (zs := [0, 1, 16777215, 999999, 1000000, 11259375]) HD.out rfl (by intro x hx; simp at hx; omega)) (by omega) (fun b o ha _ => by injection ha with ha; injection ha with ha; omega)⟩
  have HE := hide hE5
  clear hE5 HE4 HD hbd f14 z14 hgl
  generalize (w3.alloc (.cells #[.int .i64 0, .int .i64 1, .int .i64 16777215, .int .i64 999999, .int .i64 1000000, .int .i64 11259375] 3)).setCell ⟨ge, 14, none⟩ (.slice (some ⟨gd, 0, none⟩) 6 6) = w5 at HE ⊢
  clear hgd
  go_wp2_with fail
  go_loopw [2, 3] (fun s2 _ wr => ∃ (i : Nat) (e : EnvH) (v : EnvV), i ≤ 28 ∧ s2 = .int .i64 ((i : Nat) : Int) ∧ Hid (EB w wr ge e v)) (fun s2 _ _ => 28 - (intOf s2).toNat)
  case atStart => exact ⟨0, e2, v2, by omega, rfl, HE.out⟩
  case round =>
    obtain ⟨i, e3, v3, hi, rfl, HE⟩ := hrel
    by_cases hlt : i < 28
    · have hlt2 : (i : Int) < 28 := by omega
      go_wp2_with fail
      generalize wr = w6 at HE ⊢
      go_loopw [3] (fun s3 wr => ∃ (m : Nat) (e : EnvH) (v : EnvV), m ≤ 14 ∧ s3 = .int .i64 ((m : Nat) : Int) ∧ Hid (EB w wr ge e v)) (fun s3 _ => 14 - (intOf s3).toNat)
      case atStart => exact ⟨0, e3, v3, by omega, rfl, HE.out⟩
      case round =>
        clear HE
        obtain ⟨m, e4, v4, hm, rfl, HE⟩ := hrel
        by_cases hltm : m ≤ 13
        · have hltm2 : (m : Int) ≤ 13 := by omega
          obtain ⟨y0, y1, y2, y3, y4, y5, y6, y7, y8, y9, y10, y11, y12, y13, y14⟩ := EnvH.at_ HE.out.box
          have z7 := HE.out.box.frozen 7
          have z8 := HE.out.box.frozen 8
          have z9 := HE.out.box.frozen 9
          have z10 := HE.out.box.frozen 10
          have z11 := HE.out.box.frozen 11
          have z12 := HE.out.box.frozen 12
          have z13 := HE.out.box.frozen 13
          go_upto_region 10 with fail
          obtain ⟨e5, v5, hE5⟩ : ∃ e5 v5, EB w (((((((wr.setCell ⟨ge, 7, none⟩ (.int .i64 (((m : Nat) : Int) * 769))).setCell ⟨ge, 8, none⟩ (.int .i64 (((m : Nat) : Int)))).setCell ⟨ge, 9, none⟩ (.int .i64 (2 * ((m : Nat) : Int)))).setCell ⟨ge, 10, none⟩ (.int .i64 (2 * ((m : Nat) : Int)))).setCell ⟨ge, 11, none⟩ (.int .i64 (5 * ((m : Nat) : Int)))).setCell ⟨ge, 12, none⟩ (.int .i64 (4 * ((m : Nat) : Int) + 7))).setCell ⟨ge, 13, none⟩ (.int .i64 (((m : Nat) : Int) - 1))) ge e5 v5 := ⟨_, _, ((((((HE.out.setC 0 (((m : Nat) : Int) * 769) (by omega)).setC 1 (((m : Nat) : Int)) (by omega)).setC 2 (2 * ((m : Nat) : Int)) (by omega)).setC 3 (2 * ((m : Nat) : Int)) (by omega)).setC 4 (5 * ((m : Nat) : Int)) (by omega)).setC 5 (4 * ((m : Nat) : Int) + 7) (by omega)).setC 6 (((m : Nat) : Int) - 1) (by omega)⟩
          have HE := hide hE5
          clear hE5 z7 z8 z9 z10 z11 z12 z13 y0 y1 y2 y3 y4 y5 y6 y7 y8 y9 y10 y11 y12 y13 y14
          generalize (((((((wr.setCell ⟨ge, 7, none⟩ (.int .i64 (((m : Nat) : Int) * 769))).setCell ⟨ge, 8, none⟩ (.int .i64 (((m : Nat) : Int)))).setCell ⟨ge, 9, none⟩ (.int .i64 (2 * ((m : Nat) : Int)))).setCell ⟨ge, 10, none⟩ (.int .i64 (2 * ((m : Nat) : Int)))).setCell ⟨ge, 11, none⟩ (.int .i64 (5 * ((m : Nat) : Int)))).setCell ⟨ge, 12, none⟩ (.int .i64 (4 * ((m : Nat) : Int) + 7))).setCell ⟨ge, 13, none⟩ (.int .i64 (((m : Nat) : Int) - 1))) = w7 at HE ⊢
          have f6 : w7.cell? ⟨ge, 6, none⟩ = some (.int .i64 e5.ix) := HE.out.box.cell 6
          have z6 := HE.out.box.frozen 6
          go_upto_region 11 with fail
          obtain ⟨e6, v6, hE6⟩ : ∃ e6 v6, EB w (w7.setCell ⟨ge, 6, none⟩ (.int .i64 (((m : Nat) : Int) * 800))) ge e6 v6 := ⟨_, _, HE.out.setI (((m : Nat) : Int) * 800) (by omega)⟩
          have HE := hide hE6
          clear hE6 f6 z6
          generalize w7.setCell ⟨ge, 6, none⟩ (.int .i64 (((m : Nat) : Int) * 800)) = w8 at HE ⊢
          obtain ⟨gf, hgf⟩ : ∃ gf, w8.heap.size = gf := ⟨_, rfl⟩
          have hba := (Below.refl w8.heap.size w8).alloc (Nat.le_refl _) (.cells #[.string ⟨#[]⟩, .string ⟨#[46]⟩, .string ⟨#[97, 46]⟩, .string ⟨#[46, 97]⟩, .string ⟨#[97, 46, 98]⟩, .string ⟨#[97, 46, 98, 46, 99]⟩, .string ⟨#[46, 46]⟩, .string ⟨#[97, 98]⟩] 9)
          have HF := hide (Box.newAt hgf 9 #[.string ⟨#[]⟩, .string ⟨#[46]⟩, .string ⟨#[97, 46]⟩, .string ⟨#[46, 97]⟩, .string ⟨#[97, 46, 98]⟩, .string ⟨#[97, 46, 98, 46, 99]⟩, .string ⟨#[46, 46]⟩, .string ⟨#[97, 98]⟩])
          have HE9 := hide (HE.out.below hba)
          obtain ⟨r, hr, hr8⟩ := and_7 ((m : Nat) : Int)
          have i0 : (0 : Int) ≤ (r : Int) := by omega
          have i1 : (r : Int) < 8 := by omega
          have hfs : (#[.string ⟨#[]⟩, .string ⟨#[46]⟩, .string ⟨#[97, 46]⟩, .string ⟨#[46, 97]⟩, .string ⟨#[97, 46, 98]⟩, .string ⟨#[97, 46, 98, 46, 99]⟩, .string ⟨#[46, 46]⟩, .string ⟨#[97, 98]⟩] : Array Value).size = 8 := by kernel_rfl
          obtain ⟨s, hs, -, hsz⟩ := isStrB_inv (lo := 0) (hi := 40) (v := (#[.string ⟨#[]⟩, .string ⟨#[46]⟩, .string ⟨#[97, 46]⟩, .string ⟨#[46, 97]⟩, .string ⟨#[97, 46, 98]⟩, .string ⟨#[97, 46, 98, 46, 99]⟩, .string ⟨#[46, 46]⟩, .string ⟨#[97, 98]⟩] : Array Value)[r]'(by rw [hfs]; exact hr8)) (Array.all_eq_true.1 (show (#[.string ⟨#[]⟩, .string ⟨#[46]⟩, .string ⟨#[97, 46]⟩, .string ⟨#[46, 97]⟩, .string ⟨#[97, 46, 98]⟩, .string ⟨#[97, 46, 98, 46, 99]⟩, .string ⟨#[46, 46]⟩, .string ⟨#[97, 98]⟩] : Array Value).all (isStrB 0 40) = true from by kernel_rfl) r (by rw [hfs]; exact hr8))
          have hc : (w8.alloc (.cells #[.string ⟨#[]⟩, .string ⟨#[46]⟩, .string ⟨#[97, 46]⟩, .string ⟨#[46, 97]⟩, .string ⟨#[97, 46, 98]⟩, .string ⟨#[97, 46, 98, 46, 99]⟩, .string ⟨#[46, 46]⟩, .string ⟨#[97, 98]⟩] 9)).cell? ⟨gf, r, none⟩ = some (.string s) := by
            rw [HF.out.cell r, Array.getElem?_eq_getElem (by rw [hfs]; exact hr8), hs]
          have HP := hide (plain_any s (w8.alloc (.cells #[.string ⟨#[]⟩, .string ⟨#[46]⟩, .string ⟨#[97, 46]⟩, .string ⟨#[46, 97]⟩, .string ⟨#[97, 46, 98]⟩, .string ⟨#[97, 46, 98, 46, 99]⟩, .string ⟨#[46, 46]⟩, .string ⟨#[97, 98]⟩] 9)) (by omega))
          have HSZ := hide hsz
          have hgl := HE.out.box.lt
          clear hs hsz hfs HF
          go_upto_region 12 with (go_at_call 12; (with_reducible refine HP.out.mono ?_); rintro r0 w10 ⟨A, n, c, rfl, ho, hb⟩; have HE10 := hide (HE9.out.below hb); have f3 := HE10.out.box.cell 3; have z3 := HE10.out.box.frozen 3; (have f3 : w10.cell? ⟨ge, 3, none⟩ = some (.slice (e6.t 3).A (e6.t 3).n (e6.t 3).c) := f3))
          obtain ⟨e7, v7, hE7⟩ : ∃ e7 v7, EB w (w10.setCell ⟨ge, 3, none⟩ (.slice A n c)) ge e7 v7 := ⟨_, _, HE10.out.setT 3 ho.runes (by have h1 := ho.len; rw [plainS_len] at h1; have h2 := HSZ.out; omega) ho.cap.1 (fun b o ha _ => by have h1 := (ho.blk_ge b (by rw [ha]; rfl)).1; have h2 := hba.size; omega)⟩
          have HE := hide hE7
          clear hE7 HE10 f3 z3 HP ho hb hc hr hr8 i0 i1 HE9 hba hgl hgf
          generalize w10.setCell ⟨ge, 3, none⟩ (.slice A n c) = w11 at HE ⊢
          have HS_ := hide (fun W (hb : Below w11.heap.size w11 W) A n c l used (hl : Runes W A n l) (hn : n ≤ 1000) => show Calls Tryd.prog 8 #[.agg #[.slice (e7.t 0).A (e7.t 0).n (e7.t 0).c, .slice (e7.t 1).A (e7.t 1).n (e7.t 1).c, .slice (e7.t 2).A (e7.t 2).n (e7.t 2).c, .slice (e7.t 3).A (e7.t 3).n (e7.t 3).c, .slice (e7.t 4).A (e7.t 4).n (e7.t 4).c, .slice (e7.t 5).A (e7.t 5).n (e7.t 5).c, .int .i64 e7.ix, .int .i64 (e7.ck 0), .int .i64 (e7.ck 1), .int .i64 (e7.ck 2), .int .i64 (e7.ck 3), .int .i64 (e7.ck 4), .int .i64 (e7.ck 5), .int .i64 (e7.ck 6), .slice e7.d.A e7.d.n e7.d.c], .slice A n c, .int .i64 used] W (fun r w' => r = .returned (.bool true) ∧ Below W.heap.size W w') from same16_any e7 v7 A n c l used W (HE.out.rd.below hb) hl (by omega) (HT.out _ (HE.out.bel.trans (hb.mono HE.out.bel.size))))
          have HXE := hide (fun W (hb : Below w11.heap.size w11 W) => show W.cell? ⟨ge, 0, none⟩ = some (.slice (e7.t 0).A (e7.t 0).n (e7.t 0).c) ∧ W.cell? ⟨ge, 1, none⟩ = some (.slice (e7.t 1).A (e7.t 1).n (e7.t 1).c) ∧ W.cell? ⟨ge, 2, none⟩ = some (.slice (e7.t 2).A (e7.t 2).n (e7.t 2).c) ∧ W.cell? ⟨ge, 3, none⟩ = some (.slice (e7.t 3).A (e7.t 3).n (e7.t 3).c) ∧ W.cell? ⟨ge, 4, none⟩ = some (.slice (e7.t 4).A (e7.t 4).n (e7.t 4).c) ∧ W.cell? ⟨ge, 5, none⟩ = some (.slice (e7.t 5).A (e7.t 5).n (e7.t 5).c) ∧ W.cell? ⟨ge, 6, none⟩ = some (.int .i64 e7.ix) ∧ W.cell? ⟨ge, 7, none⟩ = some (.int .i64 (e7.ck 0)) ∧ W.cell? ⟨ge, 8, none⟩ = some (.int .i64 (e7.ck 1)) ∧ W.cell? ⟨ge, 9, none⟩ = some (.int .i64 (e7.ck 2)) ∧ W.cell? ⟨ge, 10, none⟩ = some (.int .i64 (e7.ck 3)) ∧ W.cell? ⟨ge, 11, none⟩ = some (.int .i64 (e7.ck 4)) ∧ W.cell? ⟨ge, 12, none⟩ = some (.int .i64 (e7.ck 5)) ∧ W.cell? ⟨ge, 13, none⟩ = some (.int .i64 (e7.ck 6)) ∧ W.cell? ⟨ge, 14, none⟩ = some (.slice e7.d.A e7.d.n e7.d.c) from EnvH.at_ (HE.out.box.below hb))
          have hacc := (Below.refl w11.heap.size w11).drew
          obtain ⟨y0, y1, y2, y3, y4, y5, y6, y7, y8, y9, y10, y11, y12, y13, y14⟩ := HXE.out w11 (Below.refl _ _)
          go_region_held3 (fun w' => w'.cell? ⟨ge, 0, none⟩ = some (.slice (e7.t 0).A (e7.t 0).n (e7.t 0).c) ∧ w'.cell? ⟨ge, 1, none⟩ = some (.slice (e7.t 1).A (e7.t 1).n (e7.t 1).c) ∧ w'.cell? ⟨ge, 2, none⟩ = some (.slice (e7.t 2).A (e7.t 2).n (e7.t 2).c) ∧ w'.cell? ⟨ge, 3, none⟩ = some (.slice (e7.t 3).A (e7.t 3).n (e7.t 3).c) ∧ w'.cell? ⟨ge, 4, none⟩ = some (.slice (e7.t 4).A (e7.t 4).n (e7.t 4).c) ∧ w'.cell? ⟨ge, 5, none⟩ = some (.slice (e7.t 5).A (e7.t 5).n (e7.t 5).c) ∧ w'.cell? ⟨ge, 6, none⟩ = some (.int .i64 e7.ix) ∧ w'.cell? ⟨ge, 7, none⟩ = some (.int .i64 (e7.ck 0)) ∧ w'.cell? ⟨ge, 8, none⟩ = some (.int .i64 (e7.ck 1)) ∧ w'.cell? ⟨ge, 9, none⟩ = some (.int .i64 (e7.ck 2)) ∧ w'.cell? ⟨ge, 10, none⟩ = some (.int .i64 (e7.ck 3)) ∧ w'.cell? ⟨ge, 11, none⟩ = some (.int .i64 (e7.ck 4)) ∧ w'.cell? ⟨ge, 12, none⟩ = some (.int .i64 (e7.ck 5)) ∧ w'.cell? ⟨ge, 13, none⟩ = some (.int .i64 (e7.ck 6)) ∧ w'.cell? ⟨ge, 14, none⟩ = some (.slice e7.d.A e7.d.n e7.d.c)) (first | go_keep) (first
            | (go_at_call 9; (with_reducible refine (lname_any _ _).mono ?_); rintro r wn ⟨An, nn, cn, ln, rfl, hon, hbn, hnn⟩
               have hrn := hon.runes
               have hacc := hacc.trans (hbn.mono hacc.size)
               obtain ⟨y0, y1, y2, y3, y4, y5, y6, y7, y8, y9, y10, y11, y12, y13, y14⟩ := HXE.out wn hacc)
            | (go_at_call 8; (with_reducible refine (HS_.out _ hacc _ _ _ _ _ hrn hnn).mono ?_); rintro r wn ⟨rfl, hbn⟩
               have hacc := hacc.trans (hbn.mono hacc.size)
               obtain ⟨y0, y1, y2, y3, y4, y5, y6, y7, y8, y9, y10, y11, y12, y13, y14⟩ := HXE.out wn hacc))
          have HE := hide (HE.out.below hacc)
          clear hacc hbn hrn hon hnn y0 y1 y2 y3 y4 y5 y6 y7 y8 y9 y10 y11 y12 y13 y14 HS_ HXE
          have f8 : wn.cell? ⟨ge, 8, none⟩ = some (.int .i64 (e7.ck 1)) := HE.out.box.cell 8
          have f9 : wn.cell? ⟨ge, 9, none⟩ = some (.int .i64 (e7.ck 2)) := HE.out.box.cell 9
          have f13 : wn.cell? ⟨ge, 13, none⟩ = some (.int .i64 (e7.ck 6)) := HE.out.box.cell 13
          have z8 := HE.out.box.frozen 8
          have z9 := HE.out.box.frozen 9
          have z13 := HE.out.box.frozen 13
          go_upto_region 15 with fail
          obtain ⟨e8, v8, hE8⟩ : ∃ e8 v8, EB w (((wn.setCell ⟨ge, 8, none⟩ (.int .i64 (((m : Nat) : Int) % 12 + 1))).setCell ⟨ge, 9, none⟩ (.int .i64 (((m : Nat) : Int) + 1))).setCell ⟨ge, 13, none⟩ (.int .i64 (((m : Nat) : Int) % 7))) ge e8 v8 := ⟨_, _, ((HE.out.setC 1 (((m : Nat) : Int) % 12 + 1) (by omega)).setC 2 (((m : Nat) : Int) + 1) (by omega)).setC 6 (((m : Nat) : Int) % 7) (by omega)⟩
          have HE := hide hE8
          clear hE8 f8 f9 f13 z8 z9 z13
          generalize (((wn.setCell ⟨ge, 8, none⟩ (.int .i64 (((m : Nat) : Int) % 12 + 1))).setCell ⟨ge, 9, none⟩ (.int .i64 (((m : Nat) : Int) + 1))).setCell ⟨ge, 13, none⟩ (.int .i64 (((m : Nat) : Int) % 7))) = w13 at HE ⊢
          have HS_ := hide (fun W (hb : Below w13.heap.size w13 W) A n c l used (hl : Runes W A n l) (hn : n ≤ 1000) => show Calls Tryd.prog 8 #[.agg #[.slice (e8.t 0).A (e8.t 0).n (e8.t 0).c, .slice (e8.t 1).A (e8.t 1).n (e8.t 1).c, .slice (e8.t 2).A (e8.t 2).n (e8.t 2).c, .slice (e8.t 3).A (e8.t 3).n (e8.t 3).c, .slice (e8.t 4).A (e8.t 4).n (e8.t 4).c, .slice (e8.t 5).A (e8.t 5).n (e8.t 5).c, .int .i64 e8.ix, .int .i64 (e8.ck 0), .int .i64 (e8.ck 1), .int .i64 (e8.ck 2), .int .i64 (e8.ck 3), .int .i64 (e8.ck 4), .int .i64 (e8.ck 5), .int .i64 (e8.ck 6), .slice e8.d.A e8.d.n e8.d.c], .slice A n c, .int .i64 used] W (fun r w' => r = .returned (.bool true) ∧ Below W.heap.size W w') from same16_any e8 v8 A n c l used W (HE.out.rd.below hb) hl (by omega) (HT.out _ (HE.out.bel.trans (hb.mono HE.out.bel.size))))
          have HXE := hide (fun W (hb : Below w13.heap.size w13 W) => show W.cell? ⟨ge, 0, none⟩ = some (.slice (e8.t 0).A (e8.t 0).n (e8.t 0).c) ∧ W.cell? ⟨ge, 1, none⟩ = some (.slice (e8.t 1).A (e8.t 1).n (e8.t 1).c) ∧ W.cell? ⟨ge, 2, none⟩ = some (.slice (e8.t 2).A (e8.t 2).n (e8.t 2).c) ∧ W.cell? ⟨ge, 3, none⟩ = some (.slice (e8.t 3).A (e8.t 3).n (e8.t 3).c) ∧ W.cell? ⟨ge, 4, none⟩ = some (.slice (e8.t 4).A (e8.t 4).n (e8.t 4).c) ∧ W.cell? ⟨ge, 5, none⟩ = some (.slice (e8.t 5).A (e8.t 5).n (e8.t 5).c) ∧ W.cell? ⟨ge, 6, none⟩ = some (.int .i64 e8.ix) ∧ W.cell? ⟨ge, 7, none⟩ = some (.int .i64 (e8.ck 0)) ∧ W.cell? ⟨ge, 8, none⟩ = some (.int .i64 (e8.ck 1)) ∧ W.cell? ⟨ge, 9, none⟩ = some (.int .i64 (e8.ck 2)) ∧ W.cell? ⟨ge, 10, none⟩ = some (.int .i64 (e8.ck 3)) ∧ W.cell? ⟨ge, 11, none⟩ = some (.int .i64 (e8.ck 4)) ∧ W.cell? ⟨ge, 12, none⟩ = some (.int .i64 (e8.ck 5)) ∧ W.cell? ⟨ge, 13, none⟩ = some (.int .i64 (e8.ck 6)) ∧ W.cell? ⟨ge, 14, none⟩ = some (.slice e8.d.A e8.d.n e8.d.c) from EnvH.at_ (HE.out.box.below hb))
          have hacc := (Below.refl w13.heap.size w13).drew
          obtain ⟨y0, y1, y2, y3, y4, y5, y6, y7, y8, y9, y10, y11, y12, y13, y14⟩ := HXE.out w13 (Below.refl _ _)
          go_region_held3 (fun w' => w'.cell? ⟨ge, 0, none⟩ = some (.slice (e8.t 0).A (e8.t 0).n (e8.t 0).c) ∧ w'.cell? ⟨ge, 1, none⟩ = some (.slice (e8.t 1).A (e8.t 1).n (e8.t 1).c) ∧ w'.cell? ⟨ge, 2, none⟩ = some (.slice (e8.t 2).A (e8.t 2).n (e8.t 2).c) ∧ w'.cell? ⟨ge, 3, none⟩ = some (.slice (e8.t 3).A (e8.t 3).n (e8.t 3).c) ∧ w'.cell? ⟨ge, 4, none⟩ = some (.slice (e8.t 4).A (e8.t 4).n (e8.t 4).c) ∧ w'.cell? ⟨ge, 5, none⟩ = some (.slice (e8.t 5).A (e8.t 5).n (e8.t 5).c) ∧ w'.cell? ⟨ge, 6, none⟩ = some (.int .i64 e8.ix) ∧ w'.cell? ⟨ge, 7, none⟩ = some (.int .i64 (e8.ck 0)) ∧ w'.cell? ⟨ge, 8, none⟩ = some (.int .i64 (e8.ck 1)) ∧ w'.cell? ⟨ge, 9, none⟩ = some (.int .i64 (e8.ck 2)) ∧ w'.cell? ⟨ge, 10, none⟩ = some (.int .i64 (e8.ck 3)) ∧ w'.cell? ⟨ge, 11, none⟩ = some (.int .i64 (e8.ck 4)) ∧ w'.cell? ⟨ge, 12, none⟩ = some (.int .i64 (e8.ck 5)) ∧ w'.cell? ⟨ge, 13, none⟩ = some (.int .i64 (e8.ck 6)) ∧ w'.cell? ⟨ge, 14, none⟩ = some (.slice e8.d.A e8.d.n e8.d.c)) (first | go_keep) (first
            | (go_at_call 9; (with_reducible refine (lname_any _ _).mono ?_); rintro r wn ⟨An, nn, cn, ln, rfl, hon, hbn, hnn⟩
               have hrn := hon.runes
               have hacc := hacc.trans (hbn.mono hacc.size)
               obtain ⟨y0, y1, y2, y3, y4, y5, y6, y7, y8, y9, y10, y11, y12, y13, y14⟩ := HXE.out wn hacc)
            | (go_at_call 8; (with_reducible refine (HS_.out _ hacc _ _ _ _ _ hrn hnn).mono ?_); rintro r wn ⟨rfl, hbn⟩
               have hacc := hacc.trans (hbn.mono hacc.size)
               obtain ⟨y0, y1, y2, y3, y4, y5, y6, y7, y8, y9, y10, y11, y12, y13, y14⟩ := HXE.out wn hacc))
          have HE := hide (HE.out.below hacc)
          clear hacc hbn hrn hon hnn y0 y1 y2 y3 y4 y5 y6 y7 y8 y9 y10 y11 y12 y13 y14 HS_ HXE
          go_wp2_with fail
          go_roundw
          case rel => exact ⟨m + 1, e8, v8, by omega, by first | rfl | go_num, HE.out⟩
          case measure => simp [intOf]; omega
        · obtain rfl : m = 14 := by omega
          go_wp2_with fail
          go_roundw
          case rel => exact ⟨i + 1, e4, v4, by omega, by first | rfl | go_num, HE.out⟩
          case measure => simp [intOf]; omega
    · have HK := hide (known16_any wr (HT.out _ HE.out.bel))
      go_wp2_with (go_at_call 10; (with_reducible refine HK.out.mono ?_); rintro r w9 ⟨rfl, hb9⟩)
      go_ret
      exact ⟨rfl, HE.out.bel.trans (hb9.mono HE.out.bel.size)⟩
end Go.Proofs.YtfeflmpdbejhjaaDoor
