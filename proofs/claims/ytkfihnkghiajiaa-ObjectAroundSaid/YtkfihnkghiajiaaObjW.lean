/- Contracts of layer 25's functions on words: run, wordly. -/
import Derived.Test.YtkfihnkghiajiaaObjS
namespace Go.Proofs.Ytkfihnkghiajiaa
open Go.RowKit
set_option linter.unusedVariables false

/-- A span's parts; 0, 0 and false where there is none. -/
def spF (o : Option (Nat × Nat)) : Nat := match o with | none => 0 | some p => p.1
def spT (o : Option (Nat × Nat)) : Nat := match o with | none => 0 | some p => p.2
theorem ofK_same (s : List Int) (at_ : Nat) : ofK (sortS (nth s at_)) = sameK s at_ := by
  funext x
  unfold ofK sameK
  rw [decide_eq_decide]
  exact sort_kd _ _
theorem ofK_blank : ofK 1 = blankK := by
  funext x
  unfold ofK blankK
  rw [decide_eq_decide]
  exact sort_blank _
theorem wTo_eq {s : List Int} {at_ : Nat} (h : at_ < s.length) : wTo s at_ = at_ + 1 + fwdN (sameK s at_) (s.drop (at_ + 1)) := by
  unfold wTo
  rw [fwdN_drop h, if_pos (show sameK s at_ (nth s at_) = true by simp [sameK])]
  omega
theorem wordS_none {s : List Int} {at_ : Nat} {around : Bool} (h : kdS (nth s at_) = 2) : wordS s at_ around = none := by
  unfold wordS
  rw [if_pos h]

set_option maxRecDepth 100000 in
set_option maxHeartbeats 4000000 in
theorem run_any (S : Option Addr) (k d at_ : Nat) (around : Bool) (s : List Int) (w : World) (F T : Nat) (ok : Bool) (hS : Runes w S k s) (hk : k ≤ 35184372088832) (ha : at_ < k)
    (hF : F = spF (wordS s at_ around)) (hT : T = spT (wordS s at_ around)) (hok : ok = (wordS s at_ around).isSome) :
    Calls Try.prog 53 #[.slice S k d, .int .i64 at_, .bool around] w fun e w' =>
      e = .returned (.tuple #[.agg #[.int .i64 F, .int .i64 T], .bool ok]) ∧ Below w.heap.size w w' := by
  have HS := hide hS
  have HL := hide hS.len
  have hal := hS.len
  obtain ⟨ab, ao, rfl, hc0⟩ := (hS.alloc (.cells #[.int .i64 0, .int .i64 0] 47)).at_ at_ ha
  have h0 : (0 : Int) ≤ (at_ : Int) := by omega
  have h0' : (at_ : Int) < (k : Int) := by omega
  have HF := hide hF
  have HT := hide hT
  have HO := hide hok
  have HX0 := hide (Box.new w 47 #[.int .i64 0, .int .i64 0])
  have HB0 := hide ((Below.refl _ w).alloc (Nat.le_refl _) (.cells #[.int .i64 0, .int .i64 0] 47))
  have HC0 := hide hc0
  clear hF hT hok hS hc0
  by_cases hl : kdS (nth s at_) = 2
  · have e0 : (sortS (nth s at_) == 0) = true := by simpa using (sort_line _).2 hl
    have hn := wordS_none (around := around) hl
    rw [hn] at HF HT HO
    obtain rfl : F = 0 := HF.out
    obtain rfl : T = 0 := HT.out
    obtain rfl : ok = false := HO.out
    have hc0 := HC0.out
    clear hn hl
    go_enter Try.func53, Try.ntmps53
    go_wp2_with fail
    refine (sort_any _ _).mono ?_
    rintro e w' ⟨rfl, rfl⟩
    go_wp2_with fail
    obtain ⟨⟨r0, r1⟩, _⟩ := HX0.out.c2
    exact bodyPost_ret (v := .tuple #[.agg #[.int .i64 0, .int .i64 0], .bool false]) (by simp [results, Try.results53, go_sem, r0, r1]) rfl ⟨rfl, HB0.out⟩
  · have e0 : (sortS (nth s at_) == 0) = false := by simpa using fun h => hl ((sort_line _).1 h)
    obtain ⟨F1, hF1⟩ : ∃ F1, F1 = wFrom s at_ := ⟨_, rfl⟩
    obtain ⟨T1, hT1⟩ : ∃ T1, T1 = wTo s at_ := ⟨_, rfl⟩
    have hb1 : F1 ≤ at_ ∧ at_ < T1 ∧ T1 ≤ k := by
      have h1 := wTo_gt (s := s) (at_ := at_) (by omega)
      have h2 := wFrom_le s at_
      omega
    have HG1 := hide (fun (W : World) (hW : Runes W (some ⟨ab, ao, none⟩) k s) => grown_any (some ⟨ab, ao, none⟩) k d at_ (at_ + 1) (sortS (nth s at_)) true true s W F1 T1 hW hk (by omega) (by omega)
      (by rw [hF1, ofK_same]; rfl) (by rw [hT1, wTo_eq (by omega), ofK_same]; rfl))
    have HN := hide hl
    cases around
    · have hw : wordS s at_ false = some (wFrom s at_, wTo s at_) := by
        unfold wordS
        rw [if_neg HN.out]
        rfl
      rw [hw] at HF HT HO
      obtain rfl : F = F1 := HF.out.trans hF1.symm
      obtain rfl : T = T1 := HT.out.trans hT1.symm
      obtain rfl : ok = true := HO.out
      have hc0 := HC0.out
      have HHF := hide hF1
      have HHT := hide hT1
      clear hw hl hF1 hT1 hal
      go_enter Try.func53, Try.ntmps53
      go_wp2_with fail
      refine (sort_any _ _).mono ?_
      rintro e w' ⟨rfl, rfl⟩
      go_wp2_with fail
      refine (HG1.out _ (HS.out.alloc _)).mono ?_
      rintro e w1 ⟨rfl, hb1⟩
      have HX1 := hide (HX0.out.below hb1)
      have HB1 := hide (HB0.out.trans (hb1.mono (by simp)))
      clear hb1
      obtain ⟨⟨x0, x1⟩, z0, z1⟩ := (HX1.out.alloc (.cells #[.int .i64 F, .int .i64 T] 47)).c2
      go_wp2_with fail
      obtain ⟨⟨r0, r1⟩, _⟩ := (((HX1.out.alloc (.cells #[.int .i64 F, .int .i64 T] 47)).set 0 (.int .i64 F)).set 1 (.int .i64 T)).c2
      exact bodyPost_ret (v := .tuple #[.agg #[.int .i64 F, .int .i64 T], .bool true]) (by simp [results, Try.results53, go_sem, r0, r1]) rfl
        ⟨rfl, ((HB1.out.alloc HB1.out.size _).setCell (p := ⟨w.heap.size, 0, none⟩) (Nat.le_refl _) _).setCell (p := ⟨w.heap.size, 1, none⟩) (Nat.le_refl _) _⟩
    · obtain ⟨T2, hT2⟩ : ∃ T2, T2 = T1 + fwdN blankK (s.drop T1) := ⟨_, rfl⟩
      obtain ⟨F2, hF2⟩ : ∃ F2, F2 = F1 - backN blankK s F1 := ⟨_, rfl⟩
      have hb2 : T1 ≤ T2 ∧ T2 ≤ k ∧ F2 ≤ F1 := by
        have h1 := fwdN_le blankK (s.drop T1)
        rw [List.length_drop] at h1
        omega
      have HG2 := hide (fun (W : World) (hW : Runes W (some ⟨ab, ao, none⟩) k s) => grown_any (some ⟨ab, ao, none⟩) k d F1 T1 1 false true s W F1 T2 hW hk (by omega) (by omega) (by simp) (by rw [hT2, ofK_blank]; rfl))
      have HG3 := hide (fun (W : World) (hW : Runes W (some ⟨ab, ao, none⟩) k s) => grown_any (some ⟨ab, ao, none⟩) k d F1 T1 1 true false s W F2 T1 hW hk (by omega) (by omega) (by rw [hF2, ofK_blank]; rfl) (by simp))
      have hw : wordS s at_ true = if T2 = T1 then some (F2, T1) else some (F1, T2) := by
        unfold wordS
        rw [if_neg HN.out, ← hF1, ← hT1, ← hT2, ← hF2]
        by_cases h : T2 = T1
        · rw [if_pos h]
          simp
          omega
        · rw [if_neg h]
          simp
          omega
      rw [hw] at HF HT HO
      have hc0 := HC0.out
      clear hw hl hF1 hT1 hal hF2 hT2
      by_cases h : T2 = T1
      · rw [if_pos h] at HF HT HO
        subst h
        obtain rfl : F = F2 := HF.out
        obtain rfl : T = T2 := HT.out
        obtain rfl : ok = true := HO.out
        go_enter Try.func53, Try.ntmps53
        go_wp2_with fail
        refine (sort_any _ _).mono ?_
        rintro e w' ⟨rfl, rfl⟩
        go_wp2_with fail
        refine (HG1.out _ (HS.out.alloc _)).mono ?_
        rintro e w1 ⟨rfl, hb1'⟩
        have HX1 := hide (HX0.out.below hb1')
        have HB1 := hide (HB0.out.trans (hb1'.mono (by simp)))
        clear hb1'
        obtain ⟨g1, hg1⟩ : ∃ g1, w1.heap.size = g1 := ⟨_, rfl⟩
        have HXF := hide (Box.newAt hg1 47 #[.int .i64 F1, .int .i64 T])
        have HXR := hide (HX1.out.alloc (.cells #[.int .i64 F1, .int .i64 T] 47))
        have HBR := hide (HB1.out.alloc HB1.out.size (.cells #[.int .i64 F1, .int .i64 T] 47))
        have hlt1 : w.heap.size < g1 := by have := HX1.out.lt; omega
        go_wp2_with fail
        refine (HG2.out _ ((HS.out.below HBR.out))).mono ?_
        clear hg1
        generalize (w1.alloc (.cells #[.int .i64 F1, .int .i64 T] 47)) = W1 at HXF HXR HBR ⊢
        rintro e w2 ⟨rfl, hb2'⟩
        have HXF2 := hide (HXF.out.below hb2')
        have HXR2 := hide (HXR.out.below hb2')
        have HBR2 := hide (HBR.out.trans (hb2'.mono HBR.out.size))
        clear hb2' HXF HXR HBR
        obtain ⟨g2, hg2⟩ : ∃ g2, w2.heap.size = g2 := ⟨_, rfl⟩
        have hlt2 : g1 < g2 := by have := HXF2.out.lt; omega
        have HXG := hide (Box.newAt hg2 47 #[.int .i64 F1, .int .i64 T])
        have HXF3 := hide (HXF2.out.alloc (.cells #[.int .i64 F1, .int .i64 T] 47))
        have HXR3 := hide (HXR2.out.alloc (.cells #[.int .i64 F1, .int .i64 T] 47))
        have HBR3 := hide (HBR2.out.alloc HBR2.out.size (.cells #[.int .i64 F1, .int .i64 T] 47))
        obtain ⟨⟨y0, y1⟩, v0, v1⟩ := HXF3.out.c2
        obtain ⟨⟨x0, x1⟩, z0, z1⟩ := HXR3.out.c2
        have hne : w.heap.size ≠ g2 := by omega
        go_wp2_with fail
        refine (HG3.out _ ((HS.out.below HBR3.out))).mono ?_
        clear hg2 y0 y1 v0 v1 x0 x1 z0 z1
        generalize (w2.alloc (.cells #[.int .i64 F1, .int .i64 T] 47)) = W2 at HXG HXR3 HBR3 ⊢
        rintro e w3 ⟨rfl, hb3'⟩
        have HXG4 := hide (HXG.out.below hb3')
        have HXR4 := hide (HXR3.out.below hb3')
        have HBR4 := hide (HBR3.out.trans (hb3'.mono HBR3.out.size))
        clear hb3'
        obtain ⟨⟨y0, y1⟩, v0, v1⟩ := HXG4.out.c2
        obtain ⟨⟨x0, x1⟩, z0, z1⟩ := HXR4.out.c2
        have hne' := hne.symm
        go_wp2_with fail
        obtain ⟨⟨r0, r1⟩, _⟩ := ((((HXR4.out.far (p := ⟨g2, 0, none⟩) hne (.int .i64 F)).far (p := ⟨g2, 1, none⟩) hne (.int .i64 T)).set 0 (.int .i64 F)).set 1 (.int .i64 T)).c2
        exact bodyPost_ret (v := .tuple #[.agg #[.int .i64 F, .int .i64 T], .bool true]) (by simp [results, Try.results53, go_sem, r0, r1]) rfl
          ⟨rfl, (((HBR4.out.setCell (p := ⟨g2, 0, none⟩) (by show w.heap.size ≤ g2; omega) _).setCell (p := ⟨g2, 1, none⟩) (by show w.heap.size ≤ g2; omega) _).setCell (p := ⟨w.heap.size, 0, none⟩) (Nat.le_refl _) _).setCell (p := ⟨w.heap.size, 1, none⟩) (Nat.le_refl _) _⟩
      · rw [if_neg h] at HF HT HO
        obtain rfl : F = F1 := HF.out
        obtain rfl : T = T2 := HT.out
        obtain rfl : ok = true := HO.out
        have hne12 : ((T : Int) == (T1 : Int)) = false := by simp; omega
        clear h
        go_enter Try.func53, Try.ntmps53
        go_wp2_with fail
        refine (sort_any _ _).mono ?_
        rintro e w' ⟨rfl, rfl⟩
        go_wp2_with fail
        refine (HG1.out _ (HS.out.alloc _)).mono ?_
        rintro e w1 ⟨rfl, hb1'⟩
        have HX1 := hide (HX0.out.below hb1')
        have HB1 := hide (HB0.out.trans (hb1'.mono (by simp)))
        clear hb1'
        obtain ⟨g1, hg1⟩ : ∃ g1, w1.heap.size = g1 := ⟨_, rfl⟩
        have HXF := hide (Box.newAt hg1 47 #[.int .i64 F, .int .i64 T1])
        have HXR := hide (HX1.out.alloc (.cells #[.int .i64 F, .int .i64 T1] 47))
        have HBR := hide (HB1.out.alloc HB1.out.size (.cells #[.int .i64 F, .int .i64 T1] 47))
        have hlt1 : w.heap.size < g1 := by have := HX1.out.lt; omega
        go_wp2_with fail
        refine (HG2.out _ ((HS.out.below HBR.out))).mono ?_
        clear hg1
        generalize (w1.alloc (.cells #[.int .i64 F, .int .i64 T1] 47)) = W1 at HXF HXR HBR ⊢
        rintro e w2 ⟨rfl, hb2'⟩
        have HXF2 := hide (HXF.out.below hb2')
        have HXR2 := hide (HXR.out.below hb2')
        have HBR2 := hide (HBR.out.trans (hb2'.mono HBR.out.size))
        clear hb2' HXF HXR HBR
        obtain ⟨g2, hg2⟩ : ∃ g2, w2.heap.size = g2 := ⟨_, rfl⟩
        have hlt2 : g1 < g2 := by have := HXF2.out.lt; omega
        have HXG := hide (Box.newAt hg2 47 #[.int .i64 F, .int .i64 T])
        have HXF3 := hide (HXF2.out.alloc (.cells #[.int .i64 F, .int .i64 T] 47))
        have HXR3 := hide (HXR2.out.alloc (.cells #[.int .i64 F, .int .i64 T] 47))
        have HBR3 := hide (HBR2.out.alloc HBR2.out.size (.cells #[.int .i64 F, .int .i64 T] 47))
        obtain ⟨⟨y0, y1⟩, v0, v1⟩ := HXF3.out.c2
        obtain ⟨⟨x0, x1⟩, z0, z1⟩ := HXR3.out.c2
        have hne : w.heap.size ≠ g2 := by omega
        go_wp2_with fail
        obtain ⟨⟨r0, r1⟩, _⟩ := ((HXR3.out.set 0 (.int .i64 F)).set 1 (.int .i64 T)).c2
        exact bodyPost_ret (v := .tuple #[.agg #[.int .i64 F, .int .i64 T], .bool true]) (by simp [results, Try.results53, go_sem, r0, r1]) rfl
          ⟨rfl, (HBR3.out.setCell (p := ⟨w.heap.size, 0, none⟩) (Nat.le_refl _) _).setCell (p := ⟨w.heap.size, 1, none⟩) (Nat.le_refl _) _⟩
end Go.Proofs.Ytkfihnkghiajiaa
