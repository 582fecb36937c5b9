/- May of an environment: the reference's MayEnv, vars.May: one plain answer. -/
import Derived.Test.YtfeflmpdbejhjaaDoorMayA
namespace Go.Proofs.YtfeflmpdbejhjaaDoor
open Go.RowKit
set_option linter.unusedVariables false

def mayE (v : EnvV) : Bool := shortS (v.t 0) && shortS (v.t 1) && shortS (v.t 2) && shortS (v.t 3) && shortS (v.t 4) && shortS (v.t 5) && inB v.ix 0 9999 && decide (v.d.length ≤ 40) && (v.d.all fun x => inB x 0 16777215) && clockOk v.ck
theorem mayE_no {v : EnvV} (h : shortS (v.t 0) = false ∨ shortS (v.t 1) = false ∨ shortS (v.t 2) = false ∨ shortS (v.t 3) = false ∨ shortS (v.t 4) = false ∨ shortS (v.t 5) = false ∨ inB v.ix 0 9999 = false ∨ ¬ v.d.length ≤ 40 ∨ (v.d.all fun x => inB x 0 16777215) = false ∨ clockOk v.ck = false) : mayE v = false := by
  unfold mayE
  rcases h with h | h | h | h | h | h | h | h | h | h <;> simp [h]
theorem mayE_yes {v : EnvV} (h0 : shortS (v.t 0) = true) (h1 : shortS (v.t 1) = true) (h2 : shortS (v.t 2) = true) (h3 : shortS (v.t 3) = true) (h4 : shortS (v.t 4) = true) (h5 : shortS (v.t 5) = true) (h6 : inB v.ix 0 9999 = true) (h7 : v.d.length ≤ 40) (h8 : (v.d.all fun x => inB x 0 16777215) = true) (h9 : clockOk v.ck = true) : mayE v = true := by
  unfold mayE
  rw [h0, h1, h2, h3, h4, h5, h6, h8, h9, decide_eq_true h7]
  rfl
theorem all_in {l : List Int} (h : ∀ j, j < l.length → inB (nth l j) 0 16777215 = true) : (l.all fun x => inB x 0 16777215) = true := by
  rw [List.all_eq_true]
  intro x hx
  obtain ⟨j, hj, rfl⟩ := mem_nth hx
  exact h j hj
theorem not_in {l : List Int} {j : Nat} (hj : j < l.length) (h : inB (nth l j) 0 16777215 = false) : (l.all fun x => inB x 0 16777215) = false := by
  cases hm : l.all fun x => inB x 0 16777215
  · rfl
  · rw [List.all_eq_true] at hm
    rw [hm _ (nth_mem hj)] at h
    cases h
theorem ck_no {v : EnvV} {ck : Fin 7 → Int} (e : v.ck = ck) (h : clockOk ck = false) : mayE v = false := mayE_no (by rw [e]; simp [h])

set_option maxRecDepth 100000 in
set_option maxHeartbeats 8000000 in
theorem mayEnv_any (e : EnvH) (v : EnvV) (w : World) (h : EnvR w e v) :
    Calls Tryd.prog 20 #[e.v] w fun r w' => r = .returned (.bool (mayE v)) ∧ Below w.heap.size w w' := by
  obtain ⟨g, hg⟩ : ∃ g, w.heap.size = g := ⟨_, rfl⟩
  have hba := (Below.refl w.heap.size w).alloc (Nat.le_refl _) (.cells e.cells 26)
  have HB := hide hba
  have HX := hide (Box.newAt hg 26 e.cells)
  have HE := hide (h.below hba)
  have hd := h.dn
  have HL := hide h.dr.len
  have HIX := hide h.ix
  have HCK := hide h.ck
  clear h hba
  unfold EnvH.v EnvH.cells
  unfold EnvH.cells at HB HX HE
  go_enter Tryd.func20, Tryd.ntmps20
  go_upto_region 1 with fail
  generalize w.alloc (.cells #[.slice (e.t 0).A (e.t 0).n (e.t 0).c, .slice (e.t 1).A (e.t 1).n (e.t 1).c, .slice (e.t 2).A (e.t 2).n (e.t 2).c, .slice (e.t 3).A (e.t 3).n (e.t 3).c, .slice (e.t 4).A (e.t 4).n (e.t 4).c, .slice (e.t 5).A (e.t 5).n (e.t 5).c, .int .i64 e.ix, .int .i64 (e.ck 0), .int .i64 (e.ck 1), .int .i64 (e.ck 2), .int .i64 (e.ck 3), .int .i64 (e.ck 4), .int .i64 (e.ck 5), .int .i64 (e.ck 6), .slice e.d.A e.d.n e.d.c] 26) = w1 at HB HX HE ⊢
  rw [hg] at HB
  have hgs : g < w1.heap.size := HX.out.lt
  obtain ⟨x0, x1, x2, x3, x4, x5, x6, x7, x8, x9, x10, x11, x12, x13, x14⟩ := EnvH.at_ HX.out
  obtain ⟨g2, hg2⟩ : ∃ g2, w1.heap.size = g2 := ⟨_, rfl⟩
  have HE2 := hide (HE.out.below ((Below.refl w1.heap.size w1).alloc (Nat.le_refl _) (.cells #[.int .i64 (e.ck 0), .int .i64 (e.ck 1), .int .i64 (e.ck 2), .int .i64 (e.ck 3), .int .i64 (e.ck 4), .int .i64 (e.ck 5), .int .i64 (e.ck 6)] 23)))
  have HX2 := hide (HX.out.alloc (.cells #[.int .i64 (e.ck 0), .int .i64 (e.ck 1), .int .i64 (e.ck 2), .int .i64 (e.ck 3), .int .i64 (e.ck 4), .int .i64 (e.ck 5), .int .i64 (e.ck 6)] 23))
  have HC := hide (Box.newAt hg2 23 #[.int .i64 (e.ck 0), .int .i64 (e.ck 1), .int .i64 (e.ck 2), .int .i64 (e.ck 3), .int .i64 (e.ck 4), .int .i64 (e.ck 5), .int .i64 (e.ck 6)])
  have HB2 := hide (HB.out.alloc (by omega) (.cells #[.int .i64 (e.ck 0), .int .i64 (e.ck 1), .int .i64 (e.ck 2), .int .i64 (e.ck 3), .int .i64 (e.ck 4), .int .i64 (e.ck 5), .int .i64 (e.ck 6)] 23))
  clear HE HX HB
  go_upto_region 2 with fail
  generalize w1.alloc (.cells #[.int .i64 (e.ck 0), .int .i64 (e.ck 1), .int .i64 (e.ck 2), .int .i64 (e.ck 3), .int .i64 (e.ck 4), .int .i64 (e.ck 5), .int .i64 (e.ck 6)] 23) = w2 at HE2 HX2 HC HB2 ⊢
  clear x0 x1 x2 x3 x4 x5 x6 x7 x8 x9 x10 x11 x12 x13 x14 hgs
  obtain ⟨x0, x1, x2, x3, x4, x5, x6, x7, x8, x9, x10, x11, x12, x13, x14⟩ := EnvH.at_ HX2.out
  clear x7 x8 x9 x10 x11 x12 x13
  have c0 := HC.out.cell 0
  have c1 := HC.out.cell 1
  have c2 := HC.out.cell 2
  have c3 := HC.out.cell 3
  have c4 := HC.out.cell 4
  have c5 := HC.out.cell 5
  have c6 := HC.out.cell 6
  dsimp at c0 c1 c2 c3 c4 c5 c6
  cases hs0 : shortS (v.t 0)
  · have HR := hide (show mayE v = false from mayE_no (by simp [hs0]))
    go_wp2_with (first
        | (go_at_call 36; (with_reducible refine (short_any _ _ _ _ _ (HE2.out.tx 0) (HE2.out.tn 0).1).mono ?_); rintro e w' ⟨rfl, rfl⟩)
        | (go_at_call 36; (with_reducible refine (short_any _ _ _ _ _ (HE2.out.tx 1) (HE2.out.tn 1).1).mono ?_); rintro e w' ⟨rfl, rfl⟩)
        | (go_at_call 36; (with_reducible refine (short_any _ _ _ _ _ (HE2.out.tx 2) (HE2.out.tn 2).1).mono ?_); rintro e w' ⟨rfl, rfl⟩)
        | (go_at_call 36; (with_reducible refine (short_any _ _ _ _ _ (HE2.out.tx 3) (HE2.out.tn 3).1).mono ?_); rintro e w' ⟨rfl, rfl⟩)
        | (go_at_call 36; (with_reducible refine (short_any _ _ _ _ _ (HE2.out.tx 4) (HE2.out.tn 4).1).mono ?_); rintro e w' ⟨rfl, rfl⟩)
        | (go_at_call 36; (with_reducible refine (short_any _ _ _ _ _ (HE2.out.tx 5) (HE2.out.tn 5).1).mono ?_); rintro e w' ⟨rfl, rfl⟩)
        | (go_at_call 37; (with_reducible refine (in_any _ _ _ _).mono ?_); rintro e w' ⟨rfl, rfl⟩))
    go_ret
    exact ⟨retB HR.out.symm, by first | exact HB2.out | (rw [hg]; exact HB2.out)⟩
  · cases hs1 : shortS (v.t 1)
    · have HR := hide (show mayE v = false from mayE_no (by simp [hs1]))
      go_wp2_with (first
            | (go_at_call 36; (with_reducible refine (short_any _ _ _ _ _ (HE2.out.tx 0) (HE2.out.tn 0).1).mono ?_); rintro e w' ⟨rfl, rfl⟩)
            | (go_at_call 36; (with_reducible refine (short_any _ _ _ _ _ (HE2.out.tx 1) (HE2.out.tn 1).1).mono ?_); rintro e w' ⟨rfl, rfl⟩)
            | (go_at_call 36; (with_reducible refine (short_any _ _ _ _ _ (HE2.out.tx 2) (HE2.out.tn 2).1).mono ?_); rintro e w' ⟨rfl, rfl⟩)
            | (go_at_call 36; (with_reducible refine (short_any _ _ _ _ _ (HE2.out.tx 3) (HE2.out.tn 3).1).mono ?_); rintro e w' ⟨rfl, rfl⟩)
            | (go_at_call 36; (with_reducible refine (short_any _ _ _ _ _ (HE2.out.tx 4) (HE2.out.tn 4).1).mono ?_); rintro e w' ⟨rfl, rfl⟩)
            | (go_at_call 36; (with_reducible refine (short_any _ _ _ _ _ (HE2.out.tx 5) (HE2.out.tn 5).1).mono ?_); rintro e w' ⟨rfl, rfl⟩)
            | (go_at_call 37; (with_reducible refine (in_any _ _ _ _).mono ?_); rintro e w' ⟨rfl, rfl⟩))
      go_ret
      exact ⟨retB HR.out.symm, by first | exact HB2.out | (rw [hg]; exact HB2.out)⟩
    · cases hs2 : shortS (v.t 2)
      · have HR := hide (show mayE v = false from mayE_no (by simp [hs2]))
        go_wp2_with (first
                | (go_at_call 36; (with_reducible refine (short_any _ _ _ _ _ (HE2.out.tx 0) (HE2.out.tn 0).1).mono ?_); rintro e w' ⟨rfl, rfl⟩)
                | (go_at_call 36; (with_reducible refine (short_any _ _ _ _ _ (HE2.out.tx 1) (HE2.out.tn 1).1).mono ?_); rintro e w' ⟨rfl, rfl⟩)
                | (go_at_call 36; (with_reducible refine (short_any _ _ _ _ _ (HE2.out.tx 2) (HE2.out.tn 2).1).mono ?_); rintro e w' ⟨rfl, rfl⟩)
                | (go_at_call 36; (with_reducible refine (short_any _ _ _ _ _ (HE2.out.tx 3) (HE2.out.tn 3).1).mono ?_); rintro e w' ⟨rfl, rfl⟩)
                | (go_at_call 36; (with_reducible refine (short_any _ _ _ _ _ (HE2.out.tx 4) (HE2.out.tn 4).1).mono ?_); rintro e w' ⟨rfl, rfl⟩)
                | (go_at_call 36; (with_reducible refine (short_any _ _ _ _ _ (HE2.out.tx 5) (HE2.out.tn 5).1).mono ?_); rintro e w' ⟨rfl, rfl⟩)
                | (go_at_call 37; (with_reducible refine (in_any _ _ _ _).mono ?_); rintro e w' ⟨rfl, rfl⟩))
        go_ret
        exact ⟨retB HR.out.symm, by first | exact HB2.out | (rw [hg]; exact HB2.out)⟩
      · cases hs3 : shortS (v.t 3)
        · have HR := hide (show mayE v = false from mayE_no (by simp [hs3]))
          go_wp2_with (first
                    | (go_at_call 36; (with_reducible refine (short_any _ _ _ _ _ (HE2.out.tx 0) (HE2.out.tn 0).1).mono ?_); rintro e w' ⟨rfl, rfl⟩)
                    | (go_at_call 36; (with_reducible refine (short_any _ _ _ _ _ (HE2.out.tx 1) (HE2.out.tn 1).1).mono ?_); rintro e w' ⟨rfl, rfl⟩)
                    | (go_at_call 36; (with_reducible refine (short_any _ _ _ _ _ (HE2.out.tx 2) (HE2.out.tn 2).1).mono ?_); rintro e w' ⟨rfl, rfl⟩)
                    | (go_at_call 36; (with_reducible refine (short_any _ _ _ _ _ (HE2.out.tx 3) (HE2.out.tn 3).1).mono ?_); rintro e w' ⟨rfl, rfl⟩)
                    | (go_at_call 36; (with_reducible refine (short_any _ _ _ _ _ (HE2.out.tx 4) (HE2.out.tn 4).1).mono ?_); rintro e w' ⟨rfl, rfl⟩)
                    | (go_at_call 36; (with_reducible refine (short_any _ _ _ _ _ (HE2.out.tx 5) (HE2.out.tn 5).1).mono ?_); rintro e w' ⟨rfl, rfl⟩)
                    | (go_at_call 37; (with_reducible refine (in_any _ _ _ _).mono ?_); rintro e w' ⟨rfl, rfl⟩))
          go_ret
          exact ⟨retB HR.out.symm, by first | exact HB2.out | (rw [hg]; exact HB2.out)⟩
        · cases hs4 : shortS (v.t 4)
          · have HR := hide (show mayE v = false from mayE_no (by simp [hs4]))
            go_wp2_with (first
                        | (go_at_call 36; (with_reducible refine (short_any _ _ _ _ _ (HE2.out.tx 0) (HE2.out.tn 0).1).mono ?_); rintro e w' ⟨rfl, rfl⟩)
                        | (go_at_call 36; (with_reducible refine (short_any _ _ _ _ _ (HE2.out.tx 1) (HE2.out.tn 1).1).mono ?_); rintro e w' ⟨rfl, rfl⟩)
                        | (go_at_call 36; (with_reducible refine (short_any _ _ _ _ _ (HE2.out.tx 2) (HE2.out.tn 2).1).mono ?_); rintro e w' ⟨rfl, rfl⟩)
                        | (go_at_call 36; (with_reducible refine (short_any _ _ _ _ _ (HE2.out.tx 3) (HE2.out.tn 3).1).mono ?_); rintro e w' ⟨rfl, rfl⟩)
                        | (go_at_call 36; (with_reducible refine (short_any _ _ _ _ _ (HE2.out.tx 4) (HE2.out.tn 4).1).mono ?_); rintro e w' ⟨rfl, rfl⟩)
                        | (go_at_call 36; (with_reducible refine (short_any _ _ _ _ _ (HE2.out.tx 5) (HE2.out.tn 5).1).mono ?_); rintro e w' ⟨rfl, rfl⟩)
                        | (go_at_call 37; (with_reducible refine (in_any _ _ _ _).mono ?_); rintro e w' ⟨rfl, rfl⟩))
            go_ret
            exact ⟨retB HR.out.symm, by first | exact HB2.out | (rw [hg]; exact HB2.out)⟩
          · cases hs5 : shortS (v.t 5)
            · have HR := hide (show mayE v = false from mayE_no (by simp [hs5]))
              go_wp2_with (first
                            | (go_at_call 36; (with_reducible refine (short_any _ _ _ _ _ (HE2.out.tx 0) (HE2.out.tn 0).1).mono ?_); rintro e w' ⟨rfl, rfl⟩)
                            | (go_at_call 36; (with_reducible refine (short_any _ _ _ _ _ (HE2.out.tx 1) (HE2.out.tn 1).1).mono ?_); rintro e w' ⟨rfl, rfl⟩)
                            | (go_at_call 36; (with_reducible refine (short_any _ _ _ _ _ (HE2.out.tx 2) (HE2.out.tn 2).1).mono ?_); rintro e w' ⟨rfl, rfl⟩)
                            | (go_at_call 36; (with_reducible refine (short_any _ _ _ _ _ (HE2.out.tx 3) (HE2.out.tn 3).1).mono ?_); rintro e w' ⟨rfl, rfl⟩)
                            | (go_at_call 36; (with_reducible refine (short_any _ _ _ _ _ (HE2.out.tx 4) (HE2.out.tn 4).1).mono ?_); rintro e w' ⟨rfl, rfl⟩)
                            | (go_at_call 36; (with_reducible refine (short_any _ _ _ _ _ (HE2.out.tx 5) (HE2.out.tn 5).1).mono ?_); rintro e w' ⟨rfl, rfl⟩)
                            | (go_at_call 37; (with_reducible refine (in_any _ _ _ _).mono ?_); rintro e w' ⟨rfl, rfl⟩))
              go_ret
              exact ⟨retB HR.out.symm, by first | exact HB2.out | (rw [hg]; exact HB2.out)⟩
            · cases hix : inB e.ix 0 9999
              · have HR := hide (show mayE v = false from mayE_no (by rw [HIX.out]; simp [hix]))
                go_wp2_with (first
                                | (go_at_call 36; (with_reducible refine (short_any _ _ _ _ _ (HE2.out.tx 0) (HE2.out.tn 0).1).mono ?_); rintro e w' ⟨rfl, rfl⟩)
                                | (go_at_call 36; (with_reducible refine (short_any _ _ _ _ _ (HE2.out.tx 1) (HE2.out.tn 1).1).mono ?_); rintro e w' ⟨rfl, rfl⟩)
                                | (go_at_call 36; (with_reducible refine (short_any _ _ _ _ _ (HE2.out.tx 2) (HE2.out.tn 2).1).mono ?_); rintro e w' ⟨rfl, rfl⟩)
                                | (go_at_call 36; (with_reducible refine (short_any _ _ _ _ _ (HE2.out.tx 3) (HE2.out.tn 3).1).mono ?_); rintro e w' ⟨rfl, rfl⟩)
                                | (go_at_call 36; (with_reducible refine (short_any _ _ _ _ _ (HE2.out.tx 4) (HE2.out.tn 4).1).mono ?_); rintro e w' ⟨rfl, rfl⟩)
                                | (go_at_call 36; (with_reducible refine (short_any _ _ _ _ _ (HE2.out.tx 5) (HE2.out.tn 5).1).mono ?_); rintro e w' ⟨rfl, rfl⟩)
                                | (go_at_call 37; (with_reducible refine (in_any _ _ _ _).mono ?_); rintro e w' ⟨rfl, rfl⟩))
                go_ret
                exact ⟨retB HR.out.symm, by first | exact HB2.out | (rw [hg]; exact HB2.out)⟩
              · by_cases hdn : e.d.n ≤ 40
                case neg =>
                  have hdn' : (40 : Int) < (e.d.n : Int) := by omega
                  have HR := hide (show mayE v = false from mayE_no (by have := HL.out; simp; omega))
                  go_wp2_with (first
                                    | (go_at_call 36; (with_reducible refine (short_any _ _ _ _ _ (HE2.out.tx 0) (HE2.out.tn 0).1).mono ?_); rintro e w' ⟨rfl, rfl⟩)
                                    | (go_at_call 36; (with_reducible refine (short_any _ _ _ _ _ (HE2.out.tx 1) (HE2.out.tn 1).1).mono ?_); rintro e w' ⟨rfl, rfl⟩)
                                    | (go_at_call 36; (with_reducible refine (short_any _ _ _ _ _ (HE2.out.tx 2) (HE2.out.tn 2).1).mono ?_); rintro e w' ⟨rfl, rfl⟩)
                                    | (go_at_call 36; (with_reducible refine (short_any _ _ _ _ _ (HE2.out.tx 3) (HE2.out.tn 3).1).mono ?_); rintro e w' ⟨rfl, rfl⟩)
                                    | (go_at_call 36; (with_reducible refine (short_any _ _ _ _ _ (HE2.out.tx 4) (HE2.out.tn 4).1).mono ?_); rintro e w' ⟨rfl, rfl⟩)
                                    | (go_at_call 36; (with_reducible refine (short_any _ _ _ _ _ (HE2.out.tx 5) (HE2.out.tn 5).1).mono ?_); rintro e w' ⟨rfl, rfl⟩)
                                    | (go_at_call 37; (with_reducible refine (in_any _ _ _ _).mono ?_); rintro e w' ⟨rfl, rfl⟩))
                  go_ret
                  exact ⟨retB HR.out.symm, by first | exact HB2.out | (rw [hg]; exact HB2.out)⟩
                have hdn' : ¬ (40 : Int) < (e.d.n : Int) := by omega
                go_wp2_with (first
                                  | (go_at_call 36; (with_reducible refine (short_any _ _ _ _ _ (HE2.out.tx 0) (HE2.out.tn 0).1).mono ?_); rintro e w' ⟨rfl, rfl⟩)
                                  | (go_at_call 36; (with_reducible refine (short_any _ _ _ _ _ (HE2.out.tx 1) (HE2.out.tn 1).1).mono ?_); rintro e w' ⟨rfl, rfl⟩)
                                  | (go_at_call 36; (with_reducible refine (short_any _ _ _ _ _ (HE2.out.tx 2) (HE2.out.tn 2).1).mono ?_); rintro e w' ⟨rfl, rfl⟩)
                                  | (go_at_call 36; (with_reducible refine (short_any _ _ _ _ _ (HE2.out.tx 3) (HE2.out.tn 3).1).mono ?_); rintro e w' ⟨rfl, rfl⟩)
                                  | (go_at_call 36; (with_reducible refine (short_any _ _ _ _ _ (HE2.out.tx 4) (HE2.out.tn 4).1).mono ?_); rintro e w' ⟨rfl, rfl⟩)
                                  | (go_at_call 36; (with_reducible refine (short_any _ _ _ _ _ (HE2.out.tx 5) (HE2.out.tn 5).1).mono ?_); rintro e w' ⟨rfl, rfl⟩)
                                  | (go_at_call 37; (with_reducible refine (in_any _ _ _ _).mono ?_); rintro e w' ⟨rfl, rfl⟩))
                have HS := hide (show ∀ hall : (v.d.all fun x => inB x 0 16777215) = true, ∀ hck : clockOk v.ck = true, mayE v = true from fun hall hck => mayE_yes hs0 hs1 hs2 hs3 hs4 hs5 (by rw [HIX.out]; exact hix) (by rw [HL.out]; exact hdn) hall hck)
                clear hs0 hs1 hs2 hs3 hs4 hs5 hix x0 x1 x2 x3 x4 x5 x6
                go_loop [4] (fun s => ∃ k : Nat, k ≤ e.d.n ∧ s = .int .i64 (k : Int) ∧ Hid (∀ j, j < k → inB (nth v.d j) 0 16777215 = true)) (fun s => e.d.n - (intOf s).toNat)
                case atStart => exact ⟨0, Nat.zero_le _, rfl, fun j hj => absurd hj (by omega)⟩
                case round =>
                  obtain ⟨k, hk, rfl, HK⟩ := hrel
                  by_cases hlt : k < e.d.n
                  · obtain ⟨b, o, hA, hc⟩ := HE2.out.dr.at_ k hlt
                    rw [hA] at x14
                    clear hA
                    have i0 : (0 : Int) ≤ (k : Int) := by omega
                    have i1 : (k : Int) < (e.d.n : Int) := by omega
                    cases hin : inB (nth v.d k) 0 16777215
                    · have HR := hide (show mayE v = false from mayE_no (by have := not_in (by rw [HL.out]; exact hlt) hin; simp only [this]; simp))
                      go_wp2_with (go_at_call 37; (with_reducible refine (in_any _ _ _ _).mono ?_); rintro e w' ⟨rfl, rfl⟩)
                      go_ret
                      exact ⟨retB HR.out.symm, by first | exact HB2.out | (rw [hg]; exact HB2.out)⟩
                    · have HIN := hide hin
                      go_wp2_with (go_at_call 37; (with_reducible refine (in_any _ _ _ _).mono ?_); rintro e w' ⟨rfl, rfl⟩)
                      go_round
                      case rel => exact ⟨k + 1, by omega, by go_num, fun j h' => (by
                        rcases Nat.lt_succ_iff_lt_or_eq.1 h' with h1 | h1
                        · exact HK.out j h1
                        · rw [h1]; exact HIN.out)⟩
                      case measure => simp [intOf]; omega
                  · have HALL := hide (show (v.d.all fun x => inB x 0 16777215) = true from all_in fun j hj => HK.out j (by have := HL.out; omega))
                    have hlt' : ¬ (k : Int) < (e.d.n : Int) := by omega
                    cases hk0 : inB (e.ck 0) 0 9999
                    · have HR := hide (show mayE v = false from ck_no HCK.out (by unfold clockOk; simp [hk0]))
                      go_wp2_with (go_at_call 37; (with_reducible refine (in_any _ _ _ _).mono ?_); rintro e w' ⟨rfl, rfl⟩)
                      go_ret
                      exact ⟨retB HR.out.symm, by first | exact HB2.out | (rw [hg]; exact HB2.out)⟩
                    · cases hk1 : inB (e.ck 1) 1 12
                      · have HR := hide (show mayE v = false from ck_no HCK.out (by unfold clockOk; simp [hk1]))
                        go_wp2_with (go_at_call 37; (with_reducible refine (in_any _ _ _ _).mono ?_); rintro e w' ⟨rfl, rfl⟩)
                        go_ret
                        exact ⟨retB HR.out.symm, by first | exact HB2.out | (rw [hg]; exact HB2.out)⟩
                      · cases hk2 : inB (e.ck 2) 1 31
                        · have HR := hide (show mayE v = false from ck_no HCK.out (by unfold clockOk; simp [hk2]))
                          go_wp2_with (go_at_call 37; (with_reducible refine (in_any _ _ _ _).mono ?_); rintro e w' ⟨rfl, rfl⟩)
                          go_ret
                          exact ⟨retB HR.out.symm, by first | exact HB2.out | (rw [hg]; exact HB2.out)⟩
                        · cases hk3 : inB (e.ck 3) 0 23
                          · have HR := hide (show mayE v = false from ck_no HCK.out (by unfold clockOk; simp [hk3]))
                            go_wp2_with (go_at_call 37; (with_reducible refine (in_any _ _ _ _).mono ?_); rintro e w' ⟨rfl, rfl⟩)
                            go_ret
                            exact ⟨retB HR.out.symm, by first | exact HB2.out | (rw [hg]; exact HB2.out)⟩
                          · cases hk4 : inB (e.ck 4) 0 59
                            · have HR := hide (show mayE v = false from ck_no HCK.out (by unfold clockOk; simp [hk4]))
                              go_wp2_with (go_at_call 37; (with_reducible refine (in_any _ _ _ _).mono ?_); rintro e w' ⟨rfl, rfl⟩)
                              go_ret
                              exact ⟨retB HR.out.symm, by first | exact HB2.out | (rw [hg]; exact HB2.out)⟩
                            · cases hk5 : inB (e.ck 5) 0 59
                              · have HR := hide (show mayE v = false from ck_no HCK.out (by unfold clockOk; simp [hk5]))
                                go_wp2_with (go_at_call 37; (with_reducible refine (in_any _ _ _ _).mono ?_); rintro e w' ⟨rfl, rfl⟩)
                                go_ret
                                exact ⟨retB HR.out.symm, by first | exact HB2.out | (rw [hg]; exact HB2.out)⟩
                              · cases hk6 : inB (e.ck 6) 0 6
                                · have HR := hide (show mayE v = false from ck_no HCK.out (by unfold clockOk; simp [hk6]))
                                  go_wp2_with (go_at_call 37; (with_reducible refine (in_any _ _ _ _).mono ?_); rintro e w' ⟨rfl, rfl⟩)
                                  go_ret
                                  exact ⟨retB HR.out.symm, by first | exact HB2.out | (rw [hg]; exact HB2.out)⟩
                                · have HR := hide (show mayE v = true from HS.out HALL.out (by rw [HCK.out]; unfold clockOk; rw [hk0, hk1, hk2, hk3, hk4, hk5, hk6]; rfl))
                                  go_wp2_with (go_at_call 37; (with_reducible refine (in_any _ _ _ _).mono ?_); rintro e w' ⟨rfl, rfl⟩)
                                  go_ret
                                  exact ⟨retB HR.out.symm, by first | exact HB2.out | (rw [hg]; exact HB2.out)⟩
end Go.Proofs.YtfeflmpdbejhjaaDoor
