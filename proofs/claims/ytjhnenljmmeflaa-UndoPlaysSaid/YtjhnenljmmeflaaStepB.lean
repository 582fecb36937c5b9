/- The contract of standishlaw28.step: Pick, Copy. -/
import Derived.Test.YtjhnenljmmeflaaStepA
namespace Go.Proofs.Ytjhnenljmmeflaa
open Go.RowKit
set_option linter.unusedVariables false

/-- What Pick makes of the groups, and whether. -/
def pickTo (gs : List Grp) (now : Nat) (i : Int) : List Grp := pickedG gs now (gs.getD now root0) i
def pickOk (gs : List Grp) (now : Nat) (i : Int) : Bool := pickB (gs.getD now root0) i
theorem pickTo_len (gs : List Grp) (now : Nat) (i : Int) : (pickTo gs now i).length = gs.length := by
  unfold pickTo pickedG
  split
  · unfold pickG
    split <;> simp
  · rfl
section
variable {w0 w w' : World} {P Q S : Nat → Prop} {t r na nb na' nb' q : Nat} {ga gb : List Grp} {e : Ending} {u : DV}
theorem pick_all (i : Int) (h : StepSt w0 w P Q t r ga na gb nb q u) : Calls Try.prog 27 #[.pointer (some ⟨t, 0, none⟩), .int .i64 i] w fun e w' => e = .returned (.bool (pickOk ga na i)) ∧ StepSt w0 w' P Q t r (pickTo ga na i) na gb nb q u := by
  obtain ⟨x, hx⟩ : ∃ x, ga[na]? = some x := ⟨_, List.getElem?_eq_getElem h.two.a.wf.nw⟩
  refine (pick_any w P t ga na x i h.two.a hx).mono ?_
  intro e w' hk
  unfold pickOk pickTo
  rw [getD_of hx]
  obtain ⟨h1, h2, h3⟩ := h.two.pickA hk
  exact ⟨h1, h2, h.stay h3 h.offP, h.offP, h.offQ⟩
theorem rpick_all (i : Int) (h : StepSt w0 w P Q t r ga na gb nb q u) : Calls Try.prog 55 #[.pointer (some ⟨r, 0, none⟩), .int .i64 i] w fun e w' => e = .returned (.bool (pickOk gb nb i)) ∧ StepSt w0 w' P Q t r ga na (pickTo gb nb i) nb q u := by
  obtain ⟨x, hx⟩ : ∃ x, gb[nb]? = some x := ⟨_, List.getElem?_eq_getElem h.two.b.wf.nw⟩
  refine (rpick_any w Q r gb nb x i h.two.b hx).mono ?_
  intro e w' hk
  unfold pickOk pickTo
  rw [getD_of hx]
  obtain ⟨h1, h2, h3⟩ := h.two.pickRB hk
  exact ⟨h1, h2, h.stay h3 h.offQ, h.offP, h.offQ⟩
end

set_option maxRecDepth 100000 in
set_option maxHeartbeats 4000000 in
theorem step_pick (w0 w : World) (P Q : Nat → Prop) (t r : Nat) (gs : List Grp) (now : Nat) (u : DV) (h : Two w0 w P Q t r gs now gs now) (hs : gs.length ≤ 100) (hz : bits .and .i64 u.how 7 = 5) : Calls Try.prog 29 #[.pointer (some ⟨t, 0, none⟩), .pointer (some ⟨r, 0, none⟩), .agg #[.int .i64 u.how, .int .i64 u.at_, .slice u.L u.n u.c]] w (StepR w0 r (gs.length + 1)) := by
  obtain ⟨q, hq⟩ : ∃ q, w.heap.size = q := ⟨_, rfl⟩
  have HST := hide (StepSt.start h u hq)
  obtain ⟨⟨c0, c1, c2⟩, -⟩ := HST.out.box.c3
  obtain ⟨i1, hi1⟩ : ∃ i, bits .and .i64 u.at_ 1 = i := ⟨_, rfl⟩
  clear h
  go_enter Try.func29, Try.ntmps29
  go_wp2_with fail
  generalize w.alloc (.cells #[.int .i64 u.how, .int .i64 u.at_, .slice u.L u.n u.c] 54) = W1 at HST c0 c1 c2 ⊢
  have HS := hide (HST.out.next (Below.refl _ _).drew)
  clear hq HST
  go_region_held3 (fun w' => w'.cell? ⟨q, 1, none⟩ = some (.int .i64 u.at_))
    (first | go_keep)
    (first
     | (go_at_call 27; (with_reducible refine (pick_all _ HS.out).mono ?_); rintro e w5 ⟨rfl, hS5⟩; have k1 := hS5.box.c3.1.2.1; clear HS; have HS := hide hS5; clear hS5)
     | (go_at_call 55; (with_reducible refine (rpick_all _ HS.out).mono ?_); rintro e w5 ⟨rfl, hS5⟩; have k1 := hS5.box.c3.1.2.1; clear HS; have HS := hide hS5; clear hS5))
  all_goals go_wp2_with fail
  all_goals go_ret2
  all_goals exact ⟨t, P, Q, _, now, rfl, HS.out.two, by rw [pickTo_len, pickTo_len]; omega⟩

set_option maxRecDepth 100000 in
set_option maxHeartbeats 4000000 in
theorem step_copy (w0 w : World) (P Q : Nat → Prop) (t r : Nat) (gs : List Grp) (now : Nat) (u : DV) (h : Two w0 w P Q t r gs now gs now) (hs : gs.length ≤ 100) (hz : bits .and .i64 u.how 7 = 6) : Calls Try.prog 29 #[.pointer (some ⟨t, 0, none⟩), .pointer (some ⟨r, 0, none⟩), .agg #[.int .i64 u.how, .int .i64 u.at_, .slice u.L u.n u.c]] w (StepR w0 r (gs.length + 1)) := by
  obtain ⟨q, hq⟩ : ∃ q, w.heap.size = q := ⟨_, rfl⟩
  have HST := hide (StepSt.start h u hq)
  obtain ⟨⟨c0, c1, c2⟩, -⟩ := HST.out.box.c3
  clear h
  go_enter Try.func29, Try.ntmps29
  go_wp2_with fail
  generalize w.alloc (.cells #[.int .i64 u.how, .int .i64 u.at_, .slice u.L u.n u.c] 54) = W1 at HST c0 c1 c2 ⊢
  clear hq c0 c1 c2
  refine (copy_any W1 P t gs now HST.out.two.a).mono ?_
  rintro e w2 ⟨t', rfl, hT2, hb2⟩
  have HC := hide (HST.out.two.copied hT2 hb2)
  have HO := hide (HST.out.two.a.below hb2)
  have HOP := hide (show (∀ x, P x → x < W1.heap.size ∧ w0.heap.size ≤ x ∧ ¬ Q x) from fun x hx => ⟨HST.out.two.a.lt x hx, HST.out.two.ownP x hx, HST.out.two.dis x hx⟩)
  have hsz : W1.heap.size ≤ w2.heap.size := hb2.size
  obtain ⟨g, hg⟩ : ∃ g, w2.heap.size = g := ⟨_, rfl⟩
  have hX0 := Box.newAt hg 21 #[.int .i32 122]
  have hs2 : (w2.alloc (.cells #[.int .i32 122] 21)).heap.size = g + 1 := by simp [hg]
  have hY0 := Box.newAt hs2 31 #[.int .i64 0, .slice none 0 0, .slice (some ⟨g, 0, none⟩) 1 1]
  have hbl : Below w2.heap.size w2 ((w2.alloc (.cells #[.int .i32 122] 21)).alloc (.cells #[.int .i64 0, .slice none 0 0, .slice (some ⟨g, 0, none⟩) 1 1] 31)) := ((Below.refl _ _).alloc (Nat.le_refl _) _).alloc (by simp) _
  have hX1 := hX0.alloc (.cells #[.int .i64 0, .slice none 0 0, .slice (some ⟨g, 0, none⟩) 1 1] 31)
  have HOX := hide (Tr.off HO.out hbl (b := g) (by omega) hX1.lt)
  have HOY := hide (Tr.off HO.out hbl (b := g + 1) (by omega) hY0.lt)
  have HX := hide hX1
  have HY := hide hY0
  have HC3 := hide (HC.out.next hbl)
  have HO3 := hide (HO.out.below hbl)
  clear hT2 hb2 hX0 hX1 hY0 hbl hs2 HC HO HST
  go_wp2_with fail
  generalize ((w2.alloc (.cells #[.int .i32 122] 21)).alloc (.cells #[.int .i64 0, .slice none 0 0, .slice (some ⟨g, 0, none⟩) 1 1] 31)) = W3 at HX HY HOX HOY HC3 HO3 ⊢
  clear hg
  refine (add_any W3 P t gs gs now now _ 1 1 _ [litC 0 122] 0 HO3.out (lit1_keeps HY.out HX.out HOY.out HOX.out (by omega) (by omega)) (by omega) (by omega) (by omega) (.inl ⟨hs, rfl, rfl⟩)).mono ?_
  rintro e w4 ⟨rfl, Q4, hT4, hk4, hq4⟩
  have HC4 := hide (HC3.out.keeps hk4 (fun x hx he => by have h1 := HOP.out x he; omega) (fun x hx he => (HOP.out x he).2.2 hx) fun x hx => (HOP.out x hx).2.1)
  clear hT4 hk4 hq4 HC3 HO3 HX HY HOX HOY
  go_wp2_with fail
  go_ret2
  exact ⟨t', _, Q, gs, now, rfl, HC4.out, by omega⟩
end Go.Proofs.Ytjhnenljmmeflaa
