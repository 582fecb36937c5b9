/- The contract of standishlaw28.step: Add. -/
import Derived.Test.YtjhnenljmmeflaaStepB
import Derived.Test.YtjhnenljmmeflaaRefD
namespace Go.Proofs.Ytjhnenljmmeflaa
open Go.RowKit
set_option linter.unusedVariables false

section
variable {w0 w w' : World} {P Q S : Nat → Prop} {t r na nb na' nb' q : Nat} {ga gb : List Grp} {l : List Chg} {before : Int} {e : Ending} {u : DV} {k m n c : Nat} {A : Option Addr} {vs : List CV}
/-- The changes for Add: in new memory, beside both trees. -/
structure NewL (w : World) (P Q : Nat → Prop) (k m : Nat) (A : Option Addr) (n c : Nat) (vs : List CV) (l : List Chg) : Prop where
  row : RowC w k A n c vs
  els : Elts w k vs l
  ap : Ap vs
  inA : ∀ g, blk A = some g → g < m
  inE : ∀ v ∈ vs, CVIn (fun g => k ≤ g ∧ g < m) v
  offP : ∀ x, P x → x < k ∨ m ≤ x
  offQ : ∀ x, Q x → x < k ∨ m ≤ x
  mle : m ≤ w.heap.size
theorem chgs_far {w W : World} {P : Nat → Prop} {k m n c : Nat} {A : Option Addr} {vs : List CV} {l : List Chg} (hr : RowC w k A n c vs) (he : Elts w k vs l) (hA : ∀ g, blk A = some g → g < m) (hin : ∀ v ∈ vs, CVIn (fun g => k ≤ g ∧ g < m) v) (hm : m ≤ w.heap.size) (hP : ∀ x, P x → x < k ∨ m ≤ x) (hk : Keeps P w W) : RowC W k A n c vs ∧ Elts W k vs l :=
  ⟨hr.keepB fun g hg => hk.block g (hr.blk_ge g hg).2 fun e => by
    have h1 := (hr.blk_ge g hg).1
    have h2 := hA g hg
    rcases hP g e with h | h <;> omega, he.keepB hin fun g hg => hk.block g (Nat.lt_of_lt_of_le hg.2 hm) fun e => by rcases hP g e with h | h <;> omega⟩
theorem NewL.below (h : NewL w P Q k m A n c vs l) (hb : Below w.heap.size w w') : NewL w' P Q k m A n c vs l := ⟨h.row.below hb, h.els.below hb, h.ap, h.inA, h.inE, h.offP, h.offQ, Nat.le_trans h.mle hb.size⟩
theorem NewL.chgsP (h : NewL w P Q k m A n c vs l) : ∀ W, Keeps P w W → Chgs W A n (vget vs) l := fun W hk => by
  obtain ⟨h1, h2⟩ := chgs_far h.row h.els h.inA h.inE h.mle h.offP hk
  exact h2.chgs h1
theorem NewL.chgsQ (h : NewL w P Q k m A n c vs l) : ∀ W, Keeps Q w W → Chgs W A n (vget vs) l := fun W hk => by
  obtain ⟨h1, h2⟩ := chgs_far h.row h.els h.inA h.inE h.mle h.offQ hk
  exact h2.chgs h1
theorem NewL.addP {P' : Nat → Prop} (h : NewL w P Q k m A n c vs l) (hk : Keeps P w w') (hq : ∀ x, P' x → P x ∨ w.heap.size ≤ x) : NewL w' P' Q k m A n c vs l := by
  obtain ⟨h1, h2⟩ := chgs_far h.row h.els h.inA h.inE h.mle h.offP hk
  exact ⟨h1, h2, h.ap, h.inA, h.inE, fun x hx => by
    rcases hq x hx with h3 | h3
    · exact h.offP x h3
    · exact .inr (Nat.le_trans h.mle h3), h.offQ, Nat.le_trans h.mle hk.size⟩
theorem NewL.addQ {Q' : Nat → Prop} (h : NewL w P Q k m A n c vs l) (hk : Keeps Q w w') (hq : ∀ x, Q' x → Q x ∨ w.heap.size ≤ x) : NewL w' P Q' k m A n c vs l := by
  obtain ⟨h1, h2⟩ := chgs_far h.row h.els h.inA h.inE h.mle h.offQ hk
  exact ⟨h1, h2, h.ap, h.inA, h.inE, h.offP, fun x hx => by
    rcases hq x hx with h3 | h3
    · exact h.offQ x h3
    · exact .inr (Nat.le_trans h.mle h3), Nat.le_trans h.mle hk.size⟩
theorem StepSt.addA {gs' : List Grp} {now' : Nat} (h : StepSt w0 w P Q t r ga na gb nb q u) (k : AddR w P t gs' now' l before e w') :
    e = .returned (.bool true) ∧ ∃ P', StepSt w0 w' P' Q t r (addG gs' now' l before) gs'.length gb nb q u ∧ Keeps P w w' ∧ ∀ x, P' x → P x ∨ w.heap.size ≤ x := by
  obtain ⟨he, P', h1, h2, h3⟩ := h.two.addA k
  exact ⟨he, P', ⟨h1, h.stay h2 h.offP, fun hx => by
    have hl := h.box.lt
    rcases h3 q hx with h4 | h4
    · exact h.offP h4
    · omega, h.offQ⟩, h2, h3⟩
theorem StepSt.addB {gs' : List Grp} {now' : Nat} (h : StepSt w0 w P Q t r ga na gb nb q u) (k : RAddR w Q r gs' now' l before e w') :
    e = .returned (.bool true) ∧ ∃ Q', StepSt w0 w' P Q' t r ga na (addG gs' now' l before) gs'.length q u ∧ Keeps Q w w' ∧ ∀ x, Q' x → Q x ∨ w.heap.size ≤ x := by
  obtain ⟨he, Q', h1, h2, h3⟩ := h.two.addB k
  exact ⟨he, Q', ⟨h1, h.stay h2 h.offQ, h.offP, fun hx => by
    have hl := h.box.lt
    rcases h3 q hx with h4 | h4
    · exact h.offQ h4
    · omega⟩, h2, h3⟩
/-- The changes are written over. -/
theorem NewL.spoil (h : NewL w P Q k m A n c vs l) : Calls Try.prog 54 #[.slice A n c] w fun e w' => e = .returned (.tuple #[]) ∧ Keeps (fun g => k ≤ g ∧ g < m) w w' :=
  spoil28_any _ A n c vs l w (h.row.mono (Nat.zero_le _)) (h.els.mono (Nat.zero_le _)) h.ap (fun g hg => ⟨(h.row.blk_ge g hg).1, h.inA g hg⟩) h.inE
theorem StepSt.spoiled (h : StepSt w0 w P Q t r ga na gb nb q u) (hn : NewL w P Q k m A n c vs l) (h0 : w0.heap.size ≤ k) (hk : Keeps (fun g => k ≤ g ∧ g < m) w w') : Two w0 w' P Q t r ga na gb nb :=
  h.two.keeps hk (fun x hx he => by rcases hn.offP x hx with h1 | h1 <;> omega) (fun x hx he => by rcases hn.offQ x hx with h1 | h1 <;> omega) fun x hx => Nat.le_trans h0 hx.1
end

set_option maxRecDepth 100000 in
set_option maxHeartbeats 8000000 in
theorem step_add (w0 w : World) (P Q : Nat → Prop) (t r : Nat) (gs : List Grp) (now : Nat) (u : DV) (h : Two w0 w P Q t r gs now gs now) (hs : gs.length ≤ 100) (hd : DOk w0 u) (z3 : (bits .and .i64 u.how 7 == 3) = false) (z4 : (bits .and .i64 u.how 7 == 4) = false) (z5 : (bits .and .i64 u.how 7 == 5) = false) (z6 : (bits .and .i64 u.how 7 == 6) = false) :
    Calls Try.prog 29 #[.pointer (some ⟨t, 0, none⟩), .pointer (some ⟨r, 0, none⟩), .agg #[.int .i64 u.how, .int .i64 u.at_, .slice u.L u.n u.c]] w (StepR w0 r (gs.length + 1)) := by
  obtain ⟨q, hq⟩ : ∃ q, w.heap.size = q := ⟨_, rfl⟩
  have HST := hide (StepSt.start h u hq)
  obtain ⟨⟨c0, c1, c2⟩, -⟩ := HST.out.box.c3
  have HD := hide hd
  have HLEN := hide hd.rd.len
  have hle := hd.le
  have hcp := hd.cap
  have HAW := hide hd.aw
  clear h hd
  go_enter Try.func29, Try.ntmps29
  go_wp2_with fail
  generalize w.alloc (.cells #[.int .i64 u.how, .int .i64 u.at_, .slice u.L u.n u.c] 54) = W1 at HST c0 c1 c2 ⊢
  clear hq c0 c1 c2
  go_loopw [16, 17] (fun v i wr => ∃ (k : Nat) (A' : Option Addr) (c' : Nat) (vs : List CV), k ≤ u.n ∧ k ≤ 5 ∧ i = .int .i64 (k : Int) ∧ v = .slice A' k c' ∧ Hid (RowC wr W1.heap.size A' k c' vs) ∧ Hid (Elts wr W1.heap.size vs (u.l.take k)) ∧ Hid (Ap vs) ∧ Hid (Below W1.heap.size W1 wr))
    (fun _ i _ => u.n - (intOf i).toNat)
  case atStart => exact ⟨0, none, 0, [], Nat.zero_le _, Nat.zero_le _, rfl, rfl, RowC.nil _ _, Elts.nil _ _, Ap.nil, Below.refl _ _⟩
  case round =>
    obtain ⟨k, A', c', vs, hk, hk5, rfl, rfl, HR, HE, HAp, HB⟩ := hrel
    have HSW := hide (HST.out.next HB.out)
    obtain ⟨⟨c0, c1, c2⟩, -⟩ := HSW.out.box.c3
    by_cases hlt : k < u.n ∧ k < 5
    · obtain ⟨hlt, hlt5⟩ := hlt
      have HBD := hide (HST.out.two.below.trans (HB.out.mono HST.out.two.below.size))
      obtain ⟨ab, ao, haL, h1, h2, h3⟩ := (HD.out.rd.below HBD.out).at_ k hlt
      obtain ⟨x, hx1, hx⟩ := (HD.out.rd.below HBD.out).rd k hlt
      have HX := hide hx1
      have hok := hx.ok
      have HC := hide (fun W (hb : Below wr.heap.size wr W) => copied_any (u.us k).at_ (u.us k).C (u.us k).P (u.us k).n (u.us k).c (u.us k).m (u.us k).d x.cut x.put W (hx.cut.below hb) (hx.put.below hb) (by have := hok.2.1; have := hx.cut.len; omega) (by have := hok.2.2; have := hx.put.len; omega))
      have HOK := hide hok
      have HAT := hide hx.at_
      have i0 : (0 : Int) ≤ (k : Int) := by omega
      have i1 : (k : Int) < (u.n : Int) := by omega
      have i5 : (k : Int) < 5 := by omega
      rw [haL] at c2
      clear hx hx1 hok haL
      go_wp2_with fail
      refine (HC.out _ (Below.refl _ _)).mono ?_
      rintro e w1 ⟨C1, n1, f1, P1, m1, d1, rfl, ho1, ho2, hap, hb1⟩
      have hs1 := hb1.size
      have hs0 := HB.out.size
      have HB1 := hide hb1
      have HAp2 := hide (HAp.out.snoc (v := ⟨(u.us k).at_, C1, n1, f1, P1, m1, d1⟩) HE.out (fun g hg => (ho1.blk_ge g hg).1) (fun g hg => (ho2.blk_ge g hg).1))
      have HO := hide (show EltO w1 W1.heap.size ⟨(u.us k).at_, C1, n1, f1, P1, m1, d1⟩ x from ⟨HAT.out, ho1.mono hs0, ho2.mono hs0, hap, HOK.out⟩)
      clear ho1 ho2 hap hb1 c0 c1 c2 h1 h2 h3
      go_wp2_with (at_builtin
                   refine wpList_appC rfl (.tmp 119) (.tmp 126) rfl W1.heap.size rfl ((HR.out.below HB1.out).alloc _) (v := ⟨(u.us k).at_, C1, n1, f1, P1, m1, d1⟩) rfl (Box.new _ _ _) (by omega) (by simp; omega) ?_
                   intro g2 c2 w2 hrow2 hg2 hb2 _)
      have hrow1 := (HR.out.below HB1.out).alloc (.cells #[.int .i64 (u.us k).at_, .slice C1 n1 f1, .slice P1 m1 d1] 31)
      have HE2 := hide (((HE.out.below HB1.out).alloc _).row hrow1 hg2 |>.app (Elts.one ((HO.out.alloc _).row hrow1 hg2)))
      have HR2 := hide hrow2
      have HB2 := hide (((HB.out.trans (HB1.out.mono hs0)).alloc (by omega) _).trans hb2)
      clear hrow1 hrow2 hg2 hb2
      go_roundw
      case rel => exact ⟨k + 1, _, c2, _, by omega, by omega, by go_num, rfl, HR2.out, by
        rw [List.take_add_one, HX.out]; exact HE2.out, HAp2.out, HB2.out⟩
      case measure => simp [intOf]; omega
    · have hm : (¬ k < u.n) ∨ (k < u.n ∧ ¬ k < 5) := by omega
      have HLL := hide (show (u.l.take k).length = k by rw [List.length_take, HLEN.out]; omega)
      have HN := hide (show NewL wr P Q W1.heap.size wr.heap.size A' k c' vs (u.l.take k) from ⟨HR.out, HE.out, HAp.out, fun g hg => (HR.out.blk_ge g hg).2, elts_in HE.out, fun x hx => .inl (HST.out.two.a.lt x hx), fun x hx => .inl (HST.out.two.b.lt x hx), Nat.le_refl _⟩)
      have HW0 := hide HST.out.two.below.size
      clear HR HE HAp HST HB HD hlt
      rcases Nat.eq_zero_or_pos k with rfl | hpos
      · have hm0 : ¬ 0 < u.n := by omega
        have d1 : decide ((0 : Int) < (u.n : Int)) = false := by simp; omega
        clear hm
        go_wp2_with fail
        go_region_held3 (fun w' => w'.cell? ⟨q, 1, none⟩ = some (.int .i64 u.at_))
          (first | go_keep)
          (first
           | (go_at_call 18; (with_reducible refine (add_empty _ t _ _ _).mono ?_); rintro e w5 ⟨rfl, rfl⟩)
           | (go_at_call 57; (with_reducible refine (radd_empty _ r _ _ _).mono ?_); rintro e w5 ⟨rfl, rfl⟩))
        all_goals
          have HS6 := hide (HSW.out.next (Below.refl _ _).drew)
          have HN6 := hide (HN.out.below (Below.refl _ _).drew)
          generalize wr.drew = w6 at HS6 HN6 ⊢
          clear HSW HN c0 c1 c2
          go_wp2_with fail
          refine HN6.out.spoil.mono ?_
          rintro e w7 ⟨rfl, hk7⟩
          have HT7 := hide (HS6.out.spoiled HN6.out HW0.out hk7)
          clear hk7 HS6 HN6
          go_wp2_with fail
          go_ret2
          exact ⟨t, P, Q, gs, now, rfl, HT7.out, by omega⟩
      · obtain ⟨x0, hx0⟩ : ∃ x, gs[now]? = some x := ⟨_, List.getElem?_eq_getElem HSW.out.two.a.wf.nw⟩
        have HXL := hide (addG_len (l := u.l.take k) (before := u.at_) hx0)
        have HA1 := hide (fun W (hb : Below wr.heap.size wr W) => add_any W P t gs gs now now A' k c' (vget vs) _ u.at_ (HSW.out.next hb).two.a (HN.out.below hb).chgsP hpos (by omega) HAW.out (.inl ⟨hs, rfl, rfl⟩))
        clear hx0
        rcases hm with hm | ⟨hm, hm5⟩
        · have d1 : decide ((k : Int) < (u.n : Int)) = false := by simp; omega
          go_wp2_with fail
          go_region_held3 (fun w' => w'.cell? ⟨q, 1, none⟩ = some (.int .i64 u.at_))
            (first | go_keep)
            (first
             | (go_at_call 18; (with_reducible refine (HA1.out _ (Below.refl _ _).drew).mono ?_); intro e w5 hm5; obtain ⟨rfl, P5, hS5, hk5, hq5⟩ := (HSW.out.next (Below.refl _ _).drew).addA hm5; have k1 := hS5.box.c3.1.2.1; have HS5 := hide hS5; have HN5 := hide ((HN.out.below (Below.refl _ _).drew).addP hk5 hq5); clear hm5 hS5 hk5 hq5)
             | (go_at_call 57; (with_reducible refine (radd_any _ Q r gs now A' k c' (vget vs) _ u.at_ HS5.out.two.b HN5.out.chgsQ hpos (by omega) HAW.out hs).mono ?_); intro e w6 hm6; obtain ⟨rfl, Q6, hS6, hk6, hq6⟩ := HS5.out.addB hm6; have k1 := hS6.box.c3.1.2.1; have HS6 := hide hS6; have HN6 := hide (HN5.out.addQ hk6 hq6); clear hm6 hS6 hk6 hq6))
          all_goals
            clear HSW HN HS5 HN5 HA1 c0 c1 c2
            go_wp2_with fail
            refine HN6.out.spoil.mono ?_
            rintro e w7 ⟨rfl, hk7⟩
            have HT7 := hide (HS6.out.spoiled HN6.out HW0.out hk7)
            clear hk7 HS6 HN6
            go_wp2_with fail
            go_ret2
            exact ⟨t, P5, Q6, _, _, rfl, HT7.out, by rw [HXL.out]; exact Nat.le_refl _⟩
        · have d1 : (k : Int) < (u.n : Int) := by omega
          have d2 : decide ((k : Int) < 5) = false := by simp; omega
          go_wp2_with fail
          go_region_held3 (fun w' => w'.cell? ⟨q, 1, none⟩ = some (.int .i64 u.at_))
            (first | go_keep)
            (first
             | (go_at_call 18; (with_reducible refine (HA1.out _ (Below.refl _ _).drew).mono ?_); intro e w5 hm5; obtain ⟨rfl, P5, hS5, hk5, hq5⟩ := (HSW.out.next (Below.refl _ _).drew).addA hm5; have k1 := hS5.box.c3.1.2.1; have HS5 := hide hS5; have HN5 := hide ((HN.out.below (Below.refl _ _).drew).addP hk5 hq5); clear hm5 hS5 hk5 hq5)
             | (go_at_call 57; (with_reducible refine (radd_any _ Q r gs now A' k c' (vget vs) _ u.at_ HS5.out.two.b HN5.out.chgsQ hpos (by omega) HAW.out hs).mono ?_); intro e w6 hm6; obtain ⟨rfl, Q6, hS6, hk6, hq6⟩ := HS5.out.addB hm6; have k1 := hS6.box.c3.1.2.1; have HS6 := hide hS6; have HN6 := hide (HN5.out.addQ hk6 hq6); clear hm6 hS6 hk6 hq6))
          all_goals
            clear HSW HN HS5 HN5 HA1 c0 c1 c2
            go_wp2_with fail
            refine HN6.out.spoil.mono ?_
            rintro e w7 ⟨rfl, hk7⟩
            have HT7 := hide (HS6.out.spoiled HN6.out HW0.out hk7)
            clear hk7 HS6 HN6
            go_wp2_with fail
            go_ret2
            exact ⟨t, P5, Q6, _, _, rfl, HT7.out, by rw [HXL.out]; exact Nat.le_refl _⟩
end Go.Proofs.Ytjhnenljmmeflaa
