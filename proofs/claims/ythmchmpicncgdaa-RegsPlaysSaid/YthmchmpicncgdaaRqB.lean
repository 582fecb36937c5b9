/- The reference's registers: ended, Set. -/
import Derived.Test.YthmchmpicncgdaaRqA
namespace Go.Proofs.Ythmchmpicncgdaa
open Go.RowKit Go.Maps Go.MapKept Go.ChangeMaps Go.Shelf
set_option linter.unusedVariables false
variable {P : Nat → Prop}

set_option maxHeartbeats 1000000 in
theorem qended_any (A : Option Addr) (n c : Nat) (s : List Int) (w : World) (h : Runes w A n s) (hn : n ≤ 1000000) :
    Calls Try.prog 30 #[.slice A n c] w (NewR w (endS s)) := by
  have hl := h.len
  have HJ := hide (fun (W : World) (C : Option Addr) (d : Nat) (h1 : Runes W A n s) (h2 : Runes W C 1 [10]) => join_any A C n c 1 d s [10] W h1 h2 (by omega))
  have HN := hide (newsK (w := w) rfl #[.int .i32 10] 21 [10] rfl (W32.one (by omega)))
  have HB := hide ((Below.refl w.heap.size w).alloc (Nat.le_refl _) (.cells #[.int .i32 10] 21))
  have HH := hide h
  by_cases h0 : 0 < n
  · obtain ⟨ab, ao, rfl, hc⟩ := h.at_ (n - 1) (by omega)
    have e1 : IntKind.i64.wrap ((n : Int) - 1) = ((n - 1 : Nat) : Int) := by rw [IntWalk.i64_in _ (by omega)]; omega
    obtain ⟨m, hm⟩ : ∃ m, n - 1 = m := ⟨_, rfl⟩
    rw [hm] at e1 hc
    have HM := hide hm
    have p1 : (m : Int) < (n : Int) := by omega
    have p2 : ((n : Int) == 0) = false := by simp; omega
    have HL := hide hl
    clear hm h hl
    by_cases h10 : nth s m = 10
    · have hE := hide (show endS s = s from by
        have := HL.out
        have := HM.out
        unfold endS
        rw [if_pos ⟨by omega, by rw [show s.length - 1 = m by omega]; exact h10⟩])
      have d10 : (nth s m != 10) = false := by simp [h10]
      clear h10
      go_enter Try.func30, Try.ntmps30
      go_wp2_with (at_builtin; refine wpList_app0 rfl (.const (.slice none 0 0)) (.tmp 18) rfl w.heap.size rfl rfl HH.out (by omega) (Nat.le_refl _) ?_; intro A2 c2 w2 hown2 hb2 _ _)
      go_ret
      exact ⟨A2, n, c2, rfl, by rw [hE.out]; exact hown2, hb2⟩
    · have hE := hide (show endS s = s ++ [10] from by
        have := HL.out
        have := HM.out
        unfold endS
        rw [if_neg (fun e => h10 (by rw [show s.length - 1 = m by omega] at e; exact e.2))])
      have d10 : (nth s m != 10) = true := by simp [h10]
      clear h10
      go_enter Try.func30, Try.ntmps30
      go_wp2_with fail
      refine (HJ.out _ _ _ (HH.out.below HB.out) HN.out).mono ?_
      rintro e w1 ⟨A1, n1, c1, rfl, ho1, hb1⟩
      have HO := hide ho1
      have HB1 := hide hb1
      clear ho1 hb1
      go_wp2_with fail
      go_ret
      exact ⟨A1, n1, c1, rfl, by rw [hE.out]; exact HO.out.mono (by simp), HB.out.trans (HB1.out.mono (by simp))⟩
  · obtain rfl : n = 0 := by omega
    have hE := hide (show endS s = s ++ [10] from by
      unfold endS
      rw [if_neg (by omega)])
    clear h hl
    go_enter Try.func30, Try.ntmps30
    go_wp2_with fail
    refine (HJ.out _ _ _ (HH.out.below HB.out) HN.out).mono ?_
    rintro e w1 ⟨A1, n1, c1, rfl, ho1, hb1⟩
    have HO := hide ho1
    have HB1 := hide hb1
    clear ho1 hb1
    go_wp2_with fail
    go_ret
    exact ⟨A1, n1, c1, rfl, by rw [hE.out]; exact HO.out.mono (by simp), HB.out.trans (HB1.out.mono (by simp))⟩

/-- What 'y := Reg{..}' leaves: a block with the copy in it. -/
def MadeY (W : World) (t : List Int) (q : Bool) (k : Nat) (v : Value) (W' : World) : Prop :=
  ∃ (y : Nat) (A : Option Addr) (c : Nat), v = .pointer (some ⟨y, 0, none⟩) ∧ Box W' y 29 #[.slice A k c, .bool q] ∧ Own W' W.heap.size A k c t ∧ Below W.heap.size W W' ∧ W.heap.size ≤ y
theorem made1 {W w5 : World} {B k c : Nat} {t : List Int} {q : Bool} {A : Option Addr} (hA : Own w5 B A k c t) (hb : Below W.heap.size W w5) (hB : W.heap.size ≤ B) :
    MadeY W t q k (.pointer (some ⟨w5.heap.size, 0, none⟩)) (w5.alloc (.cells #[.slice A k c, .bool q] 29)) :=
  ⟨_, A, c, rfl, Box.new _ _ _, (hA.alloc _).mono hB, hb.alloc hb.size _, hb.size⟩
theorem made2 {W w5 : World} {B k c g : Nat} {t : List Int} {q : Bool} {A : Option Addr} {cs : Array Value} (hA : Own w5 B A k c t) (hb : Below W.heap.size W w5) (hg : W.heap.size ≤ g) (hB : g + 1 ≤ B) (hx : Box w5 g 29 cs) (hcs : cs.size = 2) :
    MadeY W t q k (.pointer (some ⟨g, 0, none⟩)) ((w5.setCell ⟨g, 0, none⟩ (.slice A k c)).setCell ⟨g, 1, none⟩ (.bool q)) := by
  have e1 : blk A ≠ some g := fun e => by have := (hA.blk_ge _ e).1; omega
  have hbx := (hx.set 0 (.slice A k c)).set 1 (.bool q)
  have ecs : (cs.setIfInBounds 0 (.slice A k c)).setIfInBounds 1 (.bool q) = #[.slice A k c, .bool q] := by
    obtain ⟨l⟩ := cs
    match l, hcs with
    | [x, y], _ => rfl
  rw [ecs] at hbx
  exact ⟨_, A, c, rfl, hbx, ((hA.far (p := ⟨g, 0, none⟩) e1 _).far (p := ⟨g, 1, none⟩) e1 _).mono (by omega), (hb.setCell (p := ⟨g, 0, none⟩) hg _).setCell (p := ⟨g, 1, none⟩) hg _, hg⟩

theorem put_reg (cs : Array Value) {s : Nat} (h : cs.size = 81) (hs : s < 27) (v b : Value) : ((((cs.setIfInBounds (27 + s * 2) v).setIfInBounds (27 + s * 2 + 1) b).setIfInBounds 27 v).setIfInBounds 28 b).size = 81 ∧
    ∀ i, i < 81 → ((((cs.setIfInBounds (27 + s * 2) v).setIfInBounds (27 + s * 2 + 1) b).setIfInBounds 27 v).setIfInBounds 28 b)[i]? = if i = 27 ∨ i = 27 + s * 2 then some v else if i = 28 ∨ i = 27 + s * 2 + 1 then some b else cs[i]? := by
  refine ⟨by simp [h], fun i hi => ?_⟩
  simp only [Array.getElem?_setIfInBounds, Array.size_setIfInBounds, h]
  repeat' split
  all_goals first | rfl | omega | (exfalso; omega)
/-- What Set leaves where nothing is refused ahead. -/
def QSetR (P : Nat → Prop) (w : World) (g : Nat) (M : Int → Option Rg) (o : Int) (X : Rg) (e : Ending) (w' : World) : Prop :=
  (e = .returned (.int .i64 3) ∧ 1000 < X.1.length ∧ Below w.heap.size w w') ∨ (e = .returned (.int .i64 0) ∧ X.1.length ≤ 1000 ∧ w.grownBy w' (some g) ∧ QM P w' g (updR (updR M o X) 0 X))
theorem grown_drew1 {a w : World} {row : Option Nat} (h : a.grownBy w row) : a.grownBy w.drew row := ⟨h.os, h.tape, h.output, h.size, h.block⟩
theorem nm_zero : nm 0 = 0 := rfl
theorem qset_end {w wc W3 : World} {g s k5 c5 : Nat} {M : Int → Option Rg} {cs cs2 : Array Value} {A5 : Option Addr} {X : Rg} (hs : s < 27) (hq : QC P w M cs) (hcs : Box w g 32 cs)
    (hr : Runes wc A5 k5 X.1) (ho : OffA P A5 k5) (hl : X.1.length ≤ 1000) (hb : Below w.heap.size w wc) (hk : wc.grownBy W3 (some g))
    (hx : Box W3 g 32 ((cs2.setIfInBounds s (.bool true)).setIfInBounds 0 (.bool true))) (h2 : cs2.size = 81)
    (hp : ∀ i, i < 81 → cs2[i]? = if i = 27 ∨ i = 27 + s * 2 then some (.slice A5 k5 c5) else if i = 28 ∨ i = 27 + s * 2 + 1 then some (.bool X.2) else cs[i]?) :
    QSetR P w g M (nm s) X (.returned (.int .i64 0)) W3 := by
  have hcw := hcs.below hb
  have hkr : ∀ {A : Option Addr} {n : Nat} {t : List Int}, Runes wc A n t → Runes W3 A n t := fun h => h.keepQ hcw (hq.keep (w' := wc) fun h => h.below hb) hk
  have hcell : ∀ i, i < 81 → ((cs2.setIfInBounds s (.bool true)).setIfInBounds 0 (.bool true))[i]? = if i = 0 ∨ i = s then some (.bool true) else if i = 27 ∨ i = 27 + s * 2 then some (.slice A5 k5 c5) else if i = 28 ∨ i = 27 + s * 2 + 1 then some (.bool X.2) else cs[i]? := fun i hi => by
    rw [← hp i hi]
    simp only [Array.getElem?_setIfInBounds, Array.size_setIfInBounds, h2]
    repeat' split
    all_goals first | rfl | omega | (exfalso; omega)
  have hM : ∀ k, k < 27 → updR (updR M (nm s) X) 0 X (nm k) = if k = 0 ∨ k = s then some X else M (nm k) := fun k hk => by
    unfold updR
    by_cases h0 : k = 0
    · rw [if_pos (by rw [h0]; rfl), if_pos (.inl h0)]
    · rw [if_neg (fun e => h0 (nm_inj (e.trans nm_zero.symm)))]
      by_cases h1 : k = s
      · rw [if_pos (by rw [h1]), if_pos (.inr h1)]
      · rw [if_neg (fun e => h1 (nm_inj e)), if_neg (by omega)]
  refine .inr ⟨rfl, hl, (grown_of_below hb).trans hk, _, hx, ?_, fun k hk => ?_, fun k hk => ?_, fun x hx => ?_⟩
  · simp [h2]
  · rw [hcell k (by omega), hM k hk]
    by_cases h : k = 0 ∨ k = s
    · rw [if_pos h, if_pos h]; rfl
    · rw [if_neg h, if_neg h, if_neg (by omega), if_neg (by omega)]
      exact hq.has k hk
  · by_cases h : k = 0 ∨ k = s
    · refine ⟨A5, k5, c5, X.2, X.1, ?_, ?_, hkr hr, hl, fun x hx => ?_, ho⟩
      · rw [hcell _ (by omega), if_neg (by omega), if_pos (by omega)]
      · rw [hcell _ (by omega), if_neg (by omega), if_neg (by omega), if_pos (by omega)]
      · rw [hM k hk, if_pos h] at hx
        injection hx with hx
        exact hx.symm
    · obtain ⟨A, n, c, q, t, e1, e2, hr2, hl2, hx2, ho2⟩ := hq.reg k hk
      refine ⟨A, n, c, q, t, ?_, ?_, hkr (hr2.below hb), hl2, fun x hx => ?_, ho2⟩
      · rw [hcell _ (by omega), if_neg (by omega), if_neg (by omega), if_neg (by omega)]; exact e1
      · rw [hcell _ (by omega), if_neg (by omega), if_neg (by omega), if_neg (by omega)]; exact e2
      · rw [hM k hk, if_neg h] at hx
        exact hx2 x hx
  · unfold updR at hx
    by_cases h0 : x = 0
    · exact ⟨0, by omega, h0⟩
    · rw [if_neg h0] at hx
      by_cases h1 : x = nm s
      · exact ⟨s, hs, h1⟩
      · rw [if_neg h1] at hx
        exact hq.dom x hx
set_option maxRecDepth 100000 in
set_option maxHeartbeats 4000000 in
theorem qset_ok (g : Nat) (M : Int → Option Rg) (r : Int) (A : Option Addr) (k c : Nat) (q : Bool) (t : List Int) (w : World) (hok : okN r) (hmay : mayS t = true) (hk : k ≤ 1000) (hm : QM P w g M) (hA : Runes w A k t) (hP : ∀ g, w.heap.size ≤ g → P g) :
    Calls Try.prog 9 #[.pointer (some ⟨g, 0, none⟩), .int .i32 r, .agg #[.slice A k c, .bool q]] w (QSetR P w g M (ownN r) (setX M r (t, q))) := by
  have HPP := hide hP
  clear hP
  have hX : setX M r (t, q) = if capN r then (match M (ownN r) with | some y => (joinT y.1 y.2 t q, y.2 || q) | none => (t, q)) else (t, q) := rfl
  generalize setX M r (t, q) = X at hX ⊢
  obtain ⟨hs1, hs2⟩ := nm_slot hok
  have S1 := hide (fun W => slot_ok r W hok)
  generalize slotN r = s at hs1 hs2 S1
  rw [← hs2] at hX ⊢
  generalize capN r = cp at S1 hX
  have hB1 := (Below.refl w.heap.size w).alloc (Nat.le_refl _) (.cells #[.slice A k c, .bool q] 29)
  have HX1 := hide (Box.new w 29 #[.slice A k c, .bool q])
  have MY := hide (fun W (hb : Below w.heap.size w W) => refMay_any A k c t W (hA.below hb) (by omega))
  rw [hmay] at MY
  have HB1 := hide hB1
  have HM := hide hm
  have HA := hide hA
  have HXX := hide hX
  have HL := hide hA.len
  have hdk : decide ((1000 : Int) < (k : Int)) = false := by simp; omega
  clear hok hs2 hmay hm hA hX hB1
  generalize hWW : w.alloc (.cells #[.slice A k c, .bool q] 29) = W1 at HB1 HX1
  obtain ⟨⟨x0, x1⟩, -⟩ := HX1.out.c2
  go_enter Try.func9, Try.ntmps9
  go_upto_region 8 with (first
    | (go_at_call 28; refine (S1.out _).mono ?_; rintro e w1 ⟨rfl, rfl⟩)
    | (go_at_call 29; refine (MY.out _ HB1.out).mono ?_; rintro e w1 ⟨rfl, rfl⟩))
  clear S1 MY hWW
  obtain ⟨xb, hxb⟩ : ∃ xb, w.heap.size = xb := ⟨_, rfl⟩
  have HXB := hide hxb
  have HA1 := hide (HA.out.below HB1.out)
  rw [hxb] at HX1 x0 x1 ⊢
  clear hxb
  have HBX := hide ((Box.new W1 29 #[.slice none 0 0, .bool false]).drew)
  have n1 : xb ≠ W1.heap.size := by have := HX1.out.lt; omega
  have n2 : W1.heap.size ≠ xb := fun e => n1 e.symm
  go_cut [9] (fun s9 wx => MadeY W1 t q k s9 wx)
  case first =>
    go_region_held3 (fun w' => w'.cell? ⟨xb, 0, none⟩ = some (.slice A k c) ∧ w'.cell? ⟨xb, 1, none⟩ = some (.bool q))
      (first | go_keep)
      (first
       | (refine step_app0 (by rfl) (.const (.slice none 0 0)) (.tmp 30) (by rfl) W1.heap.size (by rfl) (by rfl) HA1.out.drew (by omega) (by simp) ?_; intro A1 c1 w5 hown1 hb1 hat1 hsome1
          have hbw := ((Below.refl W1.heap.size W1).drew).trans hb1
          obtain ⟨⟨y0, y1⟩, -⟩ := (HX1.out.below hbw).c2)
       | (refine step_app0 (by rfl) (.const (.slice none 0 0)) (.tmp 30) (by rfl) (W1.heap.size + 1) (by rfl) (by rfl) (HA1.out.alloc _).drew (by omega) (by simp) ?_; intro A1 c1 w5 hown1 hb1 hat1 hsome1
          have hbw := (((Below.refl W1.heap.size W1).alloc (Nat.le_refl _) (.cells #[.slice none 0 0, .bool false] 29)).drew).trans (hb1.mono (by simp))
          obtain ⟨⟨y0, y1⟩, -⟩ := (HX1.out.below hbw).c2
          obtain ⟨⟨f0, f1⟩, f2, f3⟩ := (HBX.out.below hb1).c2))
    all_goals (go_wp2_with fail; go_meet)
    all_goals first | exact made1 hown1 hbw (Nat.le_refl _) | exact made2 hown1 hbw (Nat.le_refl _) (Nat.le_refl _) (HBX.out.below hb1) rfl
  case rest =>
    obtain ⟨yb, A9, c9, rfl, hy9, ho9, hb9, hy9b⟩ := hcut
    have HY9 := hide hy9
    have HO9 := hide ho9.runes
    have HOF9 := hide (show OffA P A9 k from fun _ g hg => HPP.out g (Nat.le_trans HB1.out.size (ho9.blk_ge g hg).1))
    have HB9 := hide (HB1.out.trans (hb9.mono HB1.out.size))
    have HX9 := hide (HX1.out.below hb9)
    have hyx : xb < yb := by have := HX1.out.lt; omega
    have hyl := hy9.lt
    have hwx : w.heap.size ≤ xb := by have := HXB.out; omega
    clear hy9 ho9 hb9 hy9b n1 n2 HBX HX1 HA1 x0 x1
    obtain ⟨cs, hcs, hq⟩ := HM.out.ex
    have hgl := hcs.lt
    have HCS := hide hcs
    have HQ := hide hq
    have hch := ((hcs.below HB9.out).cell s).trans (hq.has s hs1)
    obtain ⟨A0, n0, c0, q0, t0, e1, e2, hr0, hle0, hx0, -⟩ := hq.reg s hs1
    have hc1 := ((hcs.below HB9.out).cell _).trans e1
    have hc2 := ((hcs.below HB9.out).cell _).trans e2
    have HR0 := hide (And.intro hr0 (And.intro hle0 hx0))
    clear hcs hq e1 e2 hr0 hle0 hx0
    generalize hhas : (M (nm s)).isSome = has at hch
    have HHAS := hide hhas
    clear hhas
    go_upto_region 10 with fail
    have hbo := (Below.refl wc.heap.size wc).alloc (Nat.le_refl _) (.cells #[.slice A0 n0 c0, .bool q0] 29)
    have HOo := hide (Box.new wc 29 #[.slice A0 n0 c0, .bool q0])
    have HYo := hide (HY9.out.below hbo)
    have HXo := hide (HX9.out.below hbo)
    have HAo := hide (HO9.out.below hbo)
    have HBo := hide (HB9.out.trans (hbo.mono HB9.out.size))
    have hch2 : (wc.alloc (.cells #[.slice A0 n0 c0, .bool q0] 29)).cell? ⟨g, s, none⟩ = some (.bool has) := ((HCS.out.below HBo.out).cell s).trans ((HCS.out.below HB9.out).cell s ▸ hch)
    clear hbo hch hc1 hc2 HY9 HX9 HO9
    generalize wc.alloc (.cells #[.slice A0 n0 c0, .bool q0] 29) = Wo at HOo HYo HXo HAo HBo hch2 ⊢
    generalize wc.heap.size = ob at HOo hyl ⊢
    go_cut [49] (fun s49 wx => s49 = .bool (cp && has) ∧ wx = Wo)
    case first =>
      cases cp <;> cases has
      all_goals
        go_wp2_with fail
        go_meet
        exact ⟨rfl, rfl⟩
    case rest =>
      obtain ⟨rfl, rfl⟩ := hcut
      have HTK : Hid ((cp && has) = true → ∃ y : Rg, y = (t0, q0) ∧ X = (joinT t0 q0 t q, q0 || q)) := hide (fun h => by
        have h1 : cp = true ∧ has = true := by simpa using h
        have h2 := HHAS.out
        rw [h1.2] at h2
        cases hM : M (nm s) with
        | none => rw [hM] at h2; cases h2
        | some y =>
          have h3 := HXX.out
          have h4 := HR0.out.2.2 y hM
          rw [if_pos h1.1, hM, h4] at h3
          exact ⟨y, h4, h3⟩)
      have HTN : Hid ((cp && has) = false → X = (t, q)) := hide (fun h => by
        have h3 := HXX.out
        by_cases h1 : cp = true
        · have h5 : has = false := by rw [h1] at h; simpa using h
          have h2 := HHAS.out
          rw [h5] at h2
          cases hM : M (nm s) with
          | none => rw [if_pos h1, hM] at h3; exact h3
          | some y => rw [hM] at h2; cases h2
        · rw [if_neg h1] at h3; exact h3)
      generalize (cp && has) = tk at HTK HTN ⊢
      clear hch2 HHAS HXX
      go_upto_if 49 with fail
      go_cut [] (fun wx => ∃ A5 k5 c5, Box wx yb 29 #[.slice A5 k5 c5, .bool X.2] ∧ Runes wx A5 k5 X.1 ∧ OffA P A5 k5 ∧ X.1.length ≤ 1000 ∧ Below w.heap.size w wx)
      case first =>
        cases tk
        · have hX := HTN.out rfl
          subst hX
          go_wp2_with fail
          go_meet
          exact ⟨A9, k, c9, HYo.out, HAo.out, HOF9.out, by have := HL.out; omega, HBo.out⟩
        · obtain ⟨_, _, hX⟩ := HTK.out rfl
          have hk0 : n0 ≤ 1000 := by have := HR0.out.1.len; have := HR0.out.2.1; omega
          have HJ := hide (fun W (hb : Below w.heap.size w W) => join_any A0 A n0 c0 k c t0 t W (HR0.out.1.below hb) (HA.out.below hb) (by omega))
          have EA := hide (fun W (hb : Below w.heap.size w W) => qended_any A0 n0 c0 t0 W (HR0.out.1.below hb) (by omega))
          have EC := hide (fun W (hb : Below w.heap.size w W) => qended_any A k c t W (HA.out.below hb) (by omega))
          have hB11 : Below w.heap.size w (wc.setCell ⟨yb, 1, none⟩ (.bool (q0 || q))) := HBo.out.setCell (p := ⟨yb, 1, none⟩) (by show w.heap.size ≤ yb; omega) _
          have HY11 := hide (show Box (wc.setCell ⟨yb, 1, none⟩ (.bool (q0 || q))) yb 29 #[.slice A9 k c9, .bool (q0 || q)] from HYo.out.set 1 _)
          have HX11 := hide (HXo.out.far (p := ⟨yb, 1, none⟩) (by show xb ≠ yb; omega) (.bool (q0 || q)))
          have HO11 := hide (HOo.out.far (p := ⟨yb, 1, none⟩) (by show ob ≠ yb; omega) (.bool (q0 || q)))
          have HB11 := hide hB11
          have HX := hide hX
          clear hX hB11
          obtain ⟨⟨y0, y1⟩, y2, y3⟩ := HYo.out.c2
          obtain ⟨⟨x0, x1⟩, -⟩ := HXo.out.c2
          obtain ⟨⟨o0, o1⟩, -⟩ := HOo.out.c2
          by_cases hqq : (q0 || q) = true
          · have hq : q0 = true ∨ (q0 = false ∧ q = true) := by cases q0 <;> cases q <;> simp at hqq ⊢
            have hJ : joinT t0 q0 t q = endS t0 ++ endS t := by unfold joinT; rw [if_pos hqq]
            have HJT := hide hJ
            clear hJ
            rw [hqq] at HY11 HX11 HO11 HB11 HX
            clear hqq
            rcases hq with rfl | ⟨rfl, rfl⟩
            all_goals
              go_wp2_with fail
              generalize wc.setCell ⟨yb, 1, none⟩ (.bool true) = W11 at HY11 HX11 HO11 HB11 ⊢
              clear y0 y1 y2 y3 x0 x1 o0 o1
              refine (HJ.out W11 HB11.out).mono ?_
              rintro e w12 ⟨A12, n12, c12, rfl, ho12, hb12⟩
              have HB12 := hide (HB11.out.trans (hb12.mono HB11.out.size))
              have HY12 := hide (HY11.out.below hb12)
              have HX12 := hide (HX11.out.below hb12)
              have HO12 := hide (HO11.out.below hb12)
              clear ho12 hb12 HY11 HX11 HO11 HB11
              obtain ⟨⟨y0, y1⟩, y2, y3⟩ := HY12.out.c2
              have hB13 : Below w.heap.size w (w12.setCell ⟨yb, 0, none⟩ (.slice A12 n12 c12)) := HB12.out.setCell (p := ⟨yb, 0, none⟩) (by show w.heap.size ≤ yb; omega) _
              have HY13 := hide (show Box (w12.setCell ⟨yb, 0, none⟩ (.slice A12 n12 c12)) yb 29 #[.slice A12 n12 c12, .bool true] from HY12.out.set 0 _)
              have HX13 := hide (HX12.out.far (p := ⟨yb, 0, none⟩) (by show xb ≠ yb; omega) (.slice A12 n12 c12))
              have HO13 := hide (HO12.out.far (p := ⟨yb, 0, none⟩) (by show ob ≠ yb; omega) (.slice A12 n12 c12))
              have HB13 := hide hB13
              clear hB13
              go_upto_region 14 with fail
              generalize w12.setCell ⟨yb, 0, none⟩ (.slice A12 n12 c12) = W13 at HY13 HX13 HO13 HB13 ⊢
              clear y0 y1 y2 y3 HY12 HX12 HO12 HB12
              have ny1 : yb ≠ ob := by omega
              have ny2 : ob ≠ yb := by omega
              have ny3 : yb ≠ xb := by omega
              have ny4 : xb ≠ yb := by omega
              obtain ⟨⟨x0, x1⟩, -⟩ := HX13.out.c2
              obtain ⟨⟨o0, o1⟩, -⟩ := HO13.out.c2
              go_region_held3 (fun w' => w'.cell? ⟨ob, 0, none⟩ = some (.slice A0 n0 c0) ∧ w'.cell? ⟨xb, 0, none⟩ = some (.slice A k c))
                (first | go_keep)
                (first
                 | (go_at_call 30; (with_reducible refine (EA.out _ HB13.out.drew).mono ?_); rintro e w14 ⟨A14, n14, c14, rfl, ho14, hb14⟩
                    have HB14 := hide (HB13.out.drew.trans (hb14.mono (by have := HB13.out.size; simpa using this)))
                    have HX14 := hide (HX13.out.drew.below hb14)
                    have HO14 := hide (HO13.out.drew.below hb14)
                    have HY14 := hide (HY13.out.drew.below hb14)
                    have HR14 := hide ho14.runes
                    clear hb14 ho14 x0 x1 o0 o1
                    obtain ⟨⟨f0, f1⟩, _⟩ := HX14.out.c2
                    obtain ⟨⟨l0, l1⟩, _⟩ := HO14.out.c2)
                 | (go_at_call 30; (with_reducible refine (EC.out _ HB14.out).mono ?_); rintro e w15 ⟨A15, n15, c15, rfl, ho15, hb15⟩
                    have HB15 := hide (HB14.out.trans (hb15.mono HB14.out.size))
                    have HX15 := hide (HX14.out.below hb15)
                    have HO15 := hide (HO14.out.below hb15)
                    have HY15 := hide (HY14.out.below hb15)
                    have HR15 := hide (And.intro (HR14.out.below hb15) ho15.runes)
                    have hn14 : n14 ≤ 1001 := by have h1 := HR14.out.len; have h2 := endS_len t0; have h3 := HR0.out.2.1; omega
                    have hn15 : n15 ≤ 1001 := by have h1 := ho15.len; have h2 := endS_len t; have h3 := HL.out; omega
                    clear hb15 ho15 f0 f1 l0 l1
                    obtain ⟨⟨m0, m1⟩, _⟩ := HX15.out.c2
                    obtain ⟨⟨k0, k1⟩, _⟩ := HO15.out.c2)
                 | (go_at_call 19; (with_reducible refine (join_any _ _ _ _ _ _ _ _ _ HR15.out.1 HR15.out.2 (by omega)).mono ?_); rintro e w16 ⟨A16, n16, c16, rfl, ho16, hb16⟩
                    have HY16 := hide (HY15.out.below hb16)
                    have HB16 := hide (HB15.out.trans (hb16.mono HB15.out.size))
                    have HYL := hide HY15.out.lt
                    have HO16 := hide ho16
                    obtain ⟨⟨z0, z1⟩, z2, z3⟩ := HY16.out.c2
                    obtain ⟨⟨g0, g1⟩, _⟩ := (HX15.out.below hb16).c2
                    obtain ⟨⟨j0, j1⟩, _⟩ := (HO15.out.below hb16).c2
                    clear hb16 ho16))
              have hX : X = (endS t0 ++ endS t, true) := by rw [HX.out, HJT.out]
              have hl16 : (endS t0 ++ endS t).length = n16 := HO16.out.len
              have HE := hide (show w.heap.size ≤ yb by omega)
              have hne : blk A16 ≠ some yb := fun e => by have h1 := (HO16.out.blk_ge _ e).1; have h2 := HYL.out; omega
              have HF := hide (And.intro (show Box (w16.setCell ⟨yb, 0, none⟩ (.slice A16 n16 c16)) yb 29 #[.slice A16 n16 c16, .bool true] from HY16.out.set 0 _)
                (And.intro (HO16.out.far (p := ⟨yb, 0, none⟩) hne (.slice A16 n16 c16)).runes (HB16.out.setCell (p := ⟨yb, 0, none⟩) HE.out (.slice A16 n16 c16))))
              clear hne HX HJT
              subst hX
              by_cases hfull : 1000 < n16
              · have hd : decide ((1000 : Int) < (n16 : Int)) = true := by simp; omega
                go_wp2_with fail
                go_ret
                exact .inl ⟨rfl, by rw [hl16]; exact hfull, HF.out.2.2⟩
              · have hd : decide ((1000 : Int) < (n16 : Int)) = false := by simp; omega
                go_wp2_with fail
                go_meet
                exact ⟨A16, n16, c16, HF.out.1, HF.out.2.1, fun _ g hg => HPP.out g (Nat.le_trans HB15.out.size (HO16.out.blk_ge g hg).1), by show (endS t0 ++ endS t).length ≤ 1000; omega, HF.out.2.2⟩
          · have hq : q0 = false ∧ q = false := by cases q0 <;> cases q <;> simp at hqq ⊢
            have hJ : joinT t0 q0 t q = t0 ++ t := by unfold joinT; rw [if_neg hqq]
            have HJT := hide hJ
            clear hJ
            have hqf : (q0 || q) = false := by simpa using hqq
            rw [hqf] at HY11 HX11 HO11 HB11 HX
            clear hqq hqf
            obtain ⟨rfl, rfl⟩ := hq
            go_wp2_with fail
            generalize wc.setCell ⟨yb, 1, none⟩ (.bool false) = W11 at HY11 HX11 HO11 HB11 ⊢
            clear y0 y1 y2 y3 x0 x1 o0 o1
            have HYL := hide HY11.out.lt
            refine (HJ.out W11 HB11.out).mono ?_
            rintro e w16 ⟨A16, n16, c16, rfl, ho16, hb16⟩
            have HBW := hide HB11.out
            have HB16 := hide (HB11.out.trans (hb16.mono HB11.out.size))
            have HY16 := hide (HY11.out.below hb16)
            have HO16 := hide ho16
            clear ho16 hb16 HY11 HX11 HO11 HB11
            obtain ⟨⟨y0, y1⟩, y2, y3⟩ := HY16.out.c2
            have hX : X = (t0 ++ t, false) := by rw [HX.out, HJT.out]
            have hl16 : (t0 ++ t).length = n16 := HO16.out.len
            have HE := hide (show w.heap.size ≤ yb by omega)
            have hne : blk A16 ≠ some yb := fun e => by have h1 := (HO16.out.blk_ge _ e).1; have h2 := HYL.out; omega
            have HF := hide (And.intro (show Box (w16.setCell ⟨yb, 0, none⟩ (.slice A16 n16 c16)) yb 29 #[.slice A16 n16 c16, .bool false] from HY16.out.set 0 _)
              (And.intro (HO16.out.far (p := ⟨yb, 0, none⟩) hne (.slice A16 n16 c16)).runes (HB16.out.setCell (p := ⟨yb, 0, none⟩) HE.out (.slice A16 n16 c16))))
            clear hne HX HJT
            subst hX
            by_cases hfull : 1000 < n16
            · have hd : decide ((1000 : Int) < (n16 : Int)) = true := by simp; omega
              go_wp2_with fail
              go_ret
              exact .inl ⟨rfl, by rw [hl16]; exact hfull, HF.out.2.2⟩
            · have hd : decide ((1000 : Int) < (n16 : Int)) = false := by simp; omega
              go_wp2_with fail
              go_meet
              exact ⟨A16, n16, c16, HF.out.1, HF.out.2.1, fun _ g hg => HPP.out g (Nat.le_trans HBW.out.size (HO16.out.blk_ge g hg).1), by show (t0 ++ t).length ≤ 1000; omega, HF.out.2.2⟩
      case rest =>
        obtain ⟨A5, k5, c5, hy5, hr5, ho5, hl5, hb5⟩ := hcut
        have HOF5 := hide ho5
        clear ho5
        have HR5 := hide (And.intro hr5 (And.intro hl5 hb5))
        have hcs5 := HCS.out.below hb5
        obtain ⟨⟨y0, y1⟩, -⟩ := hy5.c2
        obtain ⟨A1, n1, c1, q1, t1, e1, e2, -⟩ := HQ.out.reg s hs1
        obtain ⟨A2, n2, c2, q2, t2, e3, e4, -⟩ := HQ.out.reg 0 (by omega)
        have hd1 := (hcs5.cell _).trans e1
        have hd2 := (hcs5.cell _).trans e2
        have hd3 : wc.cell? ⟨g, 27, none⟩ = _ := (hcs5.cell _).trans e3
        have hd4 : wc.cell? ⟨g, 28, none⟩ = _ := (hcs5.cell _).trans e4
        have hf1 := hcs5.frozen (27 + s * 2)
        have hf2 := hcs5.frozen (27 + s * 2 + 1)
        have hf3 := hcs5.frozen 27
        have hf4 := hcs5.frozen 28
        have HC5 := hide hcs5
        have hsi : (s : Int) < 27 := by omega
        have hgy : g ≠ yb := by omega
        have hyg : yb ≠ g := by omega
        clear hr5 hl5 hb5 hcs5 hy5 e1 e2 e3 e4
        go_upto_region 17 with fail
        by_cases hs0 : s = 0
        · subst hs0
          clear hd1 hd2 hf1 hf2
          go_region
          have HG := hide (((((HC5.out.set 27 (.slice A5 k5 c5)).set 28 (.bool X.2)).set 27 (.slice A5 k5 c5)).set 28 (.bool X.2)).drew)
          have HK := hide (grown_drew1 (grown_set (grown_set (grown_set (grown_set (World.grownBy.refl wc (some g)) 27 (.slice A5 k5 c5)) 28 (.bool X.2)) 27 (.slice A5 k5 c5)) 28 (.bool X.2)))
          have hp12 := put_reg cs HQ.out.size hs1 (.slice A5 k5 c5) (.bool X.2)
          obtain ⟨cs2, hcs2⟩ : ∃ cs2, cs2 = (((cs.setIfInBounds 27 (.slice A5 k5 c5)).setIfInBounds (27 + 1) (.bool X.2)).setIfInBounds 27 (.slice A5 k5 c5)).setIfInBounds 28 (.bool X.2) := ⟨_, rfl⟩
          have HP : Hid (cs2.size = 81 ∧ ∀ i, i < 81 → cs2[i]? = if i = 27 ∨ i = 27 then some (.slice A5 k5 c5) else if i = 28 ∨ i = 27 + 1 then some (.bool X.2) else cs[i]?) := hide (by rw [hcs2]; exact hp12)
          rw [← hcs2] at HG
          have b1 : (World.drew _).cell? ⟨g, 0, none⟩ = some (.bool (M (nm 0)).isSome) := (HG.out.cell 0).trans ((HP.out.2 0 (by omega)).trans (by rw [if_neg (by omega), if_neg (by omega)]; exact HQ.out.has 0 hs1))
          have b2 : (World.drew _).cell? ⟨g, 0, none⟩ = some (.bool (M (nm 0)).isSome) := (HG.out.cell 0).trans ((HP.out.2 0 (by omega)).trans (by rw [if_neg (by omega), if_neg (by omega)]; exact HQ.out.has 0 (by omega)))
          have b3 := HG.out.frozen 0
          have b4 := HG.out.frozen 0
          clear hp12 hcs2 y0 y1
          clear b1 b3 hd3 hd4 hf3 hf4
          generalize (World.setCell _ _ _).drew = W2 at HG HK b2 b4 ⊢
          go_upto_region 18 with fail
          go_region
          have HE := hide (((HG.out.set 0 (.bool true)).set 0 (.bool true)).drew)
          have HK2 := hide (grown_drew1 (grown_set (grown_set HK.out 0 (.bool true)) 0 (.bool true)))
          clear b2 b4 HG HK
          generalize (World.setCell _ _ _).drew = W3 at HE HK2 ⊢
          go_wp2_with fail
          go_ret
          exact qset_end hs1 HQ.out HCS.out HR5.out.1 HOF5.out HR5.out.2.1 HR5.out.2.2 HK2.out HE.out HP.out.1 HP.out.2
        · have hs27 : 1 ≤ s := by omega
          have i0 : (0 : Int) ≤ (s : Int) := by omega
          go_region
          have HG := hide (((((HC5.out.set (27 + s * 2) (.slice A5 k5 c5)).set ((27 + s * 2) + 1) (.bool X.2)).set 27 (.slice A5 k5 c5)).set 28 (.bool X.2)).drew)
          have HK := hide (grown_drew1 (grown_set (grown_set (grown_set (grown_set (World.grownBy.refl wc (some g)) (27 + s * 2) (.slice A5 k5 c5)) ((27 + s * 2) + 1) (.bool X.2)) 27 (.slice A5 k5 c5)) 28 (.bool X.2)))
          have hp12 := put_reg cs HQ.out.size hs1 (.slice A5 k5 c5) (.bool X.2)
          obtain ⟨cs2, hcs2⟩ : ∃ cs2, cs2 = (((cs.setIfInBounds (27 + s * 2) (.slice A5 k5 c5)).setIfInBounds ((27 + s * 2) + 1) (.bool X.2)).setIfInBounds 27 (.slice A5 k5 c5)).setIfInBounds 28 (.bool X.2) := ⟨_, rfl⟩
          have HP : Hid (cs2.size = 81 ∧ ∀ i, i < 81 → cs2[i]? = if i = 27 ∨ i = (27 + s * 2) then some (.slice A5 k5 c5) else if i = 28 ∨ i = (27 + s * 2) + 1 then some (.bool X.2) else cs[i]?) := hide (by rw [hcs2]; exact hp12)
          rw [← hcs2] at HG
          have b1 : (World.drew _).cell? ⟨g, s, none⟩ = some (.bool (M (nm s)).isSome) := (HG.out.cell s).trans ((HP.out.2 s (by omega)).trans (by rw [if_neg (by omega), if_neg (by omega)]; exact HQ.out.has s hs1))
          have b2 : (World.drew _).cell? ⟨g, 0, none⟩ = some (.bool (M (nm 0)).isSome) := (HG.out.cell 0).trans ((HP.out.2 0 (by omega)).trans (by rw [if_neg (by omega), if_neg (by omega)]; exact HQ.out.has 0 (by omega)))
          have b3 := HG.out.frozen s
          have b4 := HG.out.frozen 0
          clear hp12 hcs2 y0 y1
          clear hd1 hd2 hd3 hd4 hf1 hf2 hf3 hf4
          generalize (World.setCell _ _ _).drew = W2 at HG HK b1 b2 b3 b4 ⊢
          go_upto_region 18 with fail
          go_region
          have HE := hide (((HG.out.set s (.bool true)).set 0 (.bool true)).drew)
          have HK2 := hide (grown_drew1 (grown_set (grown_set HK.out s (.bool true)) 0 (.bool true)))
          clear b1 b2 b3 b4 HG HK
          generalize (World.setCell _ _ _).drew = W3 at HE HK2 ⊢
          go_wp2_with fail
          go_ret
          exact qset_end hs1 HQ.out HCS.out HR5.out.1 HOF5.out HR5.out.2.1 HR5.out.2.2 HK2.out HE.out HP.out.1 HP.out.2
end Go.Proofs.Ythmchmpicncgdaa
