/- The reference's Set in all its ways; both registers in one memory: standishlaw26.same. -/
import Derived.Test.YthmchmpicncgdaaRqB
import Derived.Test.YthmchmpicncgdaaSrtK
namespace Go.Proofs.Ythmchmpicncgdaa
open Go.RowKit Go.Maps Go.MapKept Go.ChangeMaps Go.Shelf
set_option linter.unusedVariables false
variable {P P' : Nat → Prop}

set_option maxHeartbeats 1000000 in
theorem qset_not (pv : Nat) (r : Int) (A : Option Addr) (k c : Nat) (q : Bool) (w : World) (h : ¬ okN r) :
    Calls Try.prog 9 #[.pointer (some ⟨pv, 0, none⟩), .int .i32 r, .agg #[.slice A k c, .bool q]] w fun e w' => e = .returned (.int .i64 2) ∧ Below w.heap.size w w' := by
  have N1 := hide (fun W => slot_no r W h)
  clear h
  go_enter Try.func9, Try.ntmps9
  go_wp2_with (go_at_call 28; refine (N1.out _).mono ?_; rintro e w1 ⟨rfl, rfl⟩)
  go_ret
  exact ⟨rfl, (Below.refl _ _).alloc (Nat.le_refl _) _⟩
set_option maxHeartbeats 1000000 in
theorem qset_form (pv : Nat) (r : Int) (A : Option Addr) (k c : Nat) (q : Bool) (t : List Int) (w : World) (h : okN r) (ht : mayS t = false) (hA : Runes w A k t) (hk : k ≤ 35184372088832) :
    Calls Try.prog 9 #[.pointer (some ⟨pv, 0, none⟩), .int .i32 r, .agg #[.slice A k c, .bool q]] w fun e w' => e = .returned (.int .i64 1) ∧ Below w.heap.size w w' := by
  have N1 := hide (fun W => slot_ok r W h)
  have M1 := hide (refMay_any A k c t _ (hA.alloc (.cells #[.slice A k c, .bool q] 29)) (by omega))
  rw [ht] at M1
  generalize slotN r = s at N1
  clear h ht hA
  go_enter Try.func9, Try.ntmps9
  go_wp2_with (first
    | (go_at_call 28; refine (N1.out _).mono ?_; rintro e w1 ⟨rfl, rfl⟩)
    | (go_at_call 29; refine M1.out.mono ?_; rintro e w1 ⟨rfl, rfl⟩))
  go_ret
  exact ⟨rfl, (Below.refl _ _).alloc (Nat.le_refl _) _⟩
set_option maxHeartbeats 1000000 in
theorem qset_full (pv : Nat) (r : Int) (A : Option Addr) (k c : Nat) (q : Bool) (t : List Int) (w : World) (h : okN r) (ht : mayS t = true) (hA : Runes w A k t) (hk : k ≤ 35184372088832) (hf : 1000 < k) :
    Calls Try.prog 9 #[.pointer (some ⟨pv, 0, none⟩), .int .i32 r, .agg #[.slice A k c, .bool q]] w fun e w' => e = .returned (.int .i64 3) ∧ Below w.heap.size w w' := by
  have N1 := hide (fun W => slot_ok r W h)
  have M1 := hide (refMay_any A k c t _ (hA.alloc (.cells #[.slice A k c, .bool q] 29)) (by omega))
  rw [ht] at M1
  have d1 : decide ((1000 : Int) < (k : Int)) = true := by simp; omega
  generalize slotN r = s at N1
  clear h ht hA
  go_enter Try.func9, Try.ntmps9
  go_wp2_with (first
    | (go_at_call 28; refine (N1.out _).mono ?_; rintro e w1 ⟨rfl, rfl⟩)
    | (go_at_call 29; refine M1.out.mono ?_; rintro e w1 ⟨rfl, rfl⟩))
  go_ret
  exact ⟨rfl, (Below.refl _ _).alloc (Nat.le_refl _) _⟩
/-- What the reference's Set leaves. -/
def QSetA (P : Nat → Prop) (w : World) (g : Nat) (M : Int → Option Rg) (r : Int) (x : Rg) (e : Ending) (w' : World) : Prop :=
  e = .returned (.int .i64 (setE M r x)) ∧ w.grownBy w' (some g) ∧ QM P w' g (setM M r x)
theorem qset_any (g : Nat) (M : Int → Option Rg) (r : Int) (A : Option Addr) (k c : Nat) (q : Bool) (t : List Int) (w : World) (hm : QM P w g M) (hA : Runes w A k t) (hk : k ≤ 35184372088832) (hP : ∀ g, w.heap.size ≤ g → P g) :
    Calls Try.prog 9 #[.pointer (some ⟨g, 0, none⟩), .int .i32 r, .agg #[.slice A k c, .bool q]] w (QSetA P w g M r (t, q)) := by
  have stay : ∀ {E : Int} {e : Ending} {w' : World}, setE M r (t, q) = E → E ≠ 0 → e = .returned (.int .i64 E) ∧ Below w.heap.size w w' → QSetA P w g M r (t, q) e w' := fun {E e w'} h1 h2 ⟨h3, h4⟩ =>
    ⟨by rw [h3, h1], grown_of_below h4, by
      unfold setM
      rw [if_neg (by rw [h1]; exact h2)]
      exact hm.below h4⟩
  have hl := hA.len
  by_cases h1 : okN r
  · cases h2 : mayS t
    · exact (qset_form g r A k c q t w h1 h2 hA hk).mono fun e w' h => stay (by unfold setE; rw [if_neg (by simpa using h1), if_pos h2]) (by omega) h
    · by_cases h3 : 1000 < k
      · exact (qset_full g r A k c q t w h1 h2 hA hk h3).mono fun e w' h => stay (by unfold setE; rw [if_neg (by simpa using h1), if_neg (by simp [h2]), if_pos (by dsimp only; omega)]) (by omega) h
      · refine (qset_ok g M r A k c q t w h1 h2 (by omega) hm hA hP).mono ?_
        rintro e w' (⟨rfl, h4, h5⟩ | ⟨rfl, h4, h5, h7⟩)
        · exact stay (by unfold setE; rw [if_neg (by simpa using h1), if_neg (by simp [h2]), if_neg (by dsimp only; omega), if_pos h4]) (by omega) ⟨rfl, h5⟩
        · have hE : setE M r (t, q) = 0 := by unfold setE; rw [if_neg (by simpa using h1), if_neg (by simp [h2]), if_neg (by dsimp only; omega), if_neg (by omega)]
          exact ⟨by rw [hE], h5, by unfold setM; rw [if_pos hE]; exact h7⟩
  · exact (qset_not g r A k c q w h1).mono fun e w' h => stay (by unfold setE; rw [if_pos h1]) (by omega) h

theorem QM.few {w : World} {g : Nat} {M : Int → Option Rg} (h : QM P w g M) (l : List Int) (h1 : l.Nodup) (h2 : ∀ x, x ∈ l → (M x).isSome = true) : SortsAt l.length := sorts_all (by
  obtain ⟨cs, _, hq⟩ := h.ex
  have := nodup_le (k := (List.range 27).map nm) h1 fun x hx => by
    obtain ⟨j, hj, rfl⟩ := hq.dom x (h2 x hx)
    exact List.mem_map.2 ⟨j, List.mem_range.2 hj, rfl⟩
  simp at this
  omega)
theorem NamesL.one {M : Int → Option Rg} {l l' : List Int} (h : NamesL M l) (h' : NamesL M l') : l = l' := sorted_ext h.1 h'.1 fun x => by rw [h.2 x, h'.2 x]
theorem NamesL.le {w : World} {g : Nat} {M : Int → Option Rg} {l : List Int} (h : NamesL M l) (hq : QM P w g M) : l.length ≤ 27 := by
  obtain ⟨cs, _, hq⟩ := hq.ex
  have := nodup_le (k := (List.range 27).map nm) (h.1.imp fun h => Int.ne_of_lt h) fun x hx => by
    obtain ⟨j, hj, rfl⟩ := hq.dom x ((h.2 x).1 hx).2
    exact List.mem_map.2 ⟨j, List.mem_range.2 hj, rfl⟩
  simpa using this
theorem same_refl (t : List Int) : sameS t t = true := by simp [sameS]
theorem getX_le {w : World} {g : Nat} {M : Int → Option Rg} (h : QM P w g M) (r : Int) : (getX M r).1.length ≤ 1000 := by
  obtain ⟨cs, _, hq⟩ := h.ex
  unfold getX
  split
  · cases hM : M (ownN r) with
    | none => simp
    | some x =>
      obtain ⟨k, hk, e⟩ := hq.dom (ownN r) (by rw [hM]; rfl)
      obtain ⟨_, _, _, _, _, _, _, _, hl, hx, _⟩ := hq.reg k hk
      rw [← e, hM] at hx
      have := hx x rfl
      rw [Option.getD_some, this]
      exact hl
  · simp

set_option maxRecDepth 100000 in
set_option maxHeartbeats 4000000 in
theorem lsame_any (p b n g : Nat) (M : Int → Option Rg) (r : Int) (w : World) (hm : RegsM P w p b n M) (hq : QM P' w g M) (hn : n ≤ 1000) :
    Calls Try.prog 12 #[.pointer (some ⟨p, 0, none⟩), .pointer (some ⟨g, 0, none⟩), .int .i32 r] w fun e w' => e = .returned (.bool true) ∧ Below w.heap.size w w' := by
  have HM := hide hm
  have HQ := hide hq
  have HXL := hide (getX_le hq r)
  clear hm hq
  go_enter Try.func12, Try.ntmps12
  go_wp2_with fail
  refine (rget_any p b n M r w HM.out).mono ?_
  generalize hX : getX M r = X at HXL
  generalize hI : getB M r = is
  rintro e w1 ⟨A1, n1, c1, rfl, ho1, hb1⟩
  obtain ⟨xb, hxb⟩ : ∃ xb, w1.heap.size = xb := ⟨_, rfl⟩
  have HX1 := hide (Box.newAt hxb 29 #[.slice A1 n1 c1, .bool X.2])
  have HB1 := hide (hb1.alloc hb1.size (.cells #[.slice A1 n1 c1, .bool X.2] 29))
  have HO1 := hide (ho1.alloc (.cells #[.slice A1 n1 c1, .bool X.2] 29))
  have hn1 : n1 ≤ 1000 := by have h1 := ho1.len; have h2 := HXL.out; omega
  have HXX := hide hX
  have HII := hide hI
  have HXB := hide hxb
  clear ho1 hb1 hX hI
  go_wp2_with fail
  generalize w1.alloc (.cells #[.slice A1 n1 c1, .bool X.2] 29) = w2 at HX1 HB1 HO1 ⊢
  clear hxb
  refine (qget_any g M r w2 (HQ.out.below HB1.out)).mono ?_
  rw [HXX.out, HII.out]
  rintro e w3 ⟨A3, n3, c3, rfl, hr3, hl3, hb3⟩
  obtain ⟨yb, hyb⟩ : ∃ yb, w3.heap.size = yb := ⟨_, rfl⟩
  have HX3 := hide ((HX1.out.below hb3).alloc (.cells #[.slice A3 n3 c3, .bool X.2] 29))
  have HY3 := hide (Box.newAt hyb 29 #[.slice A3 n3 c3, .bool X.2])
  have HB3 := hide ((HB1.out.trans (hb3.mono HB1.out.size)).alloc (HB1.out.trans (hb3.mono HB1.out.size)).size (.cells #[.slice A3 n3 c3, .bool X.2] 29))
  have HO3 := hide ((HO1.out.below hb3).alloc (.cells #[.slice A3 n3 c3, .bool X.2] 29))
  have HR3 := hide (hr3.alloc (.cells #[.slice A3 n3 c3, .bool X.2] 29))
  have hn3 : n3 ≤ 1000 := by have h1 := hr3.len; omega
  clear hr3 hl3 hb3 HX1 HB1 HO1
  go_wp2_with fail
  generalize w3.alloc (.cells #[.slice A3 n3 c3, .bool X.2] 29) = w4 at HX3 HY3 HB3 HO3 HR3 ⊢
  clear hyb
  refine (names_any p b n M w4 (HM.out.below HB3.out) hn HQ.out.few).mono ?_
  rintro e w5 ⟨A5, n5, c5, l5, rfl, ho5, hn5, hb5⟩
  have HX5 := hide (HX3.out.below hb5)
  have HY5 := hide (HY3.out.below hb5)
  have HB5 := hide (HB3.out.trans (hb5.mono HB3.out.size))
  have HO5 := hide (HO3.out.below hb5)
  have HR5 := hide (HR3.out.below hb5)
  have HN5 := hide (And.intro (ho5.mono HB3.out.size) hn5)
  have HAP := hide (show blk A5 = none ∨ blk A5 ≠ blk A1 from by
    cases h5 : blk A5 with
    | none => exact .inl rfl
    | some g5 =>
      refine .inr fun e => ?_
      have h1 := (ho5.blk_ge g5 h5).1
      have h2 := (HO3.out.blk_ge g5 e.symm).2
      omega)
  clear ho5 hn5 hb5 HX3 HY3 HB3 HO3 HR3
  obtain ⟨⟨x0, x1⟩, -⟩ := HX5.out.c2
  obtain ⟨⟨y0, y1⟩, -⟩ := HY5.out.c2
  have d0 : (is == is) = true := by simp
  go_wp2_with fail
  refine (sameReg_any A1 A3 n1 c1 n3 c3 X.2 X.2 X.1 X.1 w5 HO5.out.runes HR5.out (by omega) (by omega)).mono ?_
  rw [show sameG (X.1, X.2) (X.1, X.2) = true from by unfold sameG; rw [same_refl]; simp]
  rintro e w6 ⟨rfl, hb6⟩
  have HX6 := hide (HX5.out.below hb6)
  have HB6 := hide (HB5.out.trans (hb6.mono HB5.out.size))
  have HO6 := hide (HO5.out.below hb6)
  have HN6 := hide (And.intro (HN5.out.1.below hb6) HN5.out.2)
  clear hb6 HX5 HY5 HB5 HO5 HR5 HN5 x0 x1 y0 y1
  go_wp2_with fail
  refine (qnames_any g M w6 (HQ.out.below HB6.out)).mono ?_
  rintro e w7 ⟨A7, n7, c7, l7, rfl, ho7, hn7, hb7⟩
  obtain rfl := NamesL.one hn7 HN6.out.2
  have HX7 := hide (HX6.out.below hb7)
  have HB7 := hide (HB6.out.trans (hb7.mono HB6.out.size))
  have HO7 := hide (HO6.out.below hb7)
  have HN7 := hide (HN6.out.1.below hb7)
  have HM7 := hide ho7.runes
  have hn57 : n5 ≤ 27 ∧ n7 ≤ 27 := by have h1 := hn7.le HQ.out; have h2 := ho7.len; have h3 := HN6.out.1.len; omega
  clear ho7 hn7 hb7 HX6 HB6 HO6 HN6
  go_wp2_with fail
  refine (refSame_any A5 A7 n5 c5 n7 c7 l7 l7 w7 HN7.out.runes HM7.out (by omega) (by omega)).mono ?_
  rw [same_refl]
  rintro e w8 ⟨rfl, q8, h8⟩
  have hb8 : Below w7.heap.size w7 w8 := by rw [h8]; exact ⟨rfl, rfl, rfl, Nat.le_refl _, fun _ _ => rfl⟩
  have HX8 := hide (HX7.out.below hb8)
  have HB8 := hide (HB7.out.trans (hb8.mono HB7.out.size))
  have HO8 := hide (HO7.out.below hb8)
  have HN8 := hide (HN7.out.below hb8)
  clear hb8 h8 HX7 HB7 HO7 HN7 HM7
  obtain ⟨⟨x0, x1⟩, -⟩ := HX8.out.c2
  go_wp2_with fail
  refine (spoil_any _ A1 n1 c1 _ w8 HO8.out).mono ?_
  rintro e w9 ⟨rfl, -, hg9⟩
  have HB9 := hide (HB8.out.grown hg9 HB8.out.size fun g hg => (HO8.out.blk_ge g hg).1)
  have HN9 := hide (HN8.out.kept hg9 HAP.out)
  clear hg9 HX8 HB8 HO8 HN8 x0 x1
  go_wp2_with fail
  refine (spoil_any _ A5 n5 c5 _ w9 HN9.out).mono ?_
  rintro e w10 ⟨rfl, -, hg10⟩
  have HB10 := hide (HB9.out.grown hg10 HB9.out.size fun g hg => (HN9.out.blk_ge g hg).1)
  clear hg10
  go_wp2_with fail
  go_ret
  exact ⟨rfl, HB10.out⟩
end Go.Proofs.Ythmchmpicncgdaa
