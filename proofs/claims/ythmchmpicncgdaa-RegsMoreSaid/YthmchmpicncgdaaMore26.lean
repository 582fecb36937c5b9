/- RegsMore, walked: two texts laid by a capital. -/
import Derived.Test.YthmchmpicncgdaaBounds26
import Derived.Test.YthmchmpicncgdaaText
namespace Go.Proofs.Ythmchmpicncgdaa
open Go.RowKit Go.Maps Go.MapKept Go.ChangeMaps Go.Shelf
set_option linter.unusedVariables false

/-- The last element tells whether a text ends a line. -/
theorem endS_ways {s : List Int} {n : Nat} (h : s.length = n) : (n = 0 ∧ endS s = s ++ [10]) ∨ (0 < n ∧ nth s (n - 1) = 10 ∧ endS s = s) ∨ (0 < n ∧ nth s (n - 1) ≠ 10 ∧ endS s = s ++ [10]) := by
  subst h
  unfold endS
  by_cases h0 : 0 < s.length
  · by_cases h1 : nth s (s.length - 1) = 10
    · exact .inr (.inl ⟨h0, h1, by rw [if_pos ⟨h0, h1⟩]⟩)
    · exact .inr (.inr ⟨h0, h1, by rw [if_neg (fun e => h1 e.2)]⟩)
  · exact .inl ⟨by omega, by rw [if_neg (fun e => h0 e.1)]⟩

/-- A move that the walk passes over, under a name of its own. -/
def mv3 : Op := Op.move (Operand.tmp 3)
theorem mv3_eq : mv3 = Op.move (Operand.tmp 3) := rfl

/-- The plain part: what two Sets with a capital leave. -/
structure More (s g : Int) (x y : List Int) (P Q : Bool) (M : Int → Option Rg) : Prop where
  small : getX M s = (joinT x P y Q, P || Q)
  is_ : getB M s = true
  zero : getX M 0 = (joinT x P y Q, P || Q)
  is0 : getB M 0 = true
  great : getX M g = (joinT x P y Q, P || Q)
  isg : getB M g = true
  names : ∀ l, NamesL M l → l = [0, s]
  sorts : ∀ l : List Int, l.Nodup → (∀ x, x ∈ l → (M x).isSome = true) → SortsAt l.length
theorem more_law {s g : Int} {x y : List Int} {P Q : Bool} (hs : 97 ≤ s ∧ s ≤ 122) (hg : g = s - 32) (hx : mayS x = true) (hy : mayS y = true) (lx : x.length ≤ 100) (ly : y.length ≤ 100) :
    setE kM0 g (x, P) = 0 ∧ setE (setM kM0 g (x, P)) g (y, Q) = 0 ∧ More s g x y P Q (setM (setM kM0 g (x, P)) g (y, Q)) := by
  have hcap : capN g = true := capN_yes (by omega)
  have hown : ownN g = s := by rw [ownN_yes (by omega)]; omega
  have hokg : okN g := .inl (by omega)
  have hoks : okN s := .inr (.inl hs)
  have hown2 : ownN s = s := ownN_no (by omega)
  have X1 : setX kM0 g (x, P) = (x, P) := by unfold setX; rw [if_pos hcap]; rfl
  have E1 : setE kM0 g (x, P) = 0 := setE_ok hokg hx (by omega) (by rw [X1]; dsimp only; omega)
  have M1 : setM kM0 g (x, P) s = some (x, P) := by
    have := setM_own E1 (by rw [hown]; omega)
    rwa [hown, X1] at this
  have X2 : setX (setM kM0 g (x, P)) g (y, Q) = (joinT x P y Q, P || Q) := setX_more hcap (by rw [hown]; exact M1)
  have hj := joinT_len x P y Q
  have E2 : setE (setM kM0 g (x, P)) g (y, Q) = 0 := setE_ok hokg hy (by omega) (by rw [X2]; dsimp only; omega)
  have hM : ∀ r, setM (setM kM0 g (x, P)) g (y, Q) r = if r = 0 ∨ r = s then some (joinT x P y Q, P || Q) else none := fun r => by
    rw [setM_ok E2, X2, setM_ok E1, hown, X1]
    unfold updR kM0
    by_cases e0 : r = 0
    · rw [if_pos e0, if_pos (.inl e0)]
    · by_cases e1 : r = s
      · rw [if_neg e0, if_pos e1, if_pos (.inr e1)]
      · rw [if_neg e0, if_neg e1, if_neg e0, if_neg e1, if_neg (by omega)]
  generalize setM (setM kM0 g (x, P)) g (y, Q) = M at hM
  have a1 : M s = some (joinT x P y Q, P || Q) := by rw [hM, if_pos (.inr rfl)]
  have a2 : M 0 = some (joinT x P y Q, P || Q) := by rw [hM, if_pos (.inl rfl)]
  have h0 : okN 0 := by decide
  have h00 : ownN 0 = 0 := by decide
  refine ⟨E1, E2, ?_, ?_, ?_, ?_, ?_, ?_, ?_, ?_⟩
  · unfold getX; rw [if_pos hoks, hown2, a1]; rfl
  · unfold getB; rw [if_pos hoks, hown2, a1]; rfl
  · unfold getX; rw [if_pos h0, h00, a2]; rfl
  · unfold getB; rw [if_pos h0, h00, a2]; rfl
  · unfold getX; rw [if_pos hokg, hown, a1]; rfl
  · unfold getB; rw [if_pos hokg, hown, a1]; rfl
  · intro l hl
    refine sorted_ext hl.1 (by simp; omega) fun r => ?_
    rw [hl.2 r, hM]
    by_cases e : r = 0 ∨ r = s
    · rw [if_pos e]
      simp [I32]
      omega
    · rw [if_neg e]
      simp
      omega
  · intro l h1 h2
    refine sorts_small ?_
    have := nodup_le (k := [0, s]) h1 fun r hr => by
      have := h2 r hr
      rw [hM] at this
      by_cases e : r = 0 ∨ r = s
      · simpa using e
      · rw [if_neg e] at this; cases this
    simp at this
    omega

set_option maxRecDepth 100000 in
set_option maxHeartbeats 4000000 in
theorem more26 (A B : Option Addr) (n c m d : Nat) (l r : List Int) (P Q : Bool) (k : Int) (w : World) (hA : Runes w A n l) (hB : Runes w B m r) (hc : n ≤ c ∧ c ≤ 9223372036854775807) (hd : m ≤ d ∧ d ≤ 9223372036854775807) (hk : 0 ≤ k ∧ k ≤ 255) :
    Calls Try.prog 4 #[.slice A n c, .slice B m d, .bool P, .bool Q, .int .u8 k] w fun e w' => e = .returned (.bool true) ∧ Below w.heap.size w w' := by
  have C1 := hide (cut_any A n c 100 w hc.1 hc.2 (by omega))
  have C2 := hide (fun W => cut_any B m d 100 W hd.1 hd.2 (by omega))
  have hx := cleanS_may (l.take (min n 100))
  have hy := cleanS_may (r.take (min m 100))
  have lx : (cleanS (l.take (min n 100))).length ≤ 100 := by rw [cleanS_len, List.length_take]; omega
  have ly : (cleanS (r.take (min m 100))).length ≤ 100 := by rw [cleanS_len, List.length_take]; omega
  have D1 := hide (clean_any A (min n 100) c _ w (hA.take (m := min n 100) (by omega)) (by omega))
  have D2 := hide (fun W (hb : Below w.heap.size w W) => clean_any B (min m 100) d _ W ((hB.below hb).take (m := min m 100) (by omega)) (by omega))
  generalize cleanS (l.take (min n 100)) = x at hx lx D1
  generalize cleanS (r.take (min m 100)) = y at hy ly D2
  clear hA hB hc hd
  obtain ⟨s, hs⟩ : ∃ s, s = 97 + k % 26 := ⟨_, rfl⟩
  obtain ⟨g, hg⟩ : ∃ g, g = s - 32 := ⟨_, rfl⟩
  have hsb : 97 ≤ s ∧ s ≤ 122 := by omega
  have HLW := hide (more_law (P := P) (Q := Q) hsb hg hx hy lx ly)
  have HL := hide (And.intro lx ly)
  have HSB := hide hsb
  clear hx hy lx ly
  go_enter Try.func4, Try.ntmps4
  go_wp2_with fail
  refine C1.out.mono ?_
  rintro e w0 ⟨rfl, rfl⟩
  go_wp2_with fail
  refine D1.out.mono ?_
  rintro e w1 ⟨A1, n1, c1, rfl, ho1, hb1⟩
  have HO1 := hide ho1.runes
  have HB1 := hide hb1
  clear ho1 hb1 C1 D1
  go_wp2_with fail
  refine (C2.out _).mono ?_
  rintro e w0 ⟨rfl, rfl⟩
  go_wp2_with fail
  refine (D2.out _ HB1.out).mono ?_
  rintro e w2 ⟨A2, n2, c2, rfl, ho2, hb2⟩
  have HO2 := hide ho2.runes
  have HO12 := hide (HO1.out.below hb2)
  have HB2 := hide (HB1.out.trans (hb2.mono HB1.out.size))
  clear ho2 hb2 C2 D2 HO1 HB1
  go_wp2_with fail
  rw [← hs, show 65 + k % 26 = g from by omega]
  clear hs hg
  refine (rnew_any _).mono ?_
  rintro e w3 ⟨p, b, rfl, hm, hp, hb, hbe⟩
  have HS3 := hide (show St w w3 p b 0 kM0 from ⟨hm, by have := HB2.out.size; omega, by have := HB2.out.size; omega, HB2.out.trans (hbe.mono HB2.out.size)⟩)
  have HX3 := hide (HO12.out.below hbe)
  have HY3 := hide (HO2.out.below hbe)
  have hn1 := HX3.out.len
  have hn2 := HY3.out.len
  have HN := hide (And.intro hn1 hn2)
  have HLE := hide (show n1 ≤ 100 ∧ n2 ≤ 100 from by have := HL.out; omega)
  clear hm hp hb hbe HO12 HO2 HB2 hn1 hn2
  obtain ⟨E1, E2, HM⟩ := HLW.out
  have HM := hide HM
  have HE1 := hide E1
  have HE2 := hide E2
  clear E1 E2 HLW
  go_wp2_with fail
  have HC1 := hide (HS3.out.set g (q := P) (c := c1) HX3.out (by have := HLE.out; omega) (by omega))
  rw [HE1.out] at HC1
  refine HC1.out.mono ?_
  rintro e w4 ⟨rfl, hg4, n4, hn4, hs4⟩
  have HS4 := hide hs4
  have HX4 := hide (HX3.out.grownM HS3.out.regs hg4)
  have HY4 := hide (HY3.out.grownM HS3.out.regs hg4)
  clear hs4 hg4 HC1 HS3 HX3 HY3
  go_wp2_with fail
  have HC2 := hide (HS4.out.set g (q := Q) (c := c2) HY4.out (by have := HLE.out; omega) (by omega))
  rw [HE2.out] at HC2
  refine HC2.out.mono ?_
  rintro e w5 ⟨rfl, hg5, n5, hn5, hs5⟩
  have HX5 := hide (HX4.out.grownM HS4.out.regs hg5)
  have HY5 := hide (HY4.out.grownM HS4.out.regs hg5)
  clear hg5 HC2 HX4 HY4
  generalize setM (setM kM0 g (x, P)) g (y, Q) = M at HM hs5
  have HS5 := hide hs5
  clear hs5 HS4 HE1 HE2
  have hway : ((P || Q) = true ∧ joinT x P y Q = endS x ++ endS y) ∨ (P = false ∧ Q = false ∧ joinT x P y Q = x ++ y) := by
    unfold joinT
    cases P <;> cases Q <;> simp
  obtain ⟨J, hJ⟩ : ∃ J, J = joinT x P y Q := ⟨_, rfl⟩
  obtain ⟨PQ, hPQ⟩ : ∃ PQ, PQ = (P || Q) := ⟨_, rfl⟩
  have HM2 := hide (show getX M s = (J, PQ) ∧ getB M s = true ∧ getX M 0 = (J, PQ) ∧ getB M 0 = true ∧ getX M g = (J, PQ) ∧ getB M g = true ∧ (∀ l, NamesL M l → l = [0, s]) ∧ ∀ l : List Int, l.Nodup → (∀ x, x ∈ l → (M x).isSome = true) → SortsAt l.length from by
    rw [hJ, hPQ]
    exact ⟨HM.out.small, HM.out.is_, HM.out.zero, HM.out.is0, HM.out.great, HM.out.isg, HM.out.names, HM.out.sorts⟩)
  have hway2 : Hid ((PQ = true ∧ J = endS x ++ endS y) ∨ (PQ = false ∧ J = x ++ y)) := by
    rw [hJ, hPQ]
    rcases hway with h | ⟨rfl, rfl, h⟩
    · exact .inl h
    · exact .inr ⟨rfl, h⟩
  have HPQ := hide hPQ
  clear HM hJ hPQ hway
  go_upto_region 7 with fail
  go_cut [58] (fun s58 wx => s58 = .bool PQ ∧ wx = w5)
  case first =>
    cases P <;> cases Q
    all_goals
      go_wp2_with fail
      go_meet
      exact ⟨by rw [HPQ.out]; rfl, rfl⟩
  case rest =>
    obtain ⟨rfl, hwc⟩ := hcut
    rw [hwc]
    clear hwc
    go_upto_if 58 with fail
    go_cut [0, 1] (fun v0 v1 wx => ∃ A3 n3 c3 A4 n4 c4 x2 y2, v0 = .slice A3 n3 c3 ∧ v1 = .slice A4 n4 c4 ∧ Runes wx A3 n3 x2 ∧ Runes wx A4 n4 y2 ∧ J = x2 ++ y2 ∧ n3 ≤ 101 ∧ n4 ≤ 101 ∧ Below w5.heap.size w5 wx)
    case first =>
      cases PQ
      · have hj : J = x ++ y := by
          rcases hway2.out with ⟨h, _⟩ | ⟨_, h⟩
          · cases h
          · exact h
        go_wp2_with fail
        go_meet
        exact ⟨A1, n1, c1, A2, n2, c2, x, y, rfl, rfl, HX5.out, HY5.out, hj, by have := HLE.out; omega, by have := HLE.out; omega, Below.refl _ _⟩
      · have hj : J = endS x ++ endS y := by
          rcases hway2.out with ⟨_, h⟩ | ⟨h, _⟩
          · exact h
          · cases h
        have HJ := hide hj
        clear hj
        --INNER--
        go_upto_region 8 with fail
        go_cut [70] (fun ss wx => ∃ bb : Bool, ss = .bool bb ∧ wx = w5 ∧ Hid (endS x = if bb then x ++ [10] else x))
        case first =>
          rcases endS_ways HX5.out.len with ⟨h0, he⟩ | ⟨h0, h1, he⟩ | ⟨h0, h1, he⟩
          · have HE := hide he
            clear he
            have d0 : ((n1 : Int) == 0) = true := by simp; omega
            clear h0
            go_wp2_with fail
            go_meet
            exact ⟨true, rfl, rfl, HE.out⟩
          · have HE := hide he
            clear he
            have d0 : ((n1 : Int) == 0) = false := by simp; omega
            obtain ⟨ab, ao, rfl, hc⟩ := HX5.out.at_ (n1 - 1) (by omega)
            have hle := HLE.out
            have e1 : IntKind.i64.wrap ((n1 : Int) - 1) = ((n1 - 1 : Nat) : Int) := by rw [IntWalk.i64_in _ (by omega)]; omega
            obtain ⟨mm, hmm⟩ : ∃ mm, n1 - 1 = mm := ⟨_, rfl⟩
            rw [hmm] at e1 hc h1
            have p1 : (mm : Int) < (n1 : Int) := by omega
            have p0 : (0 : Int) ≤ (mm : Int) := by omega
            have d1 : (nth x mm != 10) = false := by simp [h1]
            clear hmm h1 hle
            clear h0
            go_wp2_with fail
            go_meet
            exact ⟨false, rfl, rfl, HE.out⟩
          · have HE := hide he
            clear he
            have d0 : ((n1 : Int) == 0) = false := by simp; omega
            obtain ⟨ab, ao, rfl, hc⟩ := HX5.out.at_ (n1 - 1) (by omega)
            have hle := HLE.out
            have e1 : IntKind.i64.wrap ((n1 : Int) - 1) = ((n1 - 1 : Nat) : Int) := by rw [IntWalk.i64_in _ (by omega)]; omega
            obtain ⟨mm, hmm⟩ : ∃ mm, n1 - 1 = mm := ⟨_, rfl⟩
            rw [hmm] at e1 hc h1
            have p1 : (mm : Int) < (n1 : Int) := by omega
            have p0 : (0 : Int) ≤ (mm : Int) := by omega
            have d1 : (nth x mm != 10) = true := by simp [h1]
            clear hmm h1 hle
            clear h0
            go_wp2_with fail
            go_meet
            exact ⟨true, rfl, rfl, HE.out⟩
        case rest =>
          obtain ⟨bb, rfl, hwc, HE⟩ := hcut
          rw [hwc]
          clear hwc
          go_upto_if 70 with fail
          go_cut [0] (fun vv wx => ∃ A7 n7 c7, vv = .slice A7 n7 c7 ∧ Runes wx A7 n7 (endS x) ∧ n7 ≤ 101 ∧ Runes wx A2 n2 y ∧ Below w5.heap.size w5 wx)
          case first =>
            cases bb
            · go_wp2_with fail
              go_meet
              have he : endS x = x := by have := HE.out; simp only [if_true, if_false, Bool.false_eq_true, reduceIte] at this; exact this
              exact ⟨_, n1, c1, rfl, by rw [he]; exact HX5.out, by have := HLE.out; omega, HY5.out, Below.refl _ _⟩
            · go_wp2_with (first
                | (at_builtin
                   refine wpList_app0 rfl (.const (.slice none 0 0)) (.tmp 71) rfl w5.heap.size rfl rfl HX5.out (by have := HLE.out; omega) (Nat.le_refl _) ?_
                   intro A8 c8 w8 hown8 hb8 _ _)
                | (at_builtin
                   refine wpList_app rfl (.tmp 72) (.tmp 73) rfl w5.heap.size rfl (hown8.alloc _) rfl (Runes.news w8 #[.int .i32 10] 21 [10] rfl (W32.one (by omega))) (by have := HLE.out; simp; omega) (by have := hb8.size; simp; omega) ?_
                   intro A9 c9 w9 hown9 hg9 hb9 _ _))
              go_meet
              have he : endS x = x ++ [10] := by have := HE.out; simp only [if_true, if_false, Bool.false_eq_true, reduceIte] at this; exact this
              have hb := (hb8.alloc hb8.size (.cells #[.int .i32 10] 21)).trans hb9
              exact ⟨A9, _, c9, rfl, by rw [he]; exact hown9.runes, by have := HLE.out; simp; omega, HY5.out.below hb, hb⟩
          case rest =>
            obtain ⟨A3, n3, c3, rfl, hx3, hl3, hy3, hb3⟩ := hcut
            have HX6 := hide hx3
            have HY6 := hide hy3
            have HB3 := hide hb3
            have HL3 := hide hl3
            generalize wc = w6 at HX6 HY6 HB3 ⊢
            clear hx3 hy3 hb3 hl3
            go_upto_region 10 with fail
            go_cut [86] (fun ss wx => ∃ bb : Bool, ss = .bool bb ∧ wx = w6 ∧ Hid (endS y = if bb then y ++ [10] else y))
            case first =>
              rcases endS_ways HY6.out.len with ⟨h0, he⟩ | ⟨h0, h1, he⟩ | ⟨h0, h1, he⟩
              · have HE := hide he
                clear he
                have d0 : ((n2 : Int) == 0) = true := by simp; omega
                clear h0
                go_wp2_with fail
                go_meet
                exact ⟨true, rfl, rfl, HE.out⟩
              · have HE := hide he
                clear he
                have d0 : ((n2 : Int) == 0) = false := by simp; omega
                obtain ⟨ab, ao, rfl, hc⟩ := HY6.out.at_ (n2 - 1) (by omega)
                have hle := HLE.out
                have e1 : IntKind.i64.wrap ((n2 : Int) - 1) = ((n2 - 1 : Nat) : Int) := by rw [IntWalk.i64_in _ (by omega)]; omega
                obtain ⟨mm, hmm⟩ : ∃ mm, n2 - 1 = mm := ⟨_, rfl⟩
                rw [hmm] at e1 hc h1
                have p1 : (mm : Int) < (n2 : Int) := by omega
                have p0 : (0 : Int) ≤ (mm : Int) := by omega
                have d1 : (nth y mm != 10) = false := by simp [h1]
                clear hmm h1 hle
                clear h0
                go_wp2_with fail
                go_meet
                exact ⟨false, rfl, rfl, HE.out⟩
              · have HE := hide he
                clear he
                have d0 : ((n2 : Int) == 0) = false := by simp; omega
                obtain ⟨ab, ao, rfl, hc⟩ := HY6.out.at_ (n2 - 1) (by omega)
                have hle := HLE.out
                have e1 : IntKind.i64.wrap ((n2 : Int) - 1) = ((n2 - 1 : Nat) : Int) := by rw [IntWalk.i64_in _ (by omega)]; omega
                obtain ⟨mm, hmm⟩ : ∃ mm, n2 - 1 = mm := ⟨_, rfl⟩
                rw [hmm] at e1 hc h1
                have p1 : (mm : Int) < (n2 : Int) := by omega
                have p0 : (0 : Int) ≤ (mm : Int) := by omega
                have d1 : (nth y mm != 10) = true := by simp [h1]
                clear hmm h1 hle
                clear h0
                go_wp2_with fail
                go_meet
                exact ⟨true, rfl, rfl, HE.out⟩
            case rest =>
              obtain ⟨bb, rfl, hwc, HE⟩ := hcut
              rw [hwc]
              clear hwc
              go_upto_if 86 with fail
              go_cut [1] (fun vv wx => ∃ A7 n7 c7, vv = .slice A7 n7 c7 ∧ Runes wx A7 n7 (endS y) ∧ n7 ≤ 101 ∧ Runes wx A3 n3 (endS x) ∧ Below w6.heap.size w6 wx)
              case first =>
                cases bb
                · go_wp2_with fail
                  go_meet
                  have he : endS y = y := by have := HE.out; simp only [if_true, if_false, Bool.false_eq_true, reduceIte] at this; exact this
                  exact ⟨_, n2, c2, rfl, by rw [he]; exact HY6.out, by have := HLE.out; omega, HX6.out, Below.refl _ _⟩
                · go_wp2_with (first
                    | (at_builtin
                       refine wpList_app0 rfl (.const (.slice none 0 0)) (.tmp 87) rfl w6.heap.size rfl rfl HY6.out (by have := HLE.out; omega) (Nat.le_refl _) ?_
                       intro A8 c8 w8 hown8 hb8 _ _)
                    | (at_builtin
                       refine wpList_app rfl (.tmp 88) (.tmp 89) rfl w6.heap.size rfl (hown8.alloc _) rfl (Runes.news w8 #[.int .i32 10] 21 [10] rfl (W32.one (by omega))) (by have := HLE.out; simp; omega) (by have := hb8.size; simp; omega) ?_
                       intro A9 c9 w9 hown9 hg9 hb9 _ _))
                  go_meet
                  have he : endS y = y ++ [10] := by have := HE.out; simp only [if_true, if_false, Bool.false_eq_true, reduceIte] at this; exact this
                  have hb := (hb8.alloc hb8.size (.cells #[.int .i32 10] 21)).trans hb9
                  exact ⟨A9, _, c9, rfl, by rw [he]; exact hown9.runes, by have := HLE.out; simp; omega, HX6.out.below hb, hb⟩
              case rest =>
                obtain ⟨A4, n4', c4', rfl, hy4, hl4, hx4, hb4⟩ := hcut
                go_wp2_with fail
                go_meet
                exact ⟨A3, n3, c3, A4, n4', c4', endS x, endS y, rfl, rfl, hx4, hy4, HJ.out, HL3.out, hl4, HB3.out.trans (hb4.mono HB3.out.size)⟩
        --END--
    case rest =>
      obtain ⟨A3, n3, c3, A4, n4', c4', x2, y2, rfl, rfl, hx, hy, hJ, hl3, hl4, hb⟩ := hcut
      have HS6 := hide (HS5.out.on hb)
      have HX6 := hide hx
      have HY6 := hide hy
      have HJ := hide hJ
      have HL6 := hide (And.intro hl3 hl4)
      have hJl : J.length ≤ 202 := by rw [hJ, List.length_append, hx.len, hy.len]; omega
      have HJL := hide hJl
      clear hx hy hJ hl3 hl4 hb HX5 HY5 HS5 hway2 hJl
      go_wp2_with fail
      refine (HS6.out.get s HM2.out.1 HM2.out.2.1).mono ?_
      rintro e w7 ⟨A7, k7, c7, rfl, ho7, hs7, hb7⟩
      have hb8 := (Below.refl w7.heap.size w7).alloc (Nat.le_refl _) (.cells #[.slice A7 k7 c7, .bool PQ] 29)
      have HS8 := hide (hs7.on hb8)
      have HB8 := hide (Box.new w7 29 #[.slice A7 k7 c7, .bool PQ])
      have HR8 := hide (ho7.runes.below hb8)
      have HX8 := hide ((HX6.out.below hb7).below hb8)
      have HY8 := hide ((HY6.out.below hb7).below hb8)
      have hk7 : k7 ≤ 202 := by have h1 := ho7.len; have h2 := HJL.out; dsimp only at h1; omega
      have HK7 := hide hk7
      clear ho7 hs7 hb7 hb8 HS6 HX6 HY6 hk7
      go_wp2_with fail
      generalize w7.alloc (.cells #[.slice A7 k7 c7, .bool PQ] 29) = w8 at HS8 HB8 HR8 HX8 HY8 ⊢
      generalize w7.heap.size = g7 at HB8 ⊢
      refine (HS8.out.get 0 HM2.out.2.2.1 HM2.out.2.2.2.1).mono ?_
      rintro e w9 ⟨A9, k9, c9, rfl, ho9, hs9, hb9⟩
      have hb10 := (Below.refl w9.heap.size w9).alloc (Nat.le_refl _) (.cells #[.slice A9 k9 c9, .bool PQ] 29)
      have HS10 := hide (hs9.on hb10)
      have HC10 := hide (Box.new w9 29 #[.slice A9 k9 c9, .bool PQ])
      have HB10 := hide ((HB8.out.below hb9).below hb10)
      have HR10 := hide ((HR8.out.below hb9).below hb10)
      have HT10 := hide (ho9.runes.below hb10)
      have HX10 := hide ((HX8.out.below hb9).below hb10)
      have HY10 := hide ((HY8.out.below hb9).below hb10)
      have hk9 : k9 ≤ 202 := by have h1 := ho9.len; have h2 := HJL.out; dsimp only at h1; omega
      have HK9 := hide hk9
      clear ho9 hs9 hb9 hb10 HS8 HX8 HY8 HB8 HR8 hk9
      go_wp2_with fail
      generalize w9.alloc (.cells #[.slice A9 k9 c9, .bool PQ] 29) = w10 at HS10 HC10 HB10 HR10 HT10 HX10 HY10 ⊢
      generalize w9.heap.size = g9 at HC10 ⊢
      refine (HS10.out.get g HM2.out.2.2.2.2.1 HM2.out.2.2.2.2.2.1).mono ?_
      rintro e w11 ⟨A11, k11, c11, rfl, ho11, hs11, hb11⟩
      have hb12 := (Below.refl w11.heap.size w11).alloc (Nat.le_refl _) (.cells #[.slice A11 k11 c11, .bool PQ] 29)
      have HS12 := hide (hs11.on hb12)
      have HD12 := hide (Box.new w11 29 #[.slice A11 k11 c11, .bool PQ])
      have HC12 := hide ((HC10.out.below hb11).below hb12)
      have HB12 := hide ((HB10.out.below hb11).below hb12)
      have HR12 := hide ((HR10.out.below hb11).below hb12)
      have HT12 := hide ((HT10.out.below hb11).below hb12)
      have HU12 := hide (ho11.runes.below hb12)
      have HX12 := hide ((HX10.out.below hb11).below hb12)
      have HY12 := hide ((HY10.out.below hb11).below hb12)
      have hk11 : k11 ≤ 202 := by have h1 := ho11.len; have h2 := HJL.out; dsimp only at h1; omega
      have HK11 := hide hk11
      clear ho11 hs11 hb11 hb12 HS10 HX10 HY10 HB10 HC10 HR10 HT10 hk11
      go_wp2_with fail
      generalize w11.alloc (.cells #[.slice A11 k11 c11, .bool PQ] 29) = w12 at HS12 HD12 HC12 HB12 HR12 HT12 HU12 HX12 HY12 ⊢
      generalize w11.heap.size = g11 at HD12 ⊢
      have hGG : sameG (J, PQ) (J, PQ) = true := by simp [sameG, sameS]
      have hSS : sameS J (x2 ++ y2) = true := by rw [← HJ.out]; simp [sameS]
      have HGG := hide hGG
      have HSS := hide hSS
      have HNM := hide HM2.out.2.2.2.2.2.2
      have hPQ := HPQ.out
      clear hGG hSS HM2 HPQ
      obtain ⟨⟨f0, f1⟩, -⟩ := HB12.out.c2
      obtain ⟨⟨f2, f3⟩, -⟩ := HC12.out.c2
      obtain ⟨⟨f4, f5⟩, -⟩ := HD12.out.c2
      cases P
      case false =>
        obtain rfl : PQ = Q := by simpa using hPQ
        try clear hPQ
        go_region_held3 (fun w' => w'.cell? ⟨g7, 0, none⟩ = some (.slice A7 k7 c7) ∧ w'.cell? ⟨g7, 1, none⟩ = some (.bool PQ) ∧ w'.cell? ⟨g9, 0, none⟩ = some (.slice A9 k9 c9) ∧ w'.cell? ⟨g9, 1, none⟩ = some (.bool PQ) ∧ w'.cell? ⟨g11, 0, none⟩ = some (.slice A11 k11 c11) ∧ w'.cell? ⟨g11, 1, none⟩ = some (.bool PQ))
          (first | go_keep)
          (first
           | (go_at_call 19; (with_reducible refine (join_any A3 A4 n3 c3 n4' c4' x2 y2 _ (HX12.out.below (Below.refl _ _).drew) (HY12.out.below (Below.refl _ _).drew) (by have := HL6.out; omega)).mono ?_); rintro e wa ⟨Aj, kj, cj, rfl, hoj, hbj⟩
              have HBa := hide ((Below.refl w12.heap.size w12).drew.trans hbj)
              have HOj := hide hoj.runes
              have HKj := hide hoj.len
              clear hoj hbj
              obtain ⟨⟨a0, a1⟩, -⟩ := (HB12.out.below HBa.out).c2
              obtain ⟨⟨a2, a3⟩, -⟩ := (HC12.out.below HBa.out).c2
              obtain ⟨⟨a4, a5⟩, -⟩ := (HD12.out.below HBa.out).c2)
           | (go_at_call 18; (with_reducible refine (refSame_any A7 Aj k7 c7 kj cj J (x2 ++ y2) _ (HR12.out.below HBa.out) HOj.out (by have := HK7.out; omega) (by have := HKj.out; have := HX12.out.len; have := HY12.out.len; have := HL6.out; rw [List.length_append] at *; omega)).mono ?_); rw [HSS.out]; rintro e wb ⟨rfl, qb, hqb⟩
              have HBb := hide (show Below w12.heap.size w12 wb from HBa.out.trans (by rw [hqb]; exact ⟨rfl, rfl, rfl, Nat.le_refl _, fun _ _ => rfl⟩))
              clear hqb
              obtain ⟨⟨b0, b1⟩, -⟩ := (HB12.out.below HBb.out).c2
              obtain ⟨⟨b2, b3⟩, -⟩ := (HC12.out.below HBb.out).c2
              obtain ⟨⟨b4, b5⟩, -⟩ := (HD12.out.below HBb.out).c2)
           | (go_at_call 20; (with_reducible refine (sameReg_any A7 A9 k7 c7 k9 c9 PQ PQ J J _ (HR12.out.below HBb.out) (HT12.out.below HBb.out) (by have := HK7.out; omega) (by have := HK9.out; omega)).mono ?_); rw [HGG.out]; rintro e wd ⟨rfl, hbd⟩
              have HBd := hide (HBb.out.trans (hbd.mono HBb.out.size))
              clear hbd
              obtain ⟨⟨d0, d1⟩, -⟩ := (HB12.out.below HBd.out).c2
              obtain ⟨⟨d2, d3⟩, -⟩ := (HC12.out.below HBd.out).c2
              obtain ⟨⟨d4, d5⟩, -⟩ := (HD12.out.below HBd.out).c2)
           | (go_at_call 20; (with_reducible refine (sameReg_any A7 A11 k7 c7 k11 c11 PQ PQ J J _ (HR12.out.below HBd.out) (HU12.out.below HBd.out) (by have := HK7.out; omega) (by have := HK11.out; omega)).mono ?_); rw [HGG.out]; rintro e we ⟨rfl, hbe⟩
              have HBe := hide (HBd.out.trans (hbe.mono HBd.out.size))
              clear hbe
              obtain ⟨⟨e0, e1⟩, -⟩ := (HB12.out.below HBe.out).c2
              obtain ⟨⟨e2, e3⟩, -⟩ := (HC12.out.below HBe.out).c2
              obtain ⟨⟨e4, e5⟩, -⟩ := (HD12.out.below HBe.out).c2)
           | (go_at_call 21; (with_reducible refine (names_any p b n5 M _ (HS12.out.on HBe.out).regs (by omega) HNM.out.2).mono ?_); rintro e wf ⟨Af, kf, cf, lf, rfl, hof, hnf, hbf⟩
              have hkf : kf = 2 := by rw [← hof.len, HNM.out.1 lf hnf]; rfl
              subst hkf
              have HBf := hide (HBe.out.trans (hbf.mono HBe.out.size))
              clear hbf hof hnf
              obtain ⟨⟨h0, h1⟩, -⟩ := (HB12.out.below HBf.out).c2
              obtain ⟨⟨h2, h3⟩, -⟩ := (HC12.out.below HBf.out).c2
              obtain ⟨⟨h4, h5⟩, -⟩ := (HD12.out.below HBf.out).c2)
           | (go_at_call 14; (with_reducible refine (known_any _).mono ?_); rintro e wg ⟨rfl, hbg⟩
              have HBg := hide (HBf.out.trans (hbg.mono HBf.out.size))
              clear hbg
              obtain ⟨⟨j0, j1⟩, -⟩ := (HB12.out.below HBg.out).c2
              obtain ⟨⟨j2, j3⟩, -⟩ := (HC12.out.below HBg.out).c2
              obtain ⟨⟨j4, j5⟩, -⟩ := (HD12.out.below HBg.out).c2))
        have HFIN := hide (HS12.out.on HBg.out).below
        clear f0 f1 f2 f3 f4 f5 a0 a1 a2 a3 a4 a5 b0 b1 b2 b3 b4 b5 d0 d1 d2 d3 d4 d5 e0 e1 e2 e3 e4 e5 h0 h1 h2 h3 h4 h5 j0 j1 j2 j3 j4 j5
        go_wp2_with fail
        go_ret
        exact ⟨rfl, HFIN.out⟩
      case true =>
        obtain rfl : PQ = true := by simpa using hPQ
        try clear hPQ
        rw [← mv3_eq]
        first | (go_region_held3 (fun w' => w'.cell? ⟨g7, 0, none⟩ = some (.slice A7 k7 c7) ∧ w'.cell? ⟨g7, 1, none⟩ = some (.bool true) ∧ w'.cell? ⟨g9, 0, none⟩ = some (.slice A9 k9 c9) ∧ w'.cell? ⟨g9, 1, none⟩ = some (.bool true) ∧ w'.cell? ⟨g11, 0, none⟩ = some (.slice A11 k11 c11) ∧ w'.cell? ⟨g11, 1, none⟩ = some (.bool true))
          (first | go_keep)
          (first
           | (go_at_call 19; (with_reducible refine (join_any A3 A4 n3 c3 n4' c4' x2 y2 _ (HX12.out.below (Below.refl _ _).drew) (HY12.out.below (Below.refl _ _).drew) (by have := HL6.out; omega)).mono ?_); rintro e wa ⟨Aj, kj, cj, rfl, hoj, hbj⟩
              have HBa := hide ((Below.refl w12.heap.size w12).drew.trans hbj)
              have HOj := hide hoj.runes
              have HKj := hide hoj.len
              clear hoj hbj
              obtain ⟨⟨a0, a1⟩, -⟩ := (HB12.out.below HBa.out).c2
              obtain ⟨⟨a2, a3⟩, -⟩ := (HC12.out.below HBa.out).c2
              obtain ⟨⟨a4, a5⟩, -⟩ := (HD12.out.below HBa.out).c2)
           | (go_at_call 18; (with_reducible refine (refSame_any A7 Aj k7 c7 kj cj J (x2 ++ y2) _ (HR12.out.below HBa.out) HOj.out (by have := HK7.out; omega) (by have := HKj.out; have := HX12.out.len; have := HY12.out.len; have := HL6.out; rw [List.length_append] at *; omega)).mono ?_); rw [HSS.out]; rintro e wb ⟨rfl, qb, hqb⟩
              have HBb := hide (show Below w12.heap.size w12 wb from HBa.out.trans (by rw [hqb]; exact ⟨rfl, rfl, rfl, Nat.le_refl _, fun _ _ => rfl⟩))
              clear hqb
              obtain ⟨⟨b0, b1⟩, -⟩ := (HB12.out.below HBb.out).c2
              obtain ⟨⟨b2, b3⟩, -⟩ := (HC12.out.below HBb.out).c2
              obtain ⟨⟨b4, b5⟩, -⟩ := (HD12.out.below HBb.out).c2)
           | (go_at_call 20; (with_reducible refine (sameReg_any A7 A9 k7 c7 k9 c9 true true J J _ (HR12.out.below HBb.out) (HT12.out.below HBb.out) (by have := HK7.out; omega) (by have := HK9.out; omega)).mono ?_); rw [HGG.out]; rintro e wd ⟨rfl, hbd⟩
              have HBd := hide (HBb.out.trans (hbd.mono HBb.out.size))
              clear hbd
              obtain ⟨⟨d0, d1⟩, -⟩ := (HB12.out.below HBd.out).c2
              obtain ⟨⟨d2, d3⟩, -⟩ := (HC12.out.below HBd.out).c2
              obtain ⟨⟨d4, d5⟩, -⟩ := (HD12.out.below HBd.out).c2)
           | (go_at_call 20; (with_reducible refine (sameReg_any A7 A11 k7 c7 k11 c11 true true J J _ (HR12.out.below HBd.out) (HU12.out.below HBd.out) (by have := HK7.out; omega) (by have := HK11.out; omega)).mono ?_); rw [HGG.out]; rintro e we ⟨rfl, hbe⟩
              have HBe := hide (HBd.out.trans (hbe.mono HBd.out.size))
              clear hbe
              obtain ⟨⟨e0, e1⟩, -⟩ := (HB12.out.below HBe.out).c2
              obtain ⟨⟨e2, e3⟩, -⟩ := (HC12.out.below HBe.out).c2
              obtain ⟨⟨e4, e5⟩, -⟩ := (HD12.out.below HBe.out).c2)
           | (go_at_call 21; (with_reducible refine (names_any p b n5 M _ (HS12.out.on HBe.out).regs (by omega) HNM.out.2).mono ?_); rintro e wf ⟨Af, kf, cf, lf, rfl, hof, hnf, hbf⟩
              have hkf : kf = 2 := by rw [← hof.len, HNM.out.1 lf hnf]; rfl
              subst hkf
              have HBf := hide (HBe.out.trans (hbf.mono HBe.out.size))
              clear hbf hof hnf
              obtain ⟨⟨h0, h1⟩, -⟩ := (HB12.out.below HBf.out).c2
              obtain ⟨⟨h2, h3⟩, -⟩ := (HC12.out.below HBf.out).c2
              obtain ⟨⟨h4, h5⟩, -⟩ := (HD12.out.below HBf.out).c2)
           | (go_at_call 14; (with_reducible refine (known_any _).mono ?_); rintro e wg ⟨rfl, hbg⟩
              have HBg := hide (HBf.out.trans (hbg.mono HBf.out.size))
              clear hbg
              obtain ⟨⟨j0, j1⟩, -⟩ := (HB12.out.below HBg.out).c2
              obtain ⟨⟨j2, j3⟩, -⟩ := (HC12.out.below HBg.out).c2
              obtain ⟨⟨j4, j5⟩, -⟩ := (HD12.out.below HBg.out).c2))) | fail "no"
        have HFIN := hide (HS12.out.on HBg.out).below
        clear f0 f1 f2 f3 f4 f5 a0 a1 a2 a3 a4 a5 b0 b1 b2 b3 b4 b5 d0 d1 d2 d3 d4 d5 e0 e1 e2 e3 e4 e5 h0 h1 h2 h3 h4 h5 j0 j1 j2 j3 j4 j5
        go_wp2_with fail
        go_ret
        exact ⟨rfl, HFIN.out⟩
end Go.Proofs.Ythmchmpicncgdaa
