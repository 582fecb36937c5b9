/- Registers: names, what a register holds (copied, ended, joined). -/
import Derived.Test.YthmchmpicncgdaaMapReg
import Derived.Test.YthmchmpicncgdaaSgnP
import Derived.Test.YthmchmpicncgdaaTextA
import Derived.Test.YthmchmpicncgdaaCatA
import Derived.IntWalk
import Derived.RegionTactic
import Derived.ChangeAlike
import Derived.BigRegion
import Derived.Deep.LoopGhost
import Derived.Deep.CutBlock
import Derived.Deep.DeepCutAuto
namespace Go.Proofs.Ythmchmpicncgdaa
open Go.RowKit
set_option linter.unusedVariables false

def capN (r : Int) : Bool := decide (65 ≤ r ∧ r ≤ 90)
def ownN (r : Int) : Int := if 65 ≤ r ∧ r ≤ 90 then r + 32 else r
def okN (r : Int) : Prop := (65 ≤ r ∧ r ≤ 90) ∨ (97 ≤ r ∧ r ≤ 122) ∨ r = 0
instance (r : Int) : Decidable (okN r) := by unfold okN; infer_instance
theorem capN_yes {r : Int} (h : 65 ≤ r ∧ r ≤ 90) : capN r = true := decide_eq_true h
theorem capN_no {r : Int} (h : ¬ (65 ≤ r ∧ r ≤ 90)) : capN r = false := decide_eq_false h
theorem ownN_yes {r : Int} (h : 65 ≤ r ∧ r ≤ 90) : ownN r = r + 32 := if_pos h
theorem ownN_no {r : Int} (h : ¬ (65 ≤ r ∧ r ≤ 90)) : ownN r = r := if_neg h
theorem ownN_ok {r : Int} (h : okN r) : ownN r = 0 ∨ (97 ≤ ownN r ∧ ownN r ≤ 122) := by
  unfold okN at h
  by_cases h1 : 65 ≤ r ∧ r ≤ 90
  · rw [ownN_yes h1]; omega
  · rw [ownN_no h1]; omega

set_option maxHeartbeats 400000 in
theorem within_cap (r : Int) (w : World) (h : 65 ≤ r ∧ r ≤ 90) :
    Calls Try.prog 45 #[.int .i32 r, .int .i32 65, .int .i32 90] w fun e w' => e = .returned (.bool true) ∧ w = w' := by
  go_enter Try.func45, Try.ntmps45
  go_wp2
  go_ret
  exact ⟨rfl, rfl⟩
set_option maxHeartbeats 400000 in
theorem lower_cap (r : Int) (w : World) (h : 65 ≤ r ∧ r ≤ 90) :
    Calls Try.prog 35 #[.int .i32 r] w fun e w' => e = .returned (.int .i32 (r + 32)) ∧ w = w' := by
  have e1 : IntKind.i32.wrap (r + 32) = r + 32 := by simp [IntKind.wrap_i32]; omega
  go_enter Try.func35, Try.ntmps35
  go_wp2_with (go_at_call 45; refine (within_cap _ _ h).mono ?_; rintro e w' ⟨rfl, rfl⟩)
  go_ret
  exact ⟨rfl, rfl⟩
theorem nm_ways {r : Int} (h : okN r) : (65 ≤ r ∧ r ≤ 90) ∨ (97 ≤ r ∧ r ≤ 122) ∨ r = 0 := h
theorem nm_not {r : Int} (h : ¬ okN r) : r < 0 ∨ (0 < r ∧ r < 65) ∨ (90 < r ∧ r < 97) ∨ 122 < r := by unfold okN at h; omega
set_option maxHeartbeats 1000000 in
theorem named_ok (r : Int) (w : World) (h : okN r) :
    Calls Try.prog 24 #[.int .i32 r] w fun e w' => e = .returned (.tuple #[.int .i32 (ownN r), .bool (capN r), .bool true]) ∧ w = w' := by
  rcases nm_ways h with h | h | rfl
  · rw [ownN_yes h, capN_yes h]
    obtain ⟨s, hs⟩ : ∃ s, r + 32 = s := ⟨_, rfl⟩
    have hs2 : 97 ≤ s ∧ s ≤ 122 := by omega
    have L1 := hide (fun W => lower_cap r W h)
    rw [hs] at L1 ⊢
    clear hs
    go_enter Try.func24, Try.ntmps24
    go_wp2_with (go_at_call 35; refine (L1.out _).mono ?_; rintro e w' ⟨rfl, rfl⟩)
    go_ret3
    exact ⟨rfl, rfl⟩
  · have h2 : ¬ (65 ≤ r ∧ r ≤ 90) := by omega
    rw [ownN_no h2, capN_no h2]
    have h3 : 90 < r := by omega
    clear h2
    go_enter Try.func24, Try.ntmps24
    go_wp2_with fail
    go_ret3
    exact ⟨rfl, rfl⟩
  · rw [ownN_no (by omega), capN_no (by omega)]
    go_enter Try.func24, Try.ntmps24
    go_wp2_with fail
    go_ret3
    exact ⟨rfl, rfl⟩
set_option maxHeartbeats 1000000 in
theorem named_not (r : Int) (w : World) (h : ¬ okN r) :
    Calls Try.prog 24 #[.int .i32 r] w fun e w' => e = .returned (.tuple #[.int .i32 0, .bool false, .bool false]) ∧ w = w' := by
  have h0 : (r == 0) = false := by unfold okN at h; simp; omega
  rcases nm_not h with h | h | h | h
  all_goals
    go_enter Try.func24, Try.ntmps24
    go_wp2_with fail
    go_ret3
    exact ⟨rfl, rfl⟩

/-- What a register's copy is: new memory. -/
def NewG (w : World) (t : List Int) (b : Bool) (e : Ending) (w' : World) : Prop :=
  ∃ A n c, e = .returned (.agg #[.slice A n c, .bool b]) ∧ Own w' w.heap.size A n c t ∧ Below w.heap.size w w'

set_option maxHeartbeats 1000000 in
theorem rcopied_any (A : Option Addr) (n c : Nat) (b : Bool) (t : List Int) (w : World) (h : Runes w A n t) (hn : n ≤ 35184372088832) :
    Calls Try.prog 27 #[.agg #[.slice A n c, .bool b]] w (NewG w t b) := by
  have HC := hide (fun W (hb : Below w.heap.size w W) => clone_any A n c t W (h.below hb) hn)
  have HX0 := hide ((Box.new w 29 #[.slice A n c, .bool b]).alloc (.cells #[.slice none 0 0, .bool false] 29))
  have HY0 := hide (Box.newAt (World.size_alloc w (.cells #[.slice A n c, .bool b] 29)) 29 #[.slice none 0 0, .bool false])
  have HB0 := hide (((Below.refl w.heap.size w).alloc (Nat.le_refl _) (.cells #[.slice A n c, .bool b] 29)).alloc (by simp) (.cells #[.slice none 0 0, .bool false] 29))
  clear h
  go_enter Try.func27, Try.ntmps27
  go_wp2_with fail
  go_region_held3 (fun w' => w'.cell? ⟨w.heap.size, 0, none⟩ = some (.slice A n c) ∧ w'.cell? ⟨w.heap.size, 1, none⟩ = some (.bool b))
    (first | go_keep)
    (first
     | (go_at_call 41; (with_reducible refine (HC.out _ HB0.out.drew).mono ?_); rintro e w1 ⟨A1, n1, c1, rfl, ho1, hb1⟩
        have HB1 := hide (HB0.out.drew.trans (hb1.mono (by simp; omega)))
        have hx1 := hide (HX0.out.drew.below hb1)
        have hy1 := hide (HY0.out.drew.below hb1)
        obtain ⟨⟨f0, f1⟩, f3⟩ := hx1.out.c2
        obtain ⟨⟨l0, l1⟩, l3, l4⟩ := hy1.out.c2))
  have hne : blk A1 ≠ some (w.heap.size + 1) := fun e => by have := (ho1.blk_ge _ e).1; simp at this; omega
  have HO := hide ((ho1.far (p := ⟨w.heap.size + 1, 0, none⟩) hne (.slice A1 n1 c1)).far (p := ⟨w.heap.size + 1, 1, none⟩) hne (.bool b))
  clear hne
  have HB := hide ((HB1.out.setCell (p := ⟨w.heap.size + 1, 0, none⟩) (Nat.le_succ _) (.slice A1 n1 c1)).setCell (p := ⟨w.heap.size + 1, 1, none⟩) (Nat.le_succ _) (.bool b))
  have HY := hide (((hy1.out.set 0 (.slice A1 n1 c1)).set 1 (.bool b)).c2)
  clear ho1 hb1
  go_wp2_with fail
  obtain ⟨⟨r0, r1⟩, _⟩ := HY.out
  refine bodyPost_ret (v := .agg #[.slice A1 n1 c1, .bool b]) (by simp [results, Try.results27, go_sem, r0, r1]) rfl ?_
  exact ⟨A1, n1, c1, rfl, HO.out.mono (by simp; omega), HB.out⟩

/-- A text with a line's end behind it. -/
def endS (s : List Int) : List Int := if 0 < s.length ∧ nth s (s.length - 1) = 10 then s else s ++ [10]
theorem endS_len (s : List Int) : (endS s).length ≤ s.length + 1 := by unfold endS; split <;> simp
/-- A call hands back something that reads as l; nothing that was there has turned. -/
def SomeR (w : World) (l : List Int) (e : Ending) (w' : World) : Prop := ∃ A n c, e = .returned (.slice A n c) ∧ Runes w' A n l ∧ Below w.heap.size w w'

set_option maxHeartbeats 1000000 in
theorem ended_any (A : Option Addr) (n c : Nat) (s : List Int) (w : World) (h : Runes w A n s) (hn : n ≤ 1000000) :
    Calls Try.prog 40 #[.slice A n c] w (SomeR w (endS s)) := by
  have hl := h.len
  have HC := hide (clone_any A n c s w h (by omega))
  by_cases h0 : 0 < n
  · obtain ⟨ab, ao, rfl, hc⟩ := h.at_ (n - 1) (by omega)
    have e1 : IntKind.i64.wrap ((n : Int) - 1) = ((n - 1 : Nat) : Int) := by rw [IntWalk.i64_in _ (by omega)]; omega
    obtain ⟨m, hm⟩ : ∃ m, n - 1 = m := ⟨_, rfl⟩
    rw [hm] at e1 hc
    have HM := hide hm
    have p1 : (m : Int) < (n : Int) := by omega
    have p2 : decide ((0 : Int) < (n : Int)) = true := by simp; omega
    have HH := hide h
    have HL := hide hl
    clear hm h hl
    by_cases h10 : nth s m = 10
    · have hE := hide (show endS s = s from by
        have := HL.out
        have := HM.out
        unfold endS
        rw [if_pos ⟨by omega, by rw [show s.length - 1 = m by omega]; exact h10⟩])
      have d10 : (nth s m == 10) = true := by simp [h10]
      clear h10
      go_enter Try.func40, Try.ntmps40
      go_wp2_with fail
      go_ret
      exact ⟨_, _, c, rfl, by rw [hE.out]; exact HH.out, Below.refl _ _⟩
    · have hE := hide (show endS s = s ++ [10] from by
        have := HL.out
        have := HM.out
        unfold endS
        rw [if_neg (fun e => h10 (by rw [show s.length - 1 = m by omega] at e; exact e.2))])
      have d10 : (nth s m == 10) = false := by simp [h10]
      clear h10
      go_enter Try.func40, Try.ntmps40
      go_wp2_with (first
        | (go_at_call 41; refine HC.out.mono ?_; rintro e w1 ⟨A1, n1, c1, rfl, ho1, hb1⟩; have hl1 := ho1.len)
        | (at_builtin
           refine wpList_app rfl (.tmp 17) (.tmp 18) rfl w.heap.size rfl (ho1.alloc _) rfl (Runes.news w1 #[.int .i32 10] 21 [10] rfl (W32.one (by omega))) (by have := HL.out; simp; omega) (by have := hb1.size; simp; omega) ?_
           intro A2 c2 w2 hown2 hg2 hb2 _ _))
      go_ret
      exact ⟨_, _, c2, rfl, by rw [hE.out]; exact hown2.runes, (hb1.alloc hb1.size _).trans hb2⟩
  · obtain rfl : n = 0 := by omega
    have hE := hide (show endS s = s ++ [10] from by
      unfold endS
      rw [if_neg (by omega)])
    go_enter Try.func40, Try.ntmps40
    go_wp2_with (first
      | (go_at_call 41; refine HC.out.mono ?_; rintro e w1 ⟨A1, n1, c1, rfl, ho1, hb1⟩; have hl1 := ho1.len)
      | (at_builtin
         refine wpList_app rfl (.tmp 17) (.tmp 18) rfl w.heap.size rfl (ho1.alloc _) rfl (Runes.news w1 #[.int .i32 10] 21 [10] rfl (W32.one (by omega))) (by simp; omega) (by have := hb1.size; simp; omega) ?_
         intro A2 c2 w2 hown2 hg2 hb2 _ _))
    go_ret
    exact ⟨_, _, c2, rfl, by rw [hE.out]; exact hown2.runes, (hb1.alloc hb1.size _).trans hb2⟩

theorem Texts.news2 {w : World} {T1 T2 : Option Addr} {m1 m2 d1 d2 : Nat} {l1 l2 : List Int} (h1 : Runes w T1 m1 l1) (h2 : Runes w T2 m2 l2) (t : TypeId) :
    Texts (w.alloc (.cells #[.slice T1 m1 d1, .slice T2 m2 d2] t)) (some ⟨w.heap.size, 0, none⟩) 2 [l1, l2] := by
  have hb := Box.new w t #[.slice T1 m1 d1, .slice T2 m2 d2]
  refine ⟨rfl, fun j hj => ?_⟩
  match j, hj with
  | 0, _ => exact ⟨_, _, T1, m1, d1, l1, rfl, hb.cell 0, rfl, h1.alloc _⟩
  | 1, _ => exact ⟨_, _, T2, m2, d2, l2, rfl, hb.cell 1, rfl, h2.alloc _⟩
  | j + 2, hj => omega

/-- What two registers hold together. -/
def joinT (a : List Int) (p : Bool) (b : List Int) (q : Bool) : List Int := if p || q then endS a ++ endS b else a ++ b
theorem joinT_len (a : List Int) (p : Bool) (b : List Int) (q : Bool) : (joinT a p b q).length ≤ a.length + b.length + 2 := by
  have h1 := endS_len a
  have h2 := endS_len b
  unfold joinT
  split <;> rw [List.length_append] <;> omega

set_option maxHeartbeats 1000000 in
theorem joined_any (A C : Option Addr) (n c m d : Nat) (p q : Bool) (a b : List Int) (w : World) (hA : Runes w A n a) (hC : Runes w C m b) (hn : n ≤ 1000000) (hm : m ≤ 1000000) :
    Calls Try.prog 26 #[.agg #[.slice A n c, .bool p], .agg #[.slice C m d, .bool q]] w (NewG w (joinT a p b q) (p || q)) := by
  have hla := hA.len
  have hlb := hC.len
  have hea := endS_len a
  have heb := endS_len b
  have HX0 := hide (((Box.new w 29 #[.slice A n c, .bool p]).alloc (.cells #[.slice C m d, .bool q] 29)).alloc (.cells #[.slice none 0 0, .bool false] 29))
  have HY0 := hide ((Box.newAt (World.size_alloc w (.cells #[.slice A n c, .bool p] 29)) 29 #[.slice C m d, .bool q]).alloc (.cells #[.slice none 0 0, .bool false] 29))
  have HZ0 := hide (Box.newAt (g := w.heap.size + 1 + 1) (w := (w.alloc (.cells #[.slice A n c, .bool p] 29)).alloc (.cells #[.slice C m d, .bool q] 29)) (by simp) 29 #[.slice none 0 0, .bool false])
  have HB0 := hide ((((Below.refl w.heap.size w).alloc (Nat.le_refl _) (.cells #[.slice A n c, .bool p] 29)).alloc (by simp) (.cells #[.slice C m d, .bool q] 29)).alloc (by simp; omega) (.cells #[.slice none 0 0, .bool false] 29))
  have hsz : (((w.alloc (.cells #[.slice A n c, .bool p] 29)).alloc (.cells #[.slice C m d, .bool q] 29)).alloc (.cells #[.slice none 0 0, .bool false] 29)).heap.size = w.heap.size + 1 + 1 + 1 := by simp
  have HA := hide hA
  have HC := hide hC
  have HL := hide (And.intro hla hlb)
  clear hA hC hla hlb
  by_cases hpq : (p || q) = true
  · have hJ : joinT a p b q = endS a ++ endS b := by unfold joinT; rw [if_pos hpq]
    rw [hJ, hpq]
    have hq : p = true ∨ (p = false ∧ q = true) := by cases p <;> cases q <;> simp at hpq ⊢
    clear hJ hpq
    have EA := hide (fun W (hb : Below w.heap.size w W) => ended_any A n c a W (HA.out.below hb) hn)
    have EC := hide (fun W (hb : Below w.heap.size w W) => ended_any C m d b W (HC.out.below hb) hm)
    rcases hq with rfl | ⟨rfl, rfl⟩
    all_goals
      go_enter Try.func26, Try.ntmps26
      go_wp2_with fail
      generalize hWW : ((w.alloc _).alloc _).alloc _ = W at HX0 HY0 HZ0 HB0 hsz ⊢
      generalize hz : w.heap.size + 1 + 1 = z at HZ0 hsz ⊢
      generalize hy : w.heap.size + 1 = y at HY0 ⊢
      have HZ := hide hz
      have HY := hide hy
      have HS := hide hsz
      have nz1 : w.heap.size ≠ z := by omega
      have nz2 : y ≠ z := by omega
      have nz3 : z ≠ w.heap.size := by omega
      have nz4 : z ≠ y := by omega
      clear hz hy hsz hWW
      obtain ⟨⟨x0, x1⟩, _⟩ := HX0.out.c2
      obtain ⟨⟨y0, y1⟩, _⟩ := HY0.out.c2
      go_region_held3 (fun w' => w'.cell? ⟨w.heap.size, 0, none⟩ = some (.slice A n c) ∧ w'.cell? ⟨y, 0, none⟩ = some (.slice C m d))
        (first | go_keep)
        (first
         | (go_at_call 40; (with_reducible refine (EA.out _ HB0.out.drew).mono ?_); rintro e w1 ⟨A1, n1, c1, rfl, hr1, hb1⟩
            have HB1 := hide (HB0.out.drew.trans (hb1.mono (by have := HB0.out.size; simpa using this)))
            have HX1 := hide (HX0.out.drew.below hb1)
            have HY1 := hide (HY0.out.drew.below hb1)
            have HZ1 := hide (HZ0.out.drew.below hb1)
            have HR1 := hide hr1
            clear hb1 hr1 x0 x1 y0 y1
            obtain ⟨⟨f0, f1⟩, _⟩ := HX1.out.c2
            obtain ⟨⟨l0, l1⟩, _⟩ := HY1.out.c2)
         | (go_at_call 40; (with_reducible refine (EC.out _ HB1.out).mono ?_); rintro e w2 ⟨A2, n2, c2, rfl, hr2, hb2⟩
            have HB2 := hide (HB1.out.trans (hb2.mono HB1.out.size))
            have HX2 := hide (HX1.out.below hb2)
            have HY2 := hide (HY1.out.below hb2)
            have HZ2 := hide (HZ1.out.below hb2)
            have HT2 := hide (Texts.news2 (d1 := c1) (d2 := c2) (HR1.out.below hb2) hr2 27)
            clear hb2 hr2 f0 f1 l0 l1
            obtain ⟨⟨m0, m1⟩, _⟩ := HX2.out.c2
            obtain ⟨⟨k0, k1⟩, _⟩ := HY2.out.c2)
         | (go_at_call 39; (with_reducible refine (concat_any _ 2 2 _ _ HT2.out (by omega) (by have := HL.out; simp; omega)).mono ?_); rintro e w3 ⟨A3, n3, c3, rfl, ho3, hb3⟩
            have HZ3 := hide ((HZ2.out.alloc _).below hb3)
            obtain ⟨⟨z0, z1⟩, z2, z3⟩ := HZ3.out.c2
            obtain ⟨⟨m2, m3⟩, _⟩ := ((HX2.out.alloc (.cells #[.slice A1 n1 c1, .slice A2 n2 c2] 27)).below hb3).c2
            obtain ⟨⟨k2, k3⟩, _⟩ := ((HY2.out.alloc (.cells #[.slice A1 n1 c1, .slice A2 n2 c2] 27)).below hb3).c2))
      have hz3 : w.heap.size + 1 + 1 = z := HZ.out
      have hs3 : W.heap.size = w.heap.size + 1 + 1 + 1 := HS.out.trans (by rw [HZ.out])
      have hne : blk A3 ≠ some z := fun e => by have h1 := (ho3.blk_ge _ e).1; have h2 := (HZ2.out.alloc (.cells #[.slice A1 n1 c1, .slice A2 n2 c2] 27)).lt; omega
      have hzw : w.heap.size ≤ z := by omega
      have HO := hide ((ho3.far (p := ⟨z, 0, none⟩) hne (.slice A3 n3 c3)).far (p := ⟨z, 1, none⟩) hne (.bool true))
      have HB := hide ((((HB2.out.alloc HB2.out.size (.cells #[.slice A1 n1 c1, .slice A2 n2 c2] 27)).trans (hb3.mono (by have := HB2.out.size; simp; omega))).setCell (p := ⟨z, 0, none⟩) hzw (.slice A3 n3 c3)).setCell (p := ⟨z, 1, none⟩) hzw (.bool true))
      have HQ := hide (((HZ3.out.set 0 (.slice A3 n3 c3)).set 1 (.bool true)).c2)
      have hle : w.heap.size ≤ (w2.alloc (.cells #[.slice A1 n1 c1, .slice A2 n2 c2] 27)).heap.size := by have := HB2.out.size; simp; omega
      have HO2 := hide (HO.out.mono hle)
      clear ho3 hb3 hz3 hs3 hne hzw hle HX1 HY1 HZ1 HX2 HY2 HZ2 m0 m1 k0 k1 m2 m3 k2 k3
      go_wp2_with fail
      obtain ⟨⟨r0, r1⟩, _⟩ := HQ.out
      refine bodyPost_ret (v := .agg #[.slice A3 n3 c3, .bool true]) (by simp [results, Try.results26, go_sem, r0, r1]) rfl ?_
      exact ⟨A3, n3, c3, rfl, by have := HO2.out; simpa using this, HB.out⟩
  · have hJ : joinT a p b q = a ++ b := by unfold joinT; rw [if_neg hpq]
    have hpq2 : (p || q) = false := by simpa using hpq
    rw [hJ, hpq2]
    have hq : p = false ∧ q = false := by cases p <;> cases q <;> simp at hpq ⊢
    clear hJ hpq hpq2
    obtain ⟨rfl, rfl⟩ := hq
    go_enter Try.func26, Try.ntmps26
    go_upto_region 3 with fail
    generalize hWW : ((w.alloc _).alloc _).alloc _ = W at HX0 HY0 HZ0 HB0 hsz ⊢
    generalize hz : w.heap.size + 1 + 1 = z at HZ0 hsz ⊢
    generalize hy : w.heap.size + 1 = y at HY0 ⊢
    have HZ := hide hz
    have HY := hide hy
    have HS := hide hsz
    clear hz hy hsz hWW
    have nz1 : w.heap.size ≠ z := by have := HZ.out; omega
    have nz2 : y ≠ z := by have := HZ.out; have := HY.out; omega
    obtain ⟨⟨x0, x1⟩, _⟩ := HX0.out.c2
    obtain ⟨⟨y0, y1⟩, _⟩ := HY0.out.c2
    have HT2 := hide (Texts.news2 (d1 := c) (d2 := d) (HA.out.below HB0.out) (HC.out.below HB0.out) 27)
    go_wp2_with (go_at_call 39; (with_reducible refine (concat_any _ 2 2 _ _ HT2.out (by omega) (by have := HL.out; simp; omega)).mono ?_); rintro e w3 ⟨A3, n3, c3, rfl, ho3, hb3⟩
                 have HZ3 := hide ((HZ0.out.alloc (.cells #[.slice A n c, .slice C m d] 27)).below hb3)
                 obtain ⟨⟨z0, z1⟩, z2, z3⟩ := HZ3.out.c2)
    have hne : blk A3 ≠ some z := fun e => by have h1 := (ho3.blk_ge _ e).1; have h2 := (HZ0.out.alloc (.cells #[.slice A n c, .slice C m d] 27)).lt; omega
    have hzw : w.heap.size ≤ z := by have := HZ.out; omega
    have HO := hide ((ho3.far (p := ⟨z, 0, none⟩) hne (.slice A3 n3 c3)).far (p := ⟨z, 1, none⟩) hne (.bool false))
    have HB := hide ((((HB0.out.alloc HB0.out.size (.cells #[.slice A n c, .slice C m d] 27)).trans (hb3.mono (by have := HB0.out.size; simp; omega))).setCell (p := ⟨z, 0, none⟩) hzw (.slice A3 n3 c3)).setCell (p := ⟨z, 1, none⟩) hzw (.bool false))
    have HQ := hide (((HZ3.out.set 0 (.slice A3 n3 c3)).set 1 (.bool false)).c2)
    have hle : w.heap.size ≤ (W.alloc (.cells #[.slice A n c, .slice C m d] 27)).heap.size := by have := HB0.out.size; simp; omega
    obtain ⟨⟨r0, r1⟩, _⟩ := HQ.out
    refine bodyPost_ret (v := .agg #[.slice A3 n3 c3, .bool false]) (by simp [results, Try.results26, go_sem, r0, r1]) rfl ?_
    exact ⟨A3, n3, c3, rfl, by have := HO.out.mono hle; simpa using this, HB.out⟩
end Go.Proofs.Ythmchmpicncgdaa
