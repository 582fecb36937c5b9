/- Law 26: what every program answers that is one (known). -/
import Derived.Test.YthmchmpicncgdaaRegC
namespace Go.Proofs.Ythmchmpicncgdaa
open Go.RowKit Go.Maps Go.MapKept Go.ChangeMaps Go.Shelf
set_option linter.unusedVariables false

def sameG (x y : Rg) : Bool := (x.2 == y.2) && sameS x.1 y.1
set_option maxHeartbeats 1000000 in
theorem sameReg_any (A C : Option Addr) (n c m d : Nat) (p q : Bool) (a b : List Int) (w : World) (hA : Runes w A n a) (hC : Runes w C m b) (hn : n ≤ 1000000) (hm : m ≤ 1000000) :
    Calls Try.prog 20 #[.agg #[.slice A n c, .bool p], .agg #[.slice C m d, .bool q]] w fun e w' => e = .returned (.bool (sameG (a, p) (b, q))) ∧ Below w.heap.size w w' := by
  have HS := hide (refSame_any A C n c m d a b _ ((hA.alloc (.cells #[.slice A n c, .bool p] 29)).alloc (.cells #[.slice C m d, .bool q] 29)) ((hC.alloc (.cells #[.slice A n c, .bool p] 29)).alloc (.cells #[.slice C m d, .bool q] 29)) (by omega) (by omega))
  have HB := hide (((Below.refl w.heap.size w).alloc (Nat.le_refl _) (.cells #[.slice A n c, .bool p] 29)).alloc (by simp) (.cells #[.slice C m d, .bool q] 29))
  clear hA hC
  have hG : sameG (a, p) (b, q) = ((p == q) && sameS a b) := rfl
  rw [hG]
  clear hG
  cases p <;> cases q
  all_goals
    go_enter Try.func20, Try.ntmps20
    go_wp2_with (go_at_call 18; refine HS.out.mono ?_; rintro e w1 ⟨rfl, qq, rfl⟩)
    go_ret
    first
    | exact ⟨rfl, HB.out⟩
    | exact ⟨by simp, HB.out⟩
    | exact ⟨rfl, HB.out.trans ⟨rfl, rfl, rfl, Nat.le_refl _, fun _ _ => rfl⟩⟩
    | exact ⟨by simp, HB.out.trans ⟨rfl, rfl, rfl, Nat.le_refl _, fun _ _ => rfl⟩⟩

/-- Registers of the call's own. -/
structure St (w0 w : World) (p b n : Nat) (M : Int → Option Rg) : Prop where
  regs : RegsM (fun _ => True) w p b n M
  p_ : w0.heap.size ≤ p
  b_ : w0.heap.size ≤ b
  below : Below w0.heap.size w0 w
theorem St.on {w0 w w' : World} {p b n : Nat} {M : Int → Option Rg} (h : St w0 w p b n M) (hb : Below w.heap.size w w') : St w0 w' p b n M := ⟨h.regs.below hb, h.p_, h.b_, h.below.trans (hb.mono h.below.size)⟩
theorem St.set {w0 w : World} {p b n : Nat} {M : Int → Option Rg} (h : St w0 w p b n M) (r : Int) {A : Option Addr} {k c : Nat} {q : Bool} {t : List Int} (hA : Runes w A k t) (hk : k ≤ 1000000) (hn : n ≤ 1000) :
    Calls Try.prog 8 #[.pointer (some ⟨p, 0, none⟩), .int .i32 r, .agg #[.slice A k c, .bool q]] w fun e w' => e = .returned (.int .i64 (setE M r (t, q))) ∧ w.grownBy w' (some b) ∧ ∃ n', n' ≤ n + 2 ∧ St w0 w' p b n' (setM M r (t, q)) := by
  refine (rset_any p b n M r A k c q t w h.regs hA (by omega) hn fun _ _ => trivial).mono ?_
  rintro e w' ⟨h1, h2, n', h3, h4⟩
  exact ⟨h1, h2, n', h3, h4, h.p_, h.b_, h.below.grown h2 h.below.size fun k e => by cases e; exact h.b_⟩
theorem St.get {w0 w : World} {p b n : Nat} {M : Int → Option Rg} (h : St w0 w p b n M) (r : Int) {x : Rg} {is : Bool} (hx : getX M r = x) (hi : getB M r = is) :
    Calls Try.prog 17 #[.pointer (some ⟨p, 0, none⟩), .int .i32 r] w fun e w' => ∃ A k c, e = .returned (.tuple #[.agg #[.slice A k c, .bool x.2], .bool is]) ∧ Own w' w.heap.size A k c x.1 ∧ St w0 w' p b n M ∧ Below w.heap.size w w' := by
  subst hx hi
  refine (rget_any p b n M r w h.regs).mono ?_
  rintro e w' ⟨A, k, c, h1, h2, h3⟩
  exact ⟨A, k, c, h1, h2, h.on h3, h3⟩
theorem Runes.grownM {w w' : World} {A : Option Addr} {k : Nat} {t : List Int} (h : Runes w A k t) {p b n : Nat} {P : Nat → Prop} {M : Int → Option Rg} (hm : RegsM P w p b n M) (hg : w.grownBy w' (some b)) : Runes w' A k t := by
  obtain ⟨V, hV, _⟩ := hm.map
  obtain ⟨ob, ho, hn⟩ := hV.noCells
  refine h.keep fun g o ha hk => hg.block g (h.lt hk ha) fun e => ?_
  injection e with e
  subst e
  obtain ⟨g', o', ha', hc⟩ := h.at_ 0 hk
  rw [ha] at ha'
  injection ha' with ha'
  injection ha' with e1 e2
  subst e1
  simp only [World.cell?, ho] at hc
  cases ob <;> simp_all [Obj.isCells]

/-- Ascending rows of the same members are the same. -/
theorem sorted_ext : ∀ {l l' : List Int}, l.Pairwise (· < ·) → l'.Pairwise (· < ·) → (∀ x, x ∈ l ↔ x ∈ l') → l = l'
  | [], [], _, _, _ => rfl
  | [], y :: _, _, _, h => absurd ((h y).2 List.mem_cons_self) (by simp)
  | x :: _, [], _, _, h => absurd ((h x).1 List.mem_cons_self) (by simp)
  | x :: l, y :: l', h1, h2, h => by
    rw [List.pairwise_cons] at h1 h2
    have e : x = y := by
      have hx := (h x).1 List.mem_cons_self
      have hy := (h y).2 List.mem_cons_self
      rw [List.mem_cons] at hx hy
      rcases hx with e | hx
      · exact e
      · rcases hy with e | hy
        · exact e.symm
        · have := h1.1 y hy
          have := h2.1 x hx
          omega
    subst e
    rw [sorted_ext h1.2 h2.2 fun z => by
      have hz := h z
      rw [List.mem_cons, List.mem_cons] at hz
      constructor
      · intro hm
        rcases hz.1 (.inr hm) with e | e
        · have := h1.1 z hm; omega
        · exact e
      · intro hm
        rcases hz.2 (.inr hm) with e | e
        · have := h2.1 z hm; omega
        · exact e]
theorem nodup_le : ∀ {l k : List Int}, l.Nodup → (∀ x, x ∈ l → x ∈ k) → l.length ≤ k.length
  | [], _, _, _ => Nat.zero_le _
  | x :: l, k, h, hk => by
    rw [List.nodup_cons] at h
    have hx := hk x List.mem_cons_self
    have := nodup_le (k := k.erase x) h.2 fun y hy => (List.mem_erase_of_ne (fun e => h.1 (by rw [← e]; exact hy))).2 (hk y (List.mem_cons_of_mem _ hy))
    have h3 := List.length_erase_of_mem hx
    have h4 := List.length_pos_of_mem hx
    simp only [List.length_cons]
    omega

def kM0 : Int → Option Rg := fun _ => none
def kM1 : Int → Option Rg := setM kM0 97 ([120], false)
def kM2 : Int → Option Rg := setM kM1 65 ([121, 10], true)
theorem kE1 : setE kM0 97 ([120], false) = 0 := by decide
theorem kE2 : setE kM1 65 ([121, 10], true) = 0 := by decide
theorem kM2_eq (s : Int) : kM2 s = if s = 0 ∨ s = 97 then some ([120, 10, 121, 10], true) else none := by
  have h1 : kM1 = updR (updR kM0 97 ([120], false)) 0 ([120], false) := by unfold kM1 setM; rw [if_pos kE1]; rfl
  have h2 : kM2 = updR (updR kM1 97 ([120, 10, 121, 10], true)) 0 ([120, 10, 121, 10], true) := by
    unfold kM2 setM
    rw [if_pos kE2]
    have e1 : ownN 65 = 97 := by decide
    have e2 : setX kM1 65 ([121, 10], true) = ([120, 10, 121, 10], true) := by decide
    rw [e1, e2]
  rw [h2, h1]
  unfold updR kM0
  by_cases e0 : s = 0
  · rw [if_pos e0, if_pos (.inl e0)]
  · by_cases e1 : s = 97
    · rw [if_neg e0, if_pos e1, if_pos (.inr e1)]
    · rw [if_neg e0, if_neg e1, if_neg e0, if_neg e1, if_neg (by omega)]
theorem kX97 : getX kM2 97 = ([120, 10, 121, 10], true) := by decide
theorem kB97 : getB kM2 97 = true := by decide
theorem kX0 : getX kM2 0 = ([120, 10, 121, 10], true) := by decide
theorem kB0 : getB kM2 0 = true := by decide
theorem kN (l : List Int) (h : NamesL kM2 l) : l = [0, 97] := sorted_ext h.1 (by simp) fun x => by
  rw [h.2 x, kM2_eq]
  by_cases e : x = 0 ∨ x = 97
  · rw [if_pos e]
    simp [I32]
    omega
  · rw [if_neg e]
    simp
    omega
theorem kS (l : List Int) (h1 : l.Nodup) (h2 : ∀ x, x ∈ l → (kM2 x).isSome = true) : SortsAt l.length := sorts_small (by
  have := nodup_le (k := [0, 97]) h1 fun x hx => by
    have := h2 x hx
    rw [kM2_eq] at this
    by_cases e : x = 0 ∨ x = 97
    · simpa using e
    · rw [if_neg e] at this; cases this
  simp at this
  omega)

theorem newsK {w : World} {g : Nat} (hg : w.heap.size = g) (cs : Array Value) (t : TypeId) (l : List Int) (h : cs = (cells32 l).toArray) (hw : W32 l) : Runes (w.alloc (.cells cs t)) (some ⟨g, 0, none⟩) l.length l := by
  subst hg
  exact Runes.news w cs t l h hw

set_option maxRecDepth 100000 in
set_option maxHeartbeats 4000000 in
theorem known_any (w : World) : Calls Try.prog 14 #[] w fun e w' => e = .returned (.bool true) ∧ Below w.heap.size w w' := by
  go_enter Try.func14, Try.ntmps14
  go_wp2_with fail
  refine (rnew_any (fun _ => True) _).mono ?_
  rintro e w1 ⟨p, b, rfl, hm, hp, hb, hbe⟩
  have HS1 := hide (show St w w1 p b 0 kM0 from ⟨hm, hp, hb, hbe⟩)
  clear hm hp hb hbe
  go_wp2_with fail
  refine (HS1.out.get 0 (x := ([], false)) (is := false) (by decide) (by decide)).mono ?_
  rintro e w2 ⟨A2, k2, c2, rfl, ho2, hs2, hb2⟩
  have HS2 := hide (hs2.on ((Below.refl w2.heap.size w2).alloc (Nat.le_refl _) (.cells #[.slice A2 k2 c2, .bool false] 29)))
  clear ho2 hs2 hb2 HS1
  go_wp2_with fail
  have h3 : (w2.alloc (.cells #[.slice A2 k2 c2, .bool false] 29)).heap.size = w2.heap.size + 1 := by simp
  generalize w2.alloc (.cells #[.slice A2 k2 c2, .bool false] 29) = w3 at HS2 h3 ⊢
  have HC3 := hide ((HS2.out.on ((Below.refl w3.heap.size w3).alloc (Nat.le_refl _) (.cells #[.int .i32 120] 21))).set 97 (q := false) (c := 1) (newsK h3 #[.int .i32 120] 21 [120] rfl (W32.one (by omega))) (by simp) (by omega))
  rw [show setE kM0 97 ([120], false) = 0 from kE1] at HC3
  refine HC3.out.mono ?_
  rintro e w4 ⟨rfl, -, n4, hn4, hs4⟩
  have HS4 := hide (show St w w4 p b n4 kM1 from hs4)
  clear hs4 HC3 HS2 h3
  go_wp2_with fail
  have HC4 := hide ((HS4.out.on ((Below.refl w4.heap.size w4).alloc (Nat.le_refl _) (.cells #[.int .i32 121, .int .i32 10] 21))).set 65 (q := true) (c := 2) (newsK rfl #[.int .i32 121, .int .i32 10] 21 [121, 10] rfl (by intro x hx; simp at hx; omega)) (by simp) (by omega))
  rw [show setE kM1 65 ([121, 10], true) = 0 from kE2] at HC4
  refine HC4.out.mono ?_
  rintro e w5 ⟨rfl, -, n5, hn5, hs5⟩
  have HS5 := hide (show St w w5 p b n5 kM2 from hs5)
  clear hs5 HC4 HS4
  go_wp2_with fail
  refine (HS5.out.get 97 kX97 kB97).mono ?_
  rintro e w6 ⟨A6, k6, c6, rfl, ho6, hs6, hb6⟩
  have hk6 : k6 = 4 := by rw [← ho6.len]; rfl
  subst hk6
  have hb7 := (Below.refl w6.heap.size w6).alloc (Nat.le_refl _) (.cells #[.slice A6 4 c6, .bool true] 29)
  have HS7 := hide (hs6.on hb7)
  have HR7 := hide (ho6.runes.below hb7)
  have HX7 := hide (Box.new w6 29 #[.slice A6 4 c6, .bool true])
  clear ho6 hs6 hb6 hb7 HS5
  go_wp2_with fail
  generalize w6.alloc (.cells #[.slice A6 4 c6, .bool true] 29) = w7 at HS7 HR7 HX7 ⊢
  generalize w6.heap.size = g6 at HX7 ⊢
  refine (HS7.out.get 0 kX0 kB0).mono ?_
  rintro e w8 ⟨A8, k8, c8, rfl, ho8, hs8, hb8⟩
  have hk8 : k8 = 4 := by rw [← ho8.len]; rfl
  subst hk8
  have hb9 := (Below.refl w8.heap.size w8).alloc (Nat.le_refl _) (.cells #[.slice A8 4 c8, .bool true] 29)
  have HS9 := hide (hs8.on hb9)
  have HR9 := hide (ho8.runes.below hb9)
  have HX9 := hide (Box.new w8 29 #[.slice A8 4 c8, .bool true])
  have HR79 := hide ((HR7.out.below hb8).below hb9)
  have HX79 := hide ((HX7.out.below hb8).below hb9)
  clear ho8 hs8 hb8 hb9 HS7 HR7 HX7
  go_wp2_with fail
  generalize w8.alloc (.cells #[.slice A8 4 c8, .bool true] 29) = w9 at HS9 HR9 HX9 HR79 HX79 ⊢
  generalize w8.heap.size = g8 at HX9 ⊢
  refine (names_any p b n5 kM2 w9 HS9.out.regs (by omega) kS).mono ?_
  rintro e w10 ⟨A10, k10, c10, l10, rfl, ho10, hn10, hb10⟩
  obtain rfl := kN l10 hn10
  have hk10 : k10 = 2 := by rw [← ho10.len]; rfl
  subst hk10
  have HS10 := hide (HS9.out.on hb10)
  have HR10 := hide ho10.runes
  have HR8 := hide (HR9.out.below hb10)
  have HX8 := hide (HX9.out.below hb10)
  have HR6 := hide (HR79.out.below hb10)
  have HX6 := hide (HX79.out.below hb10)
  clear ho10 hn10 hb10 HS9 HR9 HX9 HR79 HX79
  obtain ⟨⟨x0, x1⟩, -⟩ := HX6.out.c2
  obtain ⟨⟨y0, y1⟩, -⟩ := HX8.out.c2
  go_wp2_with fail
  have HRL := hide (Runes.news w10 #[.int .i32 120, .int .i32 10, .int .i32 121, .int .i32 10] 21 [120, 10, 121, 10] rfl (by intro x hx; simp at hx; omega))
  have HB10 := hide ((Below.refl w10.heap.size w10).alloc (Nat.le_refl _) (.cells #[.int .i32 120, .int .i32 10, .int .i32 121, .int .i32 10] 21))
  refine (refSame_any A6 _ 4 c6 4 4 [120, 10, 121, 10] [120, 10, 121, 10] _ (HR6.out.below HB10.out) HRL.out (by omega) (by omega)).mono ?_
  rw [show sameS [120, 10, 121, 10] [120, 10, 121, 10] = true from by decide]
  rintro e w11 ⟨rfl, q11, h11⟩
  have hb11 : Below w10.heap.size w10 w11 := HB10.out.trans (by rw [h11]; exact ⟨rfl, rfl, rfl, Nat.le_refl _, fun _ _ => rfl⟩)
  have HS11 := hide (HS10.out.on hb11)
  have HR10b := hide (HR10.out.below hb11)
  have HR8b := hide (HR8.out.below hb11)
  have HR6b := hide (HR6.out.below hb11)
  obtain ⟨⟨x0, x1⟩, -⟩ := (HX6.out.below hb11).c2
  obtain ⟨⟨y0, y1⟩, -⟩ := (HX8.out.below hb11).c2
  clear h11 hb11 HRL HB10 HS10 HR10 HR8 HR6 HX6 HX8
  go_wp2_with fail
  refine (sameReg_any A6 A8 4 c6 4 c8 true true [120, 10, 121, 10] [120, 10, 121, 10] _ HR6b.out HR8b.out (by omega) (by omega)).mono ?_
  rw [show sameG ([120, 10, 121, 10], true) ([120, 10, 121, 10], true) = true from by decide]
  rintro e w12 ⟨rfl, hb12⟩
  have HS12 := hide (HS11.out.on hb12)
  obtain ⟨ab, ao, rfl, hc⟩ := (HR10b.out.below hb12).at_ 1 (by omega)
  have hc2 : w12.cell? ⟨ab, ao + 1, none⟩ = some (.int .i32 97) := hc
  clear hb12 hc x0 x1 y0 y1 HR6b HR8b HR10b HS11
  go_wp2_with fail
  refine (rset_not p 49 none 0 0 false w12 (by decide)).mono ?_
  rintro e w13 ⟨rfl, hb13⟩
  have HS13 := hide (HS12.out.on hb13)
  clear hb13 hc2 HS12
  go_wp2_with fail
  refine (rset_nil 0 none 0 0 false w13 (by decide)).mono ?_
  rintro e w14 ⟨rfl, hb14⟩
  have HS14 := hide (HS13.out.on hb14)
  clear hb14 HS13
  go_wp2_with fail
  refine (copy_nil w14).mono ?_
  rintro e w15 ⟨rfl, rfl⟩
  go_wp2_with fail
  go_ret
  exact ⟨rfl, HS14.out.below⟩
end Go.Proofs.Ythmchmpicncgdaa
