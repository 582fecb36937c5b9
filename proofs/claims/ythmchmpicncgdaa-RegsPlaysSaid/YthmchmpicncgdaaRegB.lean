/- Registers: New, Get, Set. -/
import Derived.Test.YthmchmpicncgdaaRegA
namespace Go.Proofs.Ythmchmpicncgdaa
open Go.RowKit Go.Maps Go.MapKept Go.ChangeMaps
set_option linter.unusedVariables false
variable {P : Nat → Prop}

/-- What a register holds: a text, whether it is whole lines. -/
abbrev Rg : Type := List Int × Bool
/-- A value is what a register holds. -/
structure RegV (P : Nat → Prop) (w : World) (v : Value) (x : Rg) : Prop where
  ex : ∃ A n c, v = .agg #[.slice A n c, .bool x.2] ∧ Runes w A n x.1
  le : x.1.length ≤ 1000
  off : ∀ A n c b, v = .agg #[.slice A n c, .bool b] → 0 < n → ∀ g, blk A = some g → P g
/-- The map V reads as the registers M. -/
def Rds (P : Nat → Prop) (w : World) (V : Int → Option Value) (M : Int → Option Rg) : Prop := ∀ r, I32 r → (∀ x, M r = some x → ∃ v, V r = some v ∧ RegV P w v x) ∧ (M r = none → V r = none)
/-- Registers at p, their map at b. -/
structure RegsM (P : Nat → Prop) (w : World) (p b n : Nat) (M : Int → Option Rg) : Prop where
  box : Box w p 56 #[.map (some b)]
  map : ∃ V, MapM w b n V ∧ Rds P w V M
section
variable {w w' : World} {p b n : Nat} {M : Int → Option Rg} {v : Value} {x : Rg}
theorem off_own {B n c : Nat} {A : Option Addr} {l : List Int} {q : Bool} (h : Own w B A n c l) (hP : ∀ g, B ≤ g → P g) : ∀ A' n' c' b', Value.agg #[.slice A n c, .bool q] = .agg #[.slice A' n' c', .bool b'] → 0 < n' → ∀ g, blk A' = some g → P g := fun A' n' c' b' e _ g hg => by
  injection e with e
  have e1 := congrArg (fun a : Array Value => a.toList) e
  simp at e1
  obtain ⟨⟨rfl, rfl, rfl⟩, rfl⟩ := e1
  exact hP g (h.blk_ge g hg).1
theorem RegV.below (h : RegV P w v x) (hb : Below w.heap.size w w') : RegV P w' v x := by
  obtain ⟨A, n, c, h1, h2⟩ := h.ex
  exact ⟨⟨A, n, c, h1, h2.below hb⟩, h.le, h.off⟩
theorem Rds.below {V : Int → Option Value} (h : Rds P w V M) (hb : Below w.heap.size w w') : Rds P w' V M := fun r hr => ⟨fun x hx => by
    obtain ⟨v, h3, h4⟩ := (h r hr).1 x hx
    exact ⟨v, h3, h4.below hb⟩, (h r hr).2⟩
theorem RegsM.below (h : RegsM P w p b n M) (hb : Below w.heap.size w w') : RegsM P w' p b n M := by
  obtain ⟨V, h1, h2⟩ := h.map
  exact ⟨h.box.below hb, V, h1.below hb, h2.below hb⟩
theorem RegsM.lt (h : RegsM P w p b n M) : p < w.heap.size ∧ b < w.heap.size := by
  obtain ⟨V, h1, h2⟩ := h.map
  exact ⟨h.box.lt, h1.lt⟩
theorem RegsM.ne (h : RegsM P w p b n M) : p ≠ b := by
  obtain ⟨V, h1, h2⟩ := h.map
  exact h1.ne_box h.box
/-- Only the map's block has turned. -/
theorem RegV.grown (h : RegV P w v x) {V : Int → Option Value} (hm : MapM w b n V) (hg : w.grownBy w' (some b)) : RegV P w' v x := by
  obtain ⟨A, k, c, h1, h2⟩ := h.ex
  refine ⟨⟨A, k, c, h1, h2.keep fun g o ha hk => hg.block g (h2.lt hk ha) fun e => ?_⟩, h.le, h.off⟩
  injection e with e
  subst e
  obtain ⟨g', o', ha', hc⟩ := h2.at_ 0 hk
  rw [ha] at ha'
  injection ha' with ha'
  injection ha' with e1 e2
  subst e1
  obtain ⟨ob, ho, hn⟩ := hm.noCells
  simp only [World.cell?, ho] at hc
  cases ob <;> simp_all [Obj.isCells]
end

set_option maxHeartbeats 400000 in
theorem rnew_any (P : Nat → Prop) (w : World) : Calls Try.prog 6 #[] w fun e w' => ∃ p b, e = .returned (.pointer (some ⟨p, 0, none⟩)) ∧ RegsM P w' p b 0 (fun _ => none) ∧ w.heap.size ≤ p ∧ w.heap.size ≤ b ∧ Below w.heap.size w w' := by
  have HB := hide (((Below.refl w.heap.size w).alloc (Nat.le_refl _) (.map #[] 0)).alloc (by simp) (.cells #[.map (some w.heap.size)] 56))
  have HM := hide ((MapM.new w).alloc (.cells #[.map (some w.heap.size)] 56))
  have HX := hide (Box.newAt (World.size_alloc w (.map #[] 0)) 56 #[.map (some w.heap.size)])
  have hmk := run_makeMap (P := Try.prog) 54 w
  go_enter Try.func6, Try.ntmps6
  go_wp2_with fail
  go_ret
  exact ⟨_, _, rfl, ⟨HX.out, _, HM.out, fun r hr => ⟨fun x h => (nomatch h), fun _ => rfl⟩⟩, by omega, Nat.le_refl _, HB.out⟩

/-- What Get answers. -/
def getX (M : Int → Option Rg) (r : Int) : Rg := if okN r then (M (ownN r)).getD ([], false) else ([], false)
def getB (M : Int → Option Rg) (r : Int) : Bool := if okN r then (M (ownN r)).isSome else false
def GetR (w : World) (x : Rg) (is : Bool) (e : Ending) (w' : World) : Prop :=
  ∃ A n c, e = .returned (.tuple #[.agg #[.slice A n c, .bool x.2], .bool is]) ∧ Own w' w.heap.size A n c x.1 ∧ Below w.heap.size w w'

set_option maxHeartbeats 1000000 in
theorem rget_no (pv : Option Addr) (r : Int) (w : World) (h : ¬ okN r) :
    Calls Try.prog 17 #[.pointer pv, .int .i32 r] w (GetR w ([], false) false) := by
  have N1 := hide (fun W => named_not r W h)
  have HB := hide ((Below.refl w.heap.size w).alloc (Nat.le_refl _) (.cells #[.slice none 0 0, .bool false] 29))
  have HX := hide (Box.new w 29 #[.slice none 0 0, .bool false])
  clear h
  cases pv
  all_goals
    go_enter Try.func17, Try.ntmps17
    go_wp2_with (go_at_call 24; refine (N1.out _).mono ?_; rintro e w1 ⟨rfl, rfl⟩)
    obtain ⟨⟨r0, r1⟩, _⟩ := HX.out.c2
    refine bodyPost_ret (v := .tuple #[.agg #[.slice none 0 0, .bool false], .bool false]) (by simp [results, Try.results17, go_sem, r0, r1]) rfl ?_
    exact ⟨none, 0, 0, rfl, Own.nil _ _, HB.out⟩

set_option maxHeartbeats 1000000 in
theorem rget_ok (p b n : Nat) (M : Int → Option Rg) (r : Int) (w : World) (h : okN r) (hm : RegsM P w p b n M) :
    Calls Try.prog 17 #[.pointer (some ⟨p, 0, none⟩), .int .i32 r] w (GetR w ((M (ownN r)).getD ([], false)) (M (ownN r)).isSome) := by
  have N1 := hide (fun W => named_ok r W h)
  have hI : I32 (ownN r) := by have := ownN_ok h; unfold I32; omega
  generalize ownN r = o at N1 hI ⊢
  generalize capN r = cp at N1
  have HB := hide ((Below.refl w.heap.size w).alloc (Nat.le_refl _) (.cells #[.slice none 0 0, .bool false] 29))
  have HX := hide (Box.new w 29 #[.slice none 0 0, .bool false])
  have hm1 := hm.below ((Below.refl w.heap.size w).alloc (Nat.le_refl _) (.cells #[.slice none 0 0, .bool false] 29))
  generalize hWW : w.alloc _ = W at HB HX hm1
  obtain ⟨V, hV, hR⟩ := hm1.map
  have hbx := hm1.box.cell 0
  clear h hm
  cases hMo : M o with
  | none =>
    have hlk := hV.look_no hI ((hR o hI).2 hMo)
    have hX2 := hide (HX.out.alloc (.cells #[.slice none 0 0, .bool false] 29))
    have hB2 := hide (HB.out.alloc HB.out.size (.cells #[.slice none 0 0, .bool false] 29))
    go_enter Try.func17, Try.ntmps17
    go_wp2_with (first
      | (go_at_call 24; refine (N1.out _).mono ?_; rintro e w1 ⟨rfl, rfl⟩)
      | (go_at_call 27; refine (rcopied_any none 0 0 false [] _ (Runes.nil _ _) (by omega)).mono ?_; rintro e w2 ⟨A2, n2, c2, rfl, ho2, hb2⟩
         have HX3 := hide (hX2.out.below hb2)
         obtain ⟨⟨z0, z1⟩, z2, z3⟩ := HX3.out.c2))
    have hne : blk A2 ≠ some w.heap.size := fun e => by have h1 := (ho2.blk_ge _ e).1; have h2 := hX2.out.lt; omega
    have HO := hide ((ho2.far (p := ⟨w.heap.size, 0, none⟩) hne (.slice A2 n2 c2)).far (p := ⟨w.heap.size, 1, none⟩) hne (.bool false))
    have HB2 := hide (((hB2.out.trans (hb2.mono hB2.out.size)).setCell (p := ⟨w.heap.size, 0, none⟩) (Nat.le_refl _) (.slice A2 n2 c2)).setCell (p := ⟨w.heap.size, 1, none⟩) (Nat.le_refl _) (.bool false))
    have HQ := hide (((HX3.out.set 0 (.slice A2 n2 c2)).set 1 (.bool false)).c2)
    have hle := hB2.out.size
    obtain ⟨⟨r0, r1⟩, _⟩ := HQ.out
    refine bodyPost_ret (v := .tuple #[.agg #[.slice A2 n2 c2, .bool false], .bool false]) (by simp [results, Try.results17, go_sem, r0, r1]) rfl ?_
    exact ⟨A2, n2, c2, rfl, HO.out.mono hle, HB2.out⟩
  | some x =>
    obtain ⟨v, hv, hrv⟩ := (hR o hI).1 x hMo
    obtain ⟨⟨A, k, c, rfl, hrd⟩, hle⟩ := hrv
    have hlk := hV.look_yes hI hv
    obtain ⟨t, q⟩ := x
    dsimp only at hlk hrd hle ⊢
    have HC := hide (fun W' (hb : Below W.heap.size W W') => rcopied_any A k c q t W' (hrd.below hb) (by have := hrd.len; omega))
    have hX2 := hide (HX.out.alloc (.cells #[.slice A k c, .bool q] 29))
    have hB2 := hide (HB.out.alloc HB.out.size (.cells #[.slice A k c, .bool q] 29))
    have hB3 := hide ((Below.refl W.heap.size W).alloc (Nat.le_refl _) (.cells #[.slice A k c, .bool q] 29))
    clear hrd hle hv hMo
    go_enter Try.func17, Try.ntmps17
    go_wp2_with (first
      | (go_at_call 24; refine (N1.out _).mono ?_; rintro e w1 ⟨rfl, rfl⟩)
      | (go_at_call 27; refine (HC.out _ hB3.out).mono ?_; rintro e w2 ⟨A2, n2, c2, rfl, ho2, hb2⟩
         have HX3 := hide (hX2.out.below hb2)
         obtain ⟨⟨z0, z1⟩, z2, z3⟩ := HX3.out.c2))
    have hne : blk A2 ≠ some w.heap.size := fun e => by have h1 := (ho2.blk_ge _ e).1; have h2 := hX2.out.lt; omega
    have HO := hide ((ho2.far (p := ⟨w.heap.size, 0, none⟩) hne (.slice A2 n2 c2)).far (p := ⟨w.heap.size, 1, none⟩) hne (.bool q))
    have HB2 := hide (((hB2.out.trans (hb2.mono hB2.out.size)).setCell (p := ⟨w.heap.size, 0, none⟩) (Nat.le_refl _) (.slice A2 n2 c2)).setCell (p := ⟨w.heap.size, 1, none⟩) (Nat.le_refl _) (.bool q))
    have HQ := hide (((HX3.out.set 0 (.slice A2 n2 c2)).set 1 (.bool q)).c2)
    have hle := hB2.out.size
    obtain ⟨⟨r0, r1⟩, _⟩ := HQ.out
    refine bodyPost_ret (v := .tuple #[.agg #[.slice A2 n2 c2, .bool q], .bool true]) (by simp [results, Try.results17, go_sem, r0, r1]) rfl ?_
    exact ⟨A2, n2, c2, rfl, HO.out.mono hle, HB2.out⟩

theorem step_storeM {ops : Array Oper} {o : Oper} {a : Act} {K : Act → World → Prop} {Q : Exit → Act → World → Prop} {E : Prop} {w : World} {b n : Nat} {M : Int → Option Value} (hg : o.guard = none) (m x v : Operand) (hop : o.op = Op.mapUpdate 54 m x v) {r : Int} (hr : I32 r) {val : Value}
    (hm : a.eval m = .map (some b)) (hx : a.eval x = .int .i32 r) (hv : a.eval v = val) (h : MapM w b n M) (hn : n < maxLen)
    (hK : ∀ w', MapM w' b (plusN M r n) (updM M r (some val)) → w.grownBy w' (some b) → w'.heap.size = w.heap.size → K (a.put o.dst undef) w') :
    if Region.wanted o (yielded ops a.tmps) = true then Oper.wp Try.prog o a w K Q else E := by
  have hw : Region.wanted o (yielded ops a.tmps) = true := by simp [Region.wanted, hg]
  rw [if_pos hw]
  obtain ⟨w', hrun, r1, r2, r3⟩ := h.store hr val hn
  unfold Oper.wp
  simp [execOp, hop, hm, hx, hv, hrun, Result.andThen]
  exact hK w' r1 r2 r3

def updR (M : Int → Option Rg) (r : Int) (v : Rg) (s : Int) : Option Rg := if s = r then some v else M s
/-- What Set lays down. -/
def setX (M : Int → Option Rg) (r : Int) (x : Rg) : Rg := if capN r then (match M (ownN r) with | some y => (joinT y.1 y.2 x.1 x.2, y.2 || x.2) | none => x) else x
def setE (M : Int → Option Rg) (r : Int) (x : Rg) : Int := if ¬ okN r then 2 else if mayS x.1 = false then 1 else if 1000 < x.1.length then 3 else if 1000 < (setX M r x).1.length then 3 else 0
def setM (M : Int → Option Rg) (r : Int) (x : Rg) : Int → Option Rg := if setE M r x = 0 then updR (updR M (ownN r) (setX M r x)) 0 (setX M r x) else M
/-- What Set leaves. -/
def SetR (P : Nat → Prop) (w : World) (p b n : Nat) (M : Int → Option Rg) (r : Int) (x : Rg) (e : Ending) (w' : World) : Prop :=
  e = .returned (.int .i64 (setE M r x)) ∧ w.grownBy w' (some b) ∧ ∃ n', n' ≤ n + 2 ∧ RegsM P w' p b n' (setM M r x)

theorem grown_of_below {w w' : World} {row : Option Nat} (h : Below w.heap.size w w') : w.grownBy w' row := ⟨h.os, h.tape, h.output, h.size, fun k hk _ => h.block k hk⟩
theorem plusN_le (M : Int → Option Value) (r : Int) (n : Nat) : plusN M r n ≤ n + 1 := by unfold plusN; split <;> omega
theorem RegsM.put {w w' : World} {p b n n' : Nat} {M : Int → Option Rg} {V : Int → Option Value} {r : Int} {x : Rg} {v : Value} (hr : I32 r)
    (hb : Box w p 56 #[.map (some b)]) (hV : MapM w b n V) (hR : Rds P w V M)
    (hv : RegV P w v x) (hV' : MapM w' b n' (updM V r (some v))) (hg : w.grownBy w' (some b)) :
    Box w' p 56 #[.map (some b)] ∧ Rds P w' (updM V r (some v)) (updR M r x) := by
  refine ⟨?_, fun s hs => ⟨fun x' hx' => ?_, fun hx' => ?_⟩⟩
  · have hne := hV.ne_box hb
    unfold Box at hb ⊢
    exact (hg.block p (Array.getElem?_eq_some_iff.1 hb).1 fun e => hne (by injection e)).trans hb
  · unfold updR at hx'
    unfold updM
    by_cases e : s = r
    · rw [if_pos e] at hx' ⊢
      injection hx' with hx'
      subst hx'
      exact ⟨v, rfl, hv.grown hV hg⟩
    · rw [if_neg e] at hx' ⊢
      obtain ⟨v', h1, h2⟩ := (hR s hs).1 x' hx'
      exact ⟨v', h1, h2.grown hV hg⟩
  · unfold updR at hx'
    unfold updM
    by_cases e : s = r
    · rw [if_pos e] at hx'
      cases hx'
    · rw [if_neg e] at hx' ⊢
      exact (hR s hs).2 hx'

set_option maxRecDepth 100000 in
set_option maxHeartbeats 2000000 in
theorem rset_ok (p b n : Nat) (M : Int → Option Rg) (r : Int) (A : Option Addr) (k c : Nat) (q : Bool) (t : List Int) (w : World) (hok : okN r) (hmay : mayS t = true) (hk : k ≤ 1000) (hm : RegsM P w p b n M) (hA : Runes w A k t) (hn : n ≤ 1000) (hP : ∀ g, w.heap.size ≤ g → P g) :
    Calls Try.prog 8 #[.pointer (some ⟨p, 0, none⟩), .int .i32 r, .agg #[.slice A k c, .bool q]] w fun e w' => (e = .returned (.int .i64 3) ∧ 1000 < (setX M r (t, q)).1.length ∧ Below w.heap.size w w') ∨
      (e = .returned (.int .i64 0) ∧ (setX M r (t, q)).1.length ≤ 1000 ∧ w.grownBy w' (some b) ∧ ∃ n', n' ≤ n + 2 ∧ RegsM P w' p b n' (updR (updR M (ownN r) (setX M r (t, q))) 0 (setX M r (t, q)))) := by
  have HPP := hide hP
  clear hP
  have N1 := hide (fun W => named_ok r W hok)
  have hI : I32 (ownN r) := by have := ownN_ok hok; unfold I32; omega
  have hX : setX M r (t, q) = if capN r then (match M (ownN r) with | some y => (joinT y.1 y.2 t q, y.2 || q) | none => (t, q)) else (t, q) := rfl
  generalize setX M r (t, q) = X at hX ⊢
  generalize ownN r = o at N1 hI hX ⊢
  generalize capN r = cp at N1 hX
  have hB1 := (Below.refl w.heap.size w).alloc (Nat.le_refl _) (.cells #[.slice A k c, .bool q] 29)
  have hX1 := Box.new w 29 #[.slice A k c, .bool q]
  have hs1 : (w.alloc (.cells #[.slice A k c, .bool q] 29)).heap.size = w.heap.size + 1 := by simp
  have hA1 := hA.below hB1
  have hM1 := hm.below hB1
  have MY := hide (fun W (hb : Below w.heap.size w W) => may_any A k c t W (hA.below hb) (by omega))
  rw [hmay] at MY
  obtain ⟨V, hV, hR⟩ := hM1.map
  have hbx := hM1.box.cell 0
  have hbx1 := hM1.box
  have hlen := hA.len
  have HM := hide hm
  have HH := hide (And.intro hX1 (And.intro hA1 (And.intro hM1 hB1)))
  have HR := hide hR
  have HXX := hide hX
  have HI := hide hI
  have hdk : decide ((1000 : Int) < (k : Int)) = false := by simp; omega
  clear hok hmay hm hA hX1 hA1 hM1 hX hR hlen
  generalize hWW : w.alloc (.cells #[.slice A k c, .bool q] 29) = W1 at hB1 hs1 hV HR hbx hbx1 HH
  have HL : ∃ A0 k0 c0 q0 is, (Instr.lookup 54 (.map (some b)) (.int .i32 o) true).run Try.prog W1 = .ok (.tuple #[.agg #[.slice A0 k0 c0, .bool q0], .bool is]) W1 ∧
      Hid ((is = true ∧ ∃ y : Rg, M o = some y ∧ y.2 = q0 ∧ Runes W1 A0 k0 y.1 ∧ y.1.length ≤ 1000) ∨ (is = false ∧ M o = none)) := by
    cases hMo : M o with
    | none => exact ⟨none, 0, 0, false, false, hV.look_no HI.out ((HR.out o HI.out).2 hMo), .inr ⟨rfl, rfl⟩⟩
    | some y =>
      obtain ⟨v, hv, ⟨A0, k0, c0, rfl, hrd⟩, hle⟩ := (HR.out o HI.out).1 y hMo
      exact ⟨A0, k0, c0, y.2, true, hV.look_yes HI.out hv, .inl ⟨rfl, y, rfl, rfl, hrd, hle⟩⟩
  obtain ⟨A0, k0, c0, q0, is, hlk, HL⟩ := HL
  have HV := hide hV
  have HB1 := hide hB1
  clear hV hbx1 hs1 hB1
  obtain ⟨⟨c5, c6⟩, c7⟩ := HH.out.1.c2
  cases cp
  all_goals
    go_enter Try.func8, Try.ntmps8
    go_upto_if 46 with (first
      | (go_at_call 24; refine (N1.out _).mono ?_; rintro e w1 ⟨rfl, rfl⟩)
      | (go_at_call 25; refine (MY.out _ HB1.out).mono ?_; rintro e w1 ⟨rfl, rfl⟩))
    go_cut [] (fun wx => ∃ A5 k5 c5, Box wx w.heap.size 29 #[.slice A5 k5 c5, .bool X.2] ∧ Runes wx A5 k5 X.1 ∧ Below w.heap.size w wx)
    case first =>
      first
      | (have hX : X = (t, q) := HXX.out
         subst hX
         go_wp2_with fail
         go_meet
         exact ⟨A, k, c, HH.out.1.alloc _, HH.out.2.1.alloc _, HB1.out.alloc HB1.out.size _⟩)
      | (cases is
         · have hX : X = (t, q) := by
             rcases HL.out with ⟨h, _⟩ | ⟨_, h⟩
             · cases h
             · have := HXX.out
               rw [h] at this
               exact this
           subst hX
           go_wp2_with fail
           go_meet
           exact ⟨A, k, c, HH.out.1.alloc _, HH.out.2.1.alloc _, HB1.out.alloc HB1.out.size _⟩
         · have hy : ∃ y : Rg, M o = some y ∧ y.2 = q0 ∧ Runes W1 A0 k0 y.1 ∧ y.1.length ≤ 1000 := by
             rcases HL.out with ⟨_, h⟩ | ⟨h, _⟩
             · exact h
             · cases h
           obtain ⟨⟨ty, qy⟩, hMo, h0, hr0, hl0⟩ := hy
           dsimp only at h0 hr0 hl0
           subst h0
           have hX : X = (joinT ty qy t q, qy || q) := by
             have := HXX.out
             rw [hMo] at this
             exact this
           subst hX
           have HJ := hide (joined_any A0 A k0 c0 k c qy q ty t _ (hr0.alloc (.cells #[.slice A0 k0 c0, .bool qy] 29)) (HH.out.2.1.alloc (.cells #[.slice A0 k0 c0, .bool qy] 29)) (by have := hr0.len; omega) (by omega))
           have HX5 := hide (HH.out.1.alloc (.cells #[.slice A0 k0 c0, .bool qy] 29))
           have HB5 := hide (HB1.out.alloc HB1.out.size (.cells #[.slice A0 k0 c0, .bool qy] 29))
           obtain ⟨⟨y0, y1⟩, y2, y3⟩ := HX5.out.c2
           clear hr0 hl0 hMo
           go_wp2_with (go_at_call 26; (with_reducible refine HJ.out.mono ?_); rintro e w2 ⟨A2, n2, c2, rfl, ho2, hb2⟩
                        have HX6 := hide (HX5.out.below hb2)
                        obtain ⟨⟨z0, z1⟩, z2, z3⟩ := HX6.out.c2)
           have hne : blk A2 ≠ some w.heap.size := fun e => by have h1 := (ho2.blk_ge _ e).1; have h2 := HX5.out.lt; omega
           have HO := hide ((ho2.far (p := ⟨w.heap.size, 0, none⟩) hne (.slice A2 n2 c2)).far (p := ⟨w.heap.size, 1, none⟩) hne (.bool (qy || q)))
           have HB2 := hide (((HB5.out.trans (hb2.mono HB5.out.size)).setCell (p := ⟨w.heap.size, 0, none⟩) (Nat.le_refl _) (.slice A2 n2 c2)).setCell (p := ⟨w.heap.size, 1, none⟩) (Nat.le_refl _) (.bool (qy || q)))
           have HQ := hide (((HX6.out.set 0 (.slice A2 n2 c2)).set 1 (.bool (qy || q))))
           go_meet
           exact ⟨A2, n2, c2, HQ.out, HO.out.runes, HB2.out⟩)
    case rest =>
      obtain ⟨A5, k5, c5', hx5, hr5, hb5⟩ := hcut
      have HX5 := hide hx5
      have HR5 := hide hr5
      have HB5 := hide hb5
      have hM5 := HM.out.below hb5
      have HM5 := hide hM5
      obtain ⟨p0, -⟩ := hM5.box.c1
      obtain ⟨⟨x0, x1⟩, -⟩ := hx5.c2
      have hl5 := hr5.len
      clear hx5 hr5 hb5 hM5 HH HL hlk c5 c6 c7 hbx hWW HXX HR
      by_cases hfull : 1000 < X.1.length
      · have hd5 : decide ((1000 : Int) < (k5 : Int)) = true := by simp; omega
        go_wp2_with fail
        go_ret
        exact .inl ⟨rfl, hfull, HB5.out⟩
      · have hd5 : decide ((1000 : Int) < (k5 : Int)) = false := by simp; omega
        have hpb := HM5.out.ne
        have hwb : w.heap.size ≠ b := by have := HM.out.lt; omega
        have hv5 : RegV (fun _ => True) wc (.agg #[.slice A5 k5 c5', .bool X.2]) X := ⟨⟨A5, k5, c5', rfl, HR5.out⟩, by omega, fun _ _ _ _ _ _ _ _ => trivial⟩
        have HV5 := hide hv5
        have HC5 := hide (fun W (v : RegV (fun _ => True) W (.agg #[.slice A5 k5 c5', .bool X.2]) X) => show Calls Try.prog 27 #[.agg #[.slice A5 k5 c5', .bool X.2]] W (NewG W X.1 X.2) from by
          obtain ⟨⟨A', k', c', he, hr⟩, hle⟩ := v
          injection he with he
          have e1 := congrArg (fun a : Array Value => a.toList) he
          simp at e1
          obtain ⟨rfl, rfl, rfl⟩ := e1
          exact rcopied_any _ _ _ X.2 X.1 W hr (by have := hr.len; omega))
        obtain ⟨V5, hV5, hR5⟩ := HM5.out.map
        have HVV := hide hV5
        have HRR := hide hR5
        have HPB := hide (And.intro hpb hwb)
        have HLE := hide (show X.1.length ≤ 1000 by omega)
        clear hv5 hV5 hR5 hpb hwb hfull
        go_upto_region 15 with fail
        go_region_held3 (fun w' => w'.cell? ⟨p, 0, none⟩ = some (.map (some b)) ∧ w'.cell? ⟨w.heap.size, 0, none⟩ = some (.slice A5 k5 c5') ∧ w'.cell? ⟨w.heap.size, 1, none⟩ = some (.bool X.2))
          (first | go_keep)
          (first
           | (go_at_call 27; (with_reducible refine (HC5.out _ (HV5.out.below (Below.refl _ _).drew)).mono ?_); rintro e w2 ⟨A2, n2, c2, rfl, ho2, hb2⟩
              have HB2 := hide ((Below.refl wc.heap.size wc).drew.trans hb2)
              have HO2 := hide ho2
              clear ho2 hb2
              obtain ⟨a0, -⟩ := (HM5.out.box.below HB2.out).c1
              obtain ⟨⟨a1, a2⟩, -⟩ := (HX5.out.below HB2.out).c2
              obtain ⟨w3, hrun, hm3, hg3, hs3⟩ := (HVV.out.below HB2.out).store HI.out (.agg #[.slice A2 n2 c2, .bool X.2]) (by unfold maxLen; omega)
              have HM3 := hide hm3
              have HG3 := hide hg3
              have HS3 := hide hs3
              clear hm3 hg3 hs3
              obtain ⟨b0, -⟩ := ((HM5.out.box.below HB2.out).grown HG3.out (fun e => HPB.out.1 (by injection e))).c1
              obtain ⟨⟨b1, b2⟩, -⟩ := ((HX5.out.below HB2.out).grown HG3.out (fun e => HPB.out.2 (by injection e))).c2))
        have hv2 : RegV P w2 (.agg #[.slice A2 n2 c2, .bool X.2]) X := ⟨⟨A2, n2, c2, rfl, HO2.out.runes⟩, HLE.out, off_own HO2.out fun g hg => HPP.out g (Nat.le_trans HB5.out.size hg)⟩
        obtain ⟨hbx3, hR3⟩ := RegsM.put HI.out (HM5.out.box.below HB2.out) (HVV.out.below HB2.out) (HRR.out.below HB2.out) hv2 HM3.out HG3.out
        have HV3 := hide ((HV5.out.below HB2.out).grown (HVV.out.below HB2.out) HG3.out)
        have HX3 := hide ((HX5.out.below HB2.out).grown HG3.out (fun e => HPB.out.2 (by injection e)))
        have HP3 := hide hbx3
        have HR3 := hide hR3
        have hn3 := plusN_le V5 o n
        generalize plusN V5 o n = n3 at HM3 hn3
        generalize updM V5 o _ = V3 at HM3 HR3
        have HG3' := hide ((grown_of_below (row := some b) (HB5.out.trans (HB2.out.mono HB5.out.size))).trans HG3.out)
        clear hv2 hbx3 hR3 a0 a1 a2 b0 b1 b2 hrun HG3 HB2 HM5 HO2 HX5 HB5
        obtain ⟨b0, -⟩ := HP3.out.c1
        obtain ⟨⟨b1, b2⟩, -⟩ := HX3.out.c2
        have hn4 : n3 < maxLen := by unfold maxLen; omega
        go_upto_region 16 with fail
        go_region_held3 (fun w' => w'.cell? ⟨p, 0, none⟩ = some (.map (some b)) ∧ w'.cell? ⟨w.heap.size, 0, none⟩ = some (.slice A5 k5 c5') ∧ w'.cell? ⟨w.heap.size, 1, none⟩ = some (.bool X.2))
          (first | go_keep)
          (first
           | (go_at_call 27; (with_reducible refine (HC5.out _ (HV3.out.below (Below.refl _ _).drew)).mono ?_); rintro e w4 ⟨A4, n4, c4, rfl, ho4, hb4⟩
              have HB4 := hide ((Below.refl w3.heap.size w3).drew.trans hb4)
              have HO4 := hide ho4
              clear ho4 hb4
              obtain ⟨d0, -⟩ := (HP3.out.below HB4.out).c1
              obtain ⟨⟨d1, d2⟩, -⟩ := (HX3.out.below HB4.out).c2
              obtain ⟨w5, hrun, hm5, hg5, hs5⟩ := (HM3.out.below HB4.out).store (r := 0) (by unfold I32; omega) (.agg #[.slice A4 n4 c4, .bool X.2]) hn4
              have HM6 := hide hm5
              have HG6 := hide hg5
              clear hm5 hg5 hs5
              obtain ⟨f0, -⟩ := ((HP3.out.below HB4.out).grown HG6.out (fun e => HPB.out.1 (by injection e))).c1
              obtain ⟨⟨f1, f2⟩, -⟩ := ((HX3.out.below HB4.out).grown HG6.out (fun e => HPB.out.2 (by injection e))).c2))
        have hv4 : RegV P w4 (.agg #[.slice A4 n4 c4, .bool X.2]) X := ⟨⟨A4, n4, c4, rfl, HO4.out.runes⟩, HLE.out, off_own HO4.out fun g hg => HPP.out g (Nat.le_trans HG3'.out.size hg)⟩
        obtain ⟨hbx6, hR6⟩ := RegsM.put (by unfold I32; omega) (HP3.out.below HB4.out) (HM3.out.below HB4.out) (HR3.out.below HB4.out) hv4 HM6.out HG6.out
        have HE := hide (And.intro hbx6 hR6)
        have HG7 := hide ((HG3'.out.trans (grown_of_below HB4.out)).trans HG6.out)
        clear hv4 hbx6 hR6 b0 b1 b2 d0 d1 d2 f0 f1 f2 hrun
        go_wp2_with fail
        go_ret
        refine .inr ⟨rfl, HLE.out, HG7.out, _, ?_, HE.out.1, _, HM6.out, HE.out.2⟩
        have := plusN_le V3 0 n3
        omega
end Go.Proofs.Ythmchmpicncgdaa
