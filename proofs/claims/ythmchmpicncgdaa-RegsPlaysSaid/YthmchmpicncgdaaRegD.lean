/- Registers: Copy. -/
import Derived.Test.YthmchmpicncgdaaRegC
namespace Go.Proofs.Ythmchmpicncgdaa
open Go.RowKit Go.Maps Go.MapKept Go.ChangeMaps Go.Shelf
set_option linter.unusedVariables false
variable {P P' : Nat → Prop}

theorem Runes.keepNC {w w' : World} {A : Option Addr} {n i : Nat} {t : List Int} (h : Runes w A n t) (hg : w.grownBy w' (some i)) (hi : ∃ o : Obj, w.heap[i]? = some o ∧ o.isCells = false) : Runes w' A n t :=
  h.keep fun g o ha hk => hg.block g (h.lt hk ha) fun e => by
    injection e with e
    subst e
    obtain ⟨g', o', ha', hc⟩ := h.at_ 0 hk
    rw [ha] at ha'
    injection ha' with ha'
    injection ha' with e1 e2
    subst e1
    obtain ⟨ob, ho, hn⟩ := hi
    simp only [World.cell?, ho] at hc
    cases ob <;> simp_all [Obj.isCells]
theorem RegsM.keepNC {w w' : World} {p b n i : Nat} {M : Int → Option Rg} (h : RegsM P w p b n M) (hg : w.grownBy w' (some i)) (hi : ∃ o : Obj, w.heap[i]? = some o ∧ o.isCells = false) (hib : i ≠ b) : RegsM P w' p b n M := by
  obtain ⟨V, h1, h2⟩ := h.map
  have hp : i ≠ p := fun e => by
    obtain ⟨o, h3, h4⟩ := hi
    have h5 := h.box
    unfold Box at h5
    rw [← e, h3] at h5
    injection h5 with h5
    subst h5
    cases h4
  refine ⟨h.box.grown hg (fun e => hp (by injection e with e; exact e.symm)), V, h1.keep (hg.block b h1.lt fun e => hib (by injection e with e; exact e.symm)), fun r hr => ⟨fun x hx => ?_, (h2 r hr).2⟩⟩
  obtain ⟨v, h3, ⟨A, k, c, h6, h7⟩, hle, hoff⟩ := (h2 r hr).1 x hx
  exact ⟨v, h3, ⟨A, k, c, h6, h7.keepNC hg hi⟩, hle, hoff⟩
theorem RegsM.congr {w : World} {p b n : Nat} {M M' : Int → Option Rg} (h : RegsM P w p b n M) (he : ∀ r, I32 r → M' r = M r) : RegsM P w p b n M' := by
  obtain ⟨V, h1, h2⟩ := h.map
  exact ⟨h.box, V, h1, fun r hr => by rw [he r hr]; exact h2 r hr⟩
/-- Those that are no longer to come. -/
def PartM (M : Int → Option Rg) (left : Lit → Bool) (M' : Int → Option Rg) : Prop := ∀ r, I32 r → M' r = if left (.int .i32 r) then none else M r
theorem PartM.step {M M' : Int → Option Rg} {left : Lit → Bool} {x : Int} {X : Rg} (h : PartM M left M') (hM : M x = some X) : PartM M (fun z => left z && !z.sameKey (.int .i32 x)) (updR M' x X) := fun r hr => by
  simp only [updR, sameKey_r]
  by_cases e : r = x
  · subst e
    simp [hM]
  · rw [if_neg e, h r hr]
    simp [e]

/-- What Copy leaves: registers of the call's own. -/
def CopyR (P : Nat → Prop) (M : Int → Option Rg) (n : Nat) (w : World) (e : Ending) (w' : World) : Prop := ∃ p b n', e = .returned (.pointer (some ⟨p, 0, none⟩)) ∧ n' ≤ n ∧ RegsM P w' p b n' M ∧ w.heap.size ≤ p ∧ w.heap.size ≤ b ∧ Below w.heap.size w w'
/-- Between two rounds of the copy. -/
structure CpI (P : Nat → Prop) (w wr : World) (b it n : Nat) (D : DataW Value) (M : Int → Option Rg) (p2 b2 : Nat) (left : Lit → Bool) (cnt n2 : Nat) (M2 : Int → Option Rg) : Prop where
  rg : wr.ranges Try.prog 21 anyR b it n D left cnt
  cnt_ : n2 + cnt ≤ n
  regs : RegsM P wr p2 b2 n2 M2
  part : PartM M left M2
  below : Below w.heap.size w wr

set_option maxRecDepth 100000 in
set_option maxHeartbeats 2000000 in
theorem copy_any (p b n : Nat) (M : Int → Option Rg) (w : World) (hm : RegsM P w p b n M) (hn : n ≤ 1000) (hP : ∀ g, w.heap.size ≤ g → P' g) :
    Calls Try.prog 13 #[.pointer (some ⟨p, 0, none⟩)] w (CopyR P' M n w) := by
  have HPP := hide hP
  clear hP
  obtain ⟨V, hV, hR⟩ := hm.map
  obtain ⟨D, hD, hsz, hrd⟩ := hV.ex
  have hlt := hm.lt
  have HM := hide hm
  have HRD := hide hrd
  have HR := hide hR
  clear hm hV hR hrd
  go_enter Try.func13, Try.ntmps13
  go_wp2_with fail
  refine (rnew_any P' _).mono ?_
  rintro e w1 ⟨p2, b2, rfl, hm2, hp2, hb2, hbe2⟩
  have hD1 : w1.ownsMap Try.prog 21 anyR b n D := by
    have hbl := hD.lt
    obtain ⟨es, clock, hb, Ft, hs, hDD⟩ := hD
    exact ⟨es, clock, (hbe2.block b hbl).trans hb, Ft, hs, hDD⟩
  obtain ⟨c1, -⟩ := (HM.out.below hbe2).box.c1
  have HM2 := hide hm2
  have HB2 := hide hbe2
  have hlt2 := hm2.lt
  have hnb := hm2.ne
  have hpp : p ≠ p2 ∧ p ≠ b2 ∧ b ≠ p2 ∧ b ≠ b2 := by omega
  clear hm2 hbe2 hD
  go_wp2_with (first
    | (at_range; refine wpList_range_own _ rfl _ 54 rfl 21 29 rkeyed Try.underlying54 anyR b n _ rfl hD1 ?_; intro w0 hrg0 hg0 hs0)
    | go_in)
  go_frame
  obtain ⟨it, hit⟩ : ∃ it, w1.heap.size = it := ⟨_, rfl⟩
  rw [hit] at hrg0 hs0 ⊢
  have HIT := hide hit
  have HI0 := hide (show CpI P' w w0 b it n D M p2 b2 (has D) (size D) 0 (fun _ => none) from ⟨hrg0, by omega, by
      obtain ⟨V2, h1, h2⟩ := HM2.out.map
      have hbb : Below w1.heap.size w1 w0 := ⟨hg0.os, hg0.tape, hg0.output, hg0.size, fun k hk => hg0.block k hk (fun e => by cases e)⟩
      exact HM2.out.below hbb, fun r hr => by
      by_cases h : has D (.int .i32 r) = true
      · rw [if_pos h]
      · rw [if_neg h]
        cases hMr : M r with
        | none => rfl
        | some x =>
          exfalso
          obtain ⟨v, hv, _⟩ := (HR.out r hr).1 x hMr
          exact h (by rw [(HRD.out r hr).1, hv]; rfl), HB2.out.grown hg0 HB2.out.size fun j e => by cases e⟩)
  clear hrg0 hg0 hs0 hD1 c1 hit
  go_loopw [4] (fun _ wr => ∃ (left : Lit → Bool) (cnt n2 : Nat) (M2 : Int → Option Rg), Hid (CpI P' w wr b it n D M p2 b2 left cnt n2 M2)) (fun _ wr => wr.rangeLeft b it)
  case atStart => exact ⟨_, _, _, _, HI0.out⟩
  case round =>
    obtain ⟨left, cnt, n2, M2, HI⟩ := hrel
    have hrg := HI.out.rg
    go_wp2_with (first
      | (at_next; refine wpList_next_ranges _ rfl _ rfl 21 rkeyed anyR (Value.int .i32) id (fun key kl hk => by obtain ⟨x, hx, _⟩ := keyOf_r_inv hk; exact ⟨x, hx⟩) (fun v _ _ => ⟨v, rfl⟩) b it n _ _ _ rfl hrg ?_ ?_)
      | go_in)
    · intro hc0 hl0
      have HE := hide (HI.out.regs.congr (M' := M) fun r hr => by rw [HI.out.part r hr, if_neg (by rw [hl0]; simp)])
      clear hrg
      go_wp2
      go_ret
      exact ⟨p2, b2, n2, rfl, by have := HI.out.cnt_; omega, HE.out, hp2, hb2, HI.out.below⟩
    · intro x c kl yd yp wb cnt2 hkey hlk hv hat hrg2 hlt3 hg2 hs2 hen
      obtain ⟨x', ex, rfl, hx32⟩ := keyOf_r_inv hkey
      obtain rfl : x = x' := by injection ex
      have hyd : yd = .held c := by
        have := hv.symm
        simp [anyR] at this
        exact this.1
      subst hyd
      have HIT2 := HIT.out
      -- what it holds
      have hX : ∃ X, M x = some X := by
        have h1 := has_of_at hat
        rw [(HRD.out x hx32).1] at h1
        cases hMx : M x with
        | some X => exact ⟨X, rfl⟩
        | none => rw [(HR.out x hx32).2 hMx] at h1; cases h1
      obtain ⟨X, hMX⟩ := hX
      obtain ⟨v, hVx, ⟨A, k, cc, hve, hrn⟩, hle⟩ := (HR.out x hx32).1 X hMX
      have hcv : c = .agg #[.slice A k cc, .bool X.2] := by
        have h1 := (HRD.out x hx32).2 v hVx (.held c)
        rw [hat] at h1
        injection h1 with h1
        rw [← hve]
        exact h1.symm ▸ rfl
      subst hcv
      have hlt2' : p2 < wr.heap.size ∧ b2 < wr.heap.size := HI.out.regs.lt
      have hitl := hrg.lt
      have hbi := hrg.ne
      have hpw : p2 < it ∧ b2 < it ∧ b < it := by have := HIT.out; omega
      have hne1 : it ≠ b2 ∧ it ≠ p2 := by omega
      have hRG := HI.out.regs.keepNC hg2 (by obtain ⟨o, ho, hw⟩ := hrg.iter_walk; exact ⟨o, ho, by cases o <;> simp_all [Obj.isWalk, Obj.isCells]⟩) hne1.1
      have hBB : Below w.heap.size w wb := HI.out.below.grown hg2 HI.out.below.size fun j e => by cases e; have := HIT.out; have := HB2.out.size; omega
      have hSZ : wb.heap.size = wr.heap.size := hs2
      obtain ⟨xb, hxb⟩ : ∃ xb, wb.heap.size = xb := ⟨_, rfl⟩
      have hX2 := Box.newAt hxb 29 #[.slice A k cc, .bool X.2]
      have hR2 := hRG.below ((Below.refl wb.heap.size wb).alloc (Nat.le_refl _) (.cells #[.slice A k cc, .bool X.2] 29))
      have hG2 := hrg2.alloc (.cells #[.slice A k cc, .bool X.2] 29)
      have hB2 := hBB.alloc hBB.size (.cells #[.slice A k cc, .bool X.2] 29)
      have hN2 := hrn.below hB2
      have hkk : k ≤ 1000 := by have := hrn.len; omega
      have hxx : it < xb ∧ b2 < xb ∧ p2 < xb := by omega
      have HH := hide (And.intro hX2 (And.intro hR2 (And.intro hG2 (And.intro hB2 hN2))))
      have HF := hide (And.intro hlt3 (And.intro hMX (And.intro hle hve)))
      have HXX := hide hxx
      have HNE := hide (And.intro hne1 (And.intro hpw hbi))
      clear hrg hlt2' hitl hBB hRG hrg2 hN2 hB2 hG2 hR2 hX2 hg2 hs2 hat hlk hkey hve hrn hle hlt3 hv hVx hMX hxx hpw hbi hSZ
      go_wp2_with fail
      generalize wb.alloc (.cells #[.slice A k cc, .bool X.2] 29) = W5 at HH ⊢
      obtain ⟨V2, hV2, hR2⟩ := HH.out.2.1.map
      have HV2 := hide hV2
      have HRR := hide hR2
      clear hV2 hR2 hen hxb
      obtain ⟨b0, -⟩ := HH.out.2.1.box.c1
      obtain ⟨⟨b1, b3⟩, -⟩ := HH.out.1.c2
      have HC5 := hide (fun W (v : Runes W A k X.1) => rcopied_any A k cc X.2 X.1 W v (by omega))
      have hn4 : n2 < maxLen := by have := HI.out.cnt_; unfold maxLen; omega
      have hxb2 : xb ≠ b2 := by have := HXX.out; omega
      go_region_held3 (fun w' => w'.cell? ⟨p2, 0, none⟩ = some (.map (some b2)) ∧ w'.cell? ⟨xb, 0, none⟩ = some (.slice A k cc) ∧ w'.cell? ⟨xb, 1, none⟩ = some (.bool X.2))
        (first | go_keep)
        (first
         | (go_at_call 27; (with_reducible refine (HC5.out _ (HH.out.2.2.2.2.below (Below.refl _ _).drew)).mono ?_); rintro e w6 ⟨A2, n3, c2, rfl, ho6, hb6⟩
            have HB6 := hide ((Below.refl W5.heap.size W5).drew.trans hb6)
            have HO6 := hide ho6
            clear ho6 hb6
            obtain ⟨d0, -⟩ := (HH.out.2.1.box.below HB6.out).c1
            obtain ⟨⟨d1, d2⟩, -⟩ := (HH.out.1.below HB6.out).c2
            obtain ⟨w7, hrun, hm7, hg7, hs7⟩ := (HV2.out.below HB6.out).store hx32 (.agg #[.slice A2 n3 c2, .bool X.2]) hn4
            have HM7 := hide hm7
            have HG7 := hide hg7
            clear hm7 hg7 hs7
            obtain ⟨f0, -⟩ := ((HH.out.2.1.box.below HB6.out).grown HG7.out (fun e => hnb (by injection e))).c1
            obtain ⟨⟨f1, f2⟩, -⟩ := ((HH.out.1.below HB6.out).grown HG7.out (fun e => hxb2 (by injection e))).c2))
      have hv6 : RegV P' w6 (.agg #[.slice A2 n3 c2, .bool X.2]) X := ⟨⟨A2, n3, c2, rfl, HO6.out.runes⟩, HF.out.2.2.1, off_own HO6.out fun g hg => HPP.out g (Nat.le_trans HH.out.2.2.2.1.size hg)⟩
      obtain ⟨hbx7, hR7⟩ := RegsM.put hx32 (HH.out.2.1.box.below HB6.out) (HV2.out.below HB6.out) (HRR.out.below HB6.out) hv6 HM7.out HG7.out
      have HR7 := hide (show RegsM P' w7 p2 b2 (plusN V2 x n2) (updR M2 x X) from ⟨hbx7, _, HM7.out, hR7⟩)
      have HG8 := hide ((HH.out.2.2.1.kept (grown_of_below (row := none) HB6.out) (fun e => by cases e) (fun e => by cases e)).kept HG7.out (fun e => hpp.2.2.2 (by injection e)) (fun e => hne1.1 (by injection e)))
      have HBE := hide ((HH.out.2.2.2.1.trans (HB6.out.mono HH.out.2.2.2.1.size)).grown HG7.out (HH.out.2.2.2.1.trans (HB6.out.mono HH.out.2.2.2.1.size)).size fun j e => by cases e; exact hb2)
      have hpl := plusN_le V2 x n2
      clear hv6 hbx7 hR7 b0 b1 b3 d0 d1 d2 f0 f1 f2 hrun
      go_wp2_with fail
      go_roundw
      case rel => exact ⟨_, cnt2, _, _, HG8.out, by have := HI.out.cnt_; have := HF.out.1; omega, HR7.out, HI.out.part.step HF.out.2.1, HBE.out⟩
      case measure => rw [HG8.out.left_eq, HI.out.rg.left_eq]; exact HF.out.1
end Go.Proofs.Ythmchmpicncgdaa
