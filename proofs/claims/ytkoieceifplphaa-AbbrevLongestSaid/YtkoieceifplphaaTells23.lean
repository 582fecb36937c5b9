/- The walk of standishlaw23's AbbrevTells: it answers true. -/
import Derived.Test.YtkoieceifplphaaSnipU
import Derived.Test.YtkoieceifplphaaTapeT
import Derived.Test.YtkoieceifplphaaKnown23
namespace Go.Proofs.Ytkoieceifplphaa
open Go.RowKit
set_option linter.unusedVariables false

theorem Runes.lentA {w : World} {A : Option Addr} {n : Nat} {a : List Int} (h : Runes w A (n + 2) (a ++ [-77, -78])) (ha : a.length = n) : Runes w A n a := by
  have := h.take (m := n) (by omega)
  rwa [List.take_append_of_le_length (by omega), List.take_of_length_le (by omega)] at this

set_option maxRecDepth 100000 in
set_option maxHeartbeats 4000000 in
theorem same23_any (A S : Option Addr) (n c k d : Nat) (at_ : Int) (us : Nat → SNV) (l : List Snp) (s : List Int) (w : World) (h : Snips w A n us l) (hS : Runes w S k s) (hn : n ≤ 9223372036854775807) (hk2 : k + 2 ≤ 35184372088832) (hk : k ≤ d) (hd : d ≤ 9223372036854775807) :
    Calls Try.prog 15 #[.slice A n c, .slice S k d, .int .i64 at_] w fun e w' => e = .returned (.bool true) ∧ Below w.heap.size w w' := by
  have H := hide h
  have HS := hide hS
  have HL := hide hS.len
  clear h hS
  go_enter Try.func15, Try.ntmps15
  go_wp2_with fail
  refine (lend_any S k d s _ HS.out hk2).mono ?_
  rintro e w1 ⟨g1, c1, rfl, ho1, hb1⟩
  have HX := hide ho1.runes
  have HXL := hide (ho1.runes.lentA HL.out)
  have hc1 := ho1.cap
  have HB1 := hide hb1
  have HA1 := hide (H.out.below hb1)
  have HS1 := hide (HS.out.below hb1)
  clear ho1 hb1
  have hcc : k ≤ c1 := by omega
  go_wp2_with fail
  refine (afind_any A (some ⟨g1, 0, none⟩) n c k c1 at_ us l s w1 HA1.out HXL.out hn hcc hc1.2).mono ?_
  have HF := hide (fun W (hb : Below w1.heap.size w1 W) => rfind_any A S n c k d at_ us l s W (HA1.out.below hb) (HS1.out.below hb) hn hk hd)
  have HN := hide (fun W (hb : Below w1.heap.size w1 W) => anamed_any A (some ⟨g1, 0, none⟩) n c k c1 at_ us l s W (HA1.out.below hb) (HXL.out.below hb) hn hcc hc1.2)
  have HNR := hide (fun W (hb : Below w1.heap.size w1 W) => rnamed_any A S n c k d at_ us l s W (HA1.out.below hb) (HS1.out.below hb) hn hk hd)
  have HM := hide (fun W (hb : Below w1.heap.size w1 W) => amay_any A n c us l W (HA1.out.below hb) hn)
  have HMR := hide (fun W (hb : Below w1.heap.size w1 W) => rmaytab_any A n c us l W (HA1.out.below hb) hn)
  generalize max (findS l s at_) 0 = f1 at HF ⊢
  generalize decide (0 ≤ findS l s at_) = f2 at HF ⊢
  generalize max (namedS l s at_) 0 = n1 at HN HNR
  generalize decide (0 ≤ namedS l s at_) = n2 at HN HNR
  generalize tabT l = tb at HM HMR
  rintro e w2 ⟨rfl, hb2⟩
  have HB2 := hide hb2
  clear hb2
  go_wp2_with fail
  refine (HF.out _ HB2.out).mono ?_
  rintro e w3 ⟨rfl, hb3⟩
  have HB3 := hide (HB2.out.trans (hb3.mono HB2.out.size))
  clear hb3
  go_wp2_with fail
  refine (HN.out _ HB3.out).mono ?_
  rintro e w4 ⟨rfl, hb4⟩
  have HB4 := hide (HB3.out.trans (hb4.mono HB3.out.size))
  clear hb4
  go_wp2_with fail
  refine (HNR.out _ HB4.out).mono ?_
  rintro e w5 ⟨rfl, hb5⟩
  have HB5 := hide (HB4.out.trans (hb5.mono HB4.out.size))
  clear hb5
  go_wp2_with fail
  refine (HM.out _ HB5.out).mono ?_
  rintro e w6 ⟨rfl, hb6⟩
  have HB6 := hide (HB5.out.trans (hb6.mono HB5.out.size))
  clear hb6
  go_wp2_with fail
  refine (HMR.out _ HB6.out).mono ?_
  rintro e w7 ⟨rfl, hb7⟩
  have HB7 := hide (HB6.out.trans (hb7.mono HB6.out.size))
  clear hb7
  go_wp2_with fail
  refine (kept_yes _ S k c1 d s _ (HX.out.below HB7.out) (HS1.out.below HB7.out) hc1.1 hc1.2).mono ?_
  rintro e w8 ⟨rfl, q8, rfl⟩
  go_wp2_with fail
  go_ret
  exact ⟨rfl, HB1.out.trans ((below_drewN1 HB7.out q8).mono HB1.out.size)⟩

theorem Snips.take {w : World} {A : Option Addr} {n m : Nat} {us : Nat → SNV} {l : List Snp} (h : Snips w A n us l) (hm : m ≤ n) : Snips w A m us (l.take m) :=
  ⟨by rw [List.length_take, h.len]; omega, fun j hj => h.at_ j (by omega), fun j hj => by
    obtain ⟨x, h1, h2⟩ := h.rd j (by omega)
    exact ⟨x, by rw [List.getElem?_take, if_pos hj]; exact h1, h2⟩⟩
theorem run_snips_h (A : Option Addr) (n c m : Nat) (h1 : m ≤ c) (W : World) :
    (Instr.slice 22 (.slice A n c) none (some (.int .i64 (m : Int))) none).run Try.prog W = .ok (.slice A m c) W := by
  have hz : (sizeOf (Try.prog.elem 22)).run Try.prog W = .ok 2 W := by kernel_rfl
  rw [run_slice_h (P := Try.prog) (t := 22) (ht := by kernel_rfl) (h0 := by omega) (h2 := by omega), hz]
  cases A <;> simp [Result.andThen, sliced, Addr.add]
theorem TabI.snips {g : Nat} {Z : Option Addr} {m c : Nat} {z : List Int} {w0 w : World} {A : Option Addr} {k cap : Nat} {us : Nat → SNV} {l : List Snp} (h : TabI g Z m c z w0 w A k cap us l) : Snips w A k us l := h.row.snips h.len (fun j hj => by obtain ⟨x, h1, h2, _⟩ := h.rd j hj; exact ⟨x, h1, h2⟩)
theorem grown_below {w w2 : World} {g : Nat} (h : w.grownBy w2 (some g)) {B : Nat} {w0 : World} (hb : Below B w0 w) (hB : B ≤ g) (hs : B ≤ w.heap.size) : Below B w0 w2 := hb.grown h hs (fun k hk => by injection hk with hk; omega)

set_option maxRecDepth 100000 in
set_option maxHeartbeats 8000000 in
theorem tells23_any (A S Z : Option Addr) (n c k d m cz : Nat) (at_ : Int) (us : Nat → SNV) (l : List Snp) (s z : List Int) (w : World) (h : Snips w A n us l) (hS : Runes w S k s) (hZ : IntsR w Z m z) (hm : m ≤ 35184372088832) (hnc : n ≤ c) (hc : c ≤ 9223372036854775807) (hk : k ≤ d) (hd : d ≤ 9223372036854775807) :
    Calls Try.prog 3 #[.slice A n c, .slice S k d, .slice Z m cz, .int .i64 at_] w fun e w' => e = .returned (.bool true) ∧ Below w.heap.size w w' := by
  have H := hide h
  have HS := hide (hS.take (m := min k 60) (by omega))
  have HT := hide (Tap.new (c := cz) hZ)
  have HB0 := hide ((Below.refl w.heap.size w).alloc (Nat.le_refl _) (.cells #[.slice Z m cz, .int .i64 0] 28))
  have hk60 : min k 60 ≤ 60 := by omega
  have hkd : min k 60 ≤ d := by omega
  have HCUT := hide (fun W => cut_any S k d 60 W hk hd (by omega))
  have HR22 := hide (fun (e : ¬ n ≤ 22) W => run_snips_h A n c 22 (by omega) W)
  have HSZ := hide (show (w.alloc (.cells #[.slice Z m cz, .int .i64 0] 28)).heap.size = w.heap.size + 1 by simp)
  clear h hS hZ
  generalize s.take (min k 60) = s2 at HS
  generalize min k 60 = k2 at HS hk60 hkd HCUT
  obtain ⟨n2, l2, hn2, HA⟩ : ∃ n2 l2, n2 ≤ 22 ∧ Hid (Snips w A n2 us l2 ∧ (n2 = n ∨ (n2 = 22 ∧ ¬ n ≤ 22))) := by
    by_cases e : n ≤ 22
    · exact ⟨n, l, e, H.out, .inl rfl⟩
    · exact ⟨22, _, Nat.le_refl _, H.out.take (by omega), .inr ⟨rfl, e⟩⟩
  go_enter Try.func3, Try.ntmps3
  go_wp2_with fail
  refine (HCUT.out _).mono ?_
  rintro e w' ⟨rfl, rfl⟩
  have HA2 := hide HA.out.1
  rcases HA.out.2 with rfl | ⟨rfl, hge⟩
  · have d1 : decide ((22 : Int) < (n2 : Int)) = false := by simp; omega
    clear HA HR22 H
    go_wp2_with fail
    refine (ttable_any w.heap.size Z m cz z 10 _ HT.out hm (by omega)).mono ?_
    rintro e w1 ⟨A2, n3, c3, us3, l3, rfl, hn3, hti⟩
    have hc3 := hti.row.cap
    have HTI := hide hti
    clear hti HT
    go_wp2_with fail
    refine (text_any 30 w.heap.size Z m cz z w1 HTI.out.tap (by omega) hm).mono ?_
    rintro e w2 ⟨U, ku, cu, u, rfl, hku, hou, _, htp, hg2⟩
    have HTS := hide (HTI.out.keep hg2 (fun b hb => by injection hb with hb; exact hb.symm) htp).snips
    have HU := hide hou.runes
    have hcu := hou.cap
    have HB2 := hide (show Below w.heap.size w w2 from grown_below (HTI.out.gr.trans hg2) HB0.out (Nat.le_refl _) (by rw [HSZ.out]; omega))
    clear hou htp hg2 HTI HSZ
    have HSA := hide (HA2.out.below HB2.out)
    have HSS := hide (HS.out.below HB2.out)
    go_wp2_with fail
    go_loopw [12] (fun o wx => ∃ y : Nat, y ≤ ku + 3 ∧ o = .int .i64 ((y : Int) - 1) ∧ Hid (Below w2.heap.size w2 wx)) (fun o _ => (ku + 3 - (intOf o + 1)).toNat)
    case atStart => exact ⟨0, by omega, rfl, Below.refl _ _⟩
    case round =>
      obtain ⟨y, hy, rfl, hbel⟩ := hrel
      by_cases hyk : y < ku + 3
      · have h1 : ((y : Int) - 1) ≤ (ku : Int) + 1 := by omega
        have h2 : (y : Int) = ((y + 1 : Nat) : Int) - 1 := by omega
        have H2 := hide h2
        clear h2
        go_wp2_with fail
        refine (same23_any A2 U n3 c3 ku cu ((y : Int) - 1) us3 l3 u _ (HTS.out.below hbel.out) (HU.out.below hbel.out) (by omega) (by omega) hcu.1 hcu.2).mono ?_
        rintro e w3 ⟨rfl, hb3⟩
        have HB3 := hide (hbel.out.trans (hb3.mono hbel.out.size))
        clear hb3
        go_wp2_with fail
        go_roundw
        case rel => exact ⟨y + 1, by omega, congrArg (Value.int .i64) H2.out, HB3.out⟩
        case measure => simp [intOf]; omega
      · have h1 : (ku : Int) + 1 < ((y : Int) - 1) := by omega
        have ik : idxN at_ (k2 + 1) < k2 + 1 := idxN_lt (by omega)
        have HIX := hide (fun W => index_any at_ ((k2 : Int) + 1) W (by omega) (by omega))
        rw [show ((k2 : Int) + 1).toNat = k2 + 1 by omega] at HIX
        generalize idxN at_ (k2 + 1) = x1 at ik HIX
        go_wp2_with fail
        refine (same23_any A S n2 c k2 d at_ us l2 s2 _ (HSA.out.below hbel.out) (HSS.out.below hbel.out) (by omega) (by omega) hkd hd).mono ?_
        rintro e w3 ⟨rfl, hb3⟩
        have HB3 := hide (hbel.out.trans (hb3.mono hbel.out.size))
        clear hb3
        go_wp2_with fail
        refine (HIX.out _).mono ?_
        rintro e w' ⟨rfl, rfl⟩
        go_wp2_with fail
        refine (same23_any A S n2 c k2 d x1 us l2 s2 _ (HSA.out.below HB3.out) (HSS.out.below HB3.out) (by omega) (by omega) hkd hd).mono ?_
        rintro e w4 ⟨rfl, hb4⟩
        have HB4 := hide (HB3.out.trans (hb4.mono HB3.out.size))
        clear hb4
        go_wp2_with fail
        refine (HIX.out _).mono ?_
        rintro e w' ⟨rfl, rfl⟩
        go_wp2_with fail
        refine (same23_any A2 S n3 c3 k2 d x1 us3 l3 s2 _ (HTS.out.below HB4.out) (HSS.out.below HB4.out) (by omega) (by omega) hkd hd).mono ?_
        rintro e w5 ⟨rfl, hb5⟩
        have HB5 := hide (HB4.out.trans (hb5.mono HB4.out.size))
        clear hb5
        go_wp2_with fail
        refine (known23_any _).mono ?_
        rintro e w6 ⟨rfl, hb6⟩
        have HB6 := hide (HB5.out.trans (hb6.mono HB5.out.size))
        clear hb6
        go_wp2_with fail
        go_ret
        exact ⟨rfl, HB2.out.trans (HB6.out.mono HB2.out.size)⟩
  · have d1 : decide ((22 : Int) < (n : Int)) = true := by simp; omega
    have d2 : (22 : Int) < (n : Int) := by omega
    have hrun : ∀ W, (Instr.slice 22 (.slice A n c) none (some (.int .i64 22)) none).run Try.prog W = .ok (.slice A 22 c) W := HR22.out hge
    clear HA HR22 H
    go_wp2_with fail
    refine (ttable_any w.heap.size Z m cz z 10 _ HT.out hm (by omega)).mono ?_
    rintro e w1 ⟨A2, n3, c3, us3, l3, rfl, hn3, hti⟩
    have hc3 := hti.row.cap
    have HTI := hide hti
    clear hti HT
    go_wp2_with fail
    refine (text_any 30 w.heap.size Z m cz z w1 HTI.out.tap (by omega) hm).mono ?_
    rintro e w2 ⟨U, ku, cu, u, rfl, hku, hou, _, htp, hg2⟩
    have HTS := hide (HTI.out.keep hg2 (fun b hb => by injection hb with hb; exact hb.symm) htp).snips
    have HU := hide hou.runes
    have hcu := hou.cap
    have HB2 := hide (show Below w.heap.size w w2 from grown_below (HTI.out.gr.trans hg2) HB0.out (Nat.le_refl _) (by rw [HSZ.out]; omega))
    clear hou htp hg2 HTI HSZ
    have HSA := hide (HA2.out.below HB2.out)
    have HSS := hide (HS.out.below HB2.out)
    go_wp2_with fail
    go_loopw [12] (fun o wx => ∃ y : Nat, y ≤ ku + 3 ∧ o = .int .i64 ((y : Int) - 1) ∧ Hid (Below w2.heap.size w2 wx)) (fun o _ => (ku + 3 - (intOf o + 1)).toNat)
    case atStart => exact ⟨0, by omega, rfl, Below.refl _ _⟩
    case round =>
      obtain ⟨y, hy, rfl, hbel⟩ := hrel
      by_cases hyk : y < ku + 3
      · have h1 : ((y : Int) - 1) ≤ (ku : Int) + 1 := by omega
        have h2 : (y : Int) = ((y + 1 : Nat) : Int) - 1 := by omega
        have H2 := hide h2
        clear h2
        go_wp2_with fail
        refine (same23_any A2 U n3 c3 ku cu ((y : Int) - 1) us3 l3 u _ (HTS.out.below hbel.out) (HU.out.below hbel.out) (by omega) (by omega) hcu.1 hcu.2).mono ?_
        rintro e w3 ⟨rfl, hb3⟩
        have HB3 := hide (hbel.out.trans (hb3.mono hbel.out.size))
        clear hb3
        go_wp2_with fail
        go_roundw
        case rel => exact ⟨y + 1, by omega, congrArg (Value.int .i64) H2.out, HB3.out⟩
        case measure => simp [intOf]; omega
      · have h1 : (ku : Int) + 1 < ((y : Int) - 1) := by omega
        have ik : idxN at_ (k2 + 1) < k2 + 1 := idxN_lt (by omega)
        have HIX := hide (fun W => index_any at_ ((k2 : Int) + 1) W (by omega) (by omega))
        rw [show ((k2 : Int) + 1).toNat = k2 + 1 by omega] at HIX
        generalize idxN at_ (k2 + 1) = x1 at ik HIX
        go_wp2_with fail
        refine (same23_any A S 22 c k2 d at_ us l2 s2 _ (HSA.out.below hbel.out) (HSS.out.below hbel.out) (by omega) (by omega) hkd hd).mono ?_
        rintro e w3 ⟨rfl, hb3⟩
        have HB3 := hide (hbel.out.trans (hb3.mono hbel.out.size))
        clear hb3
        go_wp2_with fail
        refine (HIX.out _).mono ?_
        rintro e w' ⟨rfl, rfl⟩
        go_wp2_with fail
        refine (same23_any A S 22 c k2 d x1 us l2 s2 _ (HSA.out.below HB3.out) (HSS.out.below HB3.out) (by omega) (by omega) hkd hd).mono ?_
        rintro e w4 ⟨rfl, hb4⟩
        have HB4 := hide (HB3.out.trans (hb4.mono HB3.out.size))
        clear hb4
        go_wp2_with fail
        refine (HIX.out _).mono ?_
        rintro e w' ⟨rfl, rfl⟩
        go_wp2_with fail
        refine (same23_any A2 S n3 c3 k2 d x1 us3 l3 s2 _ (HTS.out.below HB4.out) (HSS.out.below HB4.out) (by omega) (by omega) hkd hd).mono ?_
        rintro e w5 ⟨rfl, hb5⟩
        have HB5 := hide (HB4.out.trans (hb5.mono HB4.out.size))
        clear hb5
        go_wp2_with fail
        refine (known23_any _).mono ?_
        rintro e w6 ⟨rfl, hb6⟩
        have HB6 := hide (HB5.out.trans (hb6.mono HB5.out.size))
        clear hb6
        go_wp2_with fail
        go_ret
        exact ⟨rfl, HB2.out.trans (HB6.out.mono HB2.out.size)⟩
end Go.Proofs.Ytkoieceifplphaa
