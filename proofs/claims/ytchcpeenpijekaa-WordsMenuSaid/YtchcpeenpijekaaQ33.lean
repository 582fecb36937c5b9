/- Pieces, joined: Same22, Plain, Known22. -/
import Derived.Test.YtchcpeenpijekaaQ26
import Derived.Test.YtchcpeenpijekaaQ32
import Derived.Test.YtchcpeenpijekaaQ30
import Derived.Test.YtchcpeenpijekaaQ03
import Derived.OwnWalk

/- Law 22: same answers true. -/
namespace Go.Proofs.Ytchcpeenpijekaa
open Go.RowKit Go.Maps Go.MapKept Go.ChangeMaps Go.Shelf
set_option linter.unusedVariables false

theorem lent_text {w : World} {A : Option Addr} {n : Nat} {s : List Int} (h : Runes w A (n + 2) (s ++ [-77, -78])) (hl : s.length = n) : Runes w A n s := by
  have h1 := h.take (show n ≤ n + 2 by omega)
  rwa [List.take_append_of_le_length (by omega), List.take_of_length_le (by omega)] at h1
/-- A cell is written with what it holds: nothing has turned. -/
theorem Box.set_same {w : World} {g : Nat} {t : TypeId} {cs : Array Value} (h : Box w g t cs) {i : Nat} {v : Value} (hv : cs[i]? = some v) : w.setCell ⟨g, i, none⟩ v = w := by
  have hset : cs.setIfInBounds i v = cs := by
    refine Array.ext_getElem? fun k => ?_
    rw [Array.getElem?_setIfInBounds]
    split
    · rename_i e
      subst e
      rw [hv]
      split
      · rfl
      · rename_i h2
        exact absurd (Array.getElem?_eq_some_iff.1 hv).1 h2
    · rfl
  have hh : (w.setCell ⟨g, i, none⟩ v).heap = w.heap := by
    refine Array.ext_getElem? fun j => ?_
    by_cases e : j = g
    · subst e
      have h1 := h.set i v
      unfold Box at h h1
      rw [h1, h, hset]
    · exact Below.heap_setCell w ⟨g, i, none⟩ v j e
  have e : w.setCell ⟨g, i, none⟩ v = { w with heap := (w.setCell ⟨g, i, none⟩ v).heap } := rfl
  rw [e, hh]
theorem touch_two (s : List Int) (n d d2 : Nat) (at_ : Int) (hl : s.length = n) (hn : n ≤ 1000000) : ∃ (X1 X2 : Int) (ok : Bool),
    (∀ (S : Option Addr) (w : World), Runes w S n s → Calls Try.prog 39 #[.slice S n d, .int .i64 at_] w fun e w' => e = .returned (.tuple #[.agg #[.int .i64 X1, .int .i64 X2], .bool ok]) ∧ Below w.heap.size w w') ∧
    (∀ (S : Option Addr) (w : World), Runes w S n s → Calls Try.prog 56 #[.slice S n d2, .int .i64 at_] w fun e w' => e = .returned (.tuple #[.agg #[.int .i64 X1, .int .i64 X2], .bool ok]) ∧ Below w.heap.size w w') ∧
    (at_ < 0 ∨ (n : Int) < at_ → X1 = 0 ∧ X2 = 0 ∧ ok = false) :=
  ⟨(tfst (touchL (spansS s) at_) : Nat), (tsnd (touchL (spansS s) at_) : Nat), (touchL (spansS s) at_).isSome, fun S w h => touched_any S n d s at_ w h hn _ rfl, fun S w h => rtouched_any S n d2 s at_ w h hn _ rfl, fun h => by
    rw [touch_out (n := n) (fun p hp => by have := ((spans_ok s).word p hp).1.le; omega) h]
    exact ⟨rfl, rfl, rfl⟩⟩

set_option maxRecDepth 100000 in
set_option maxHeartbeats 4000000 in
theorem same22_any (S : Option Addr) (n d : Nat) (s : List Int) (at_ : Int) (w : World) (h : Runes w S n s) (hn : n ≤ 100000) (hd : n ≤ d) (hdm : d ≤ 9223372036854775807) :
    Calls Try.prog 36 #[.slice S n d, .int .i64 at_] w fun e w' => e = .returned (.bool true) ∧ Below w.heap.size w w' := by
  have hl := h.len
  have HS := hide h
  have HL := hide h.len
  clear h
  go_enter Try.func36, Try.ntmps36
  go_upto_region 2 with (go_at_call 13; (with_reducible refine (lend_any S n d s _ HS.out (by omega)).mono ?_); rintro e w1 ⟨gx, cx, rfl, hX, hb1⟩)
  have hcx := hX.cap
  have HX1 := hide hX
  have HB1 := hide hb1
  have HT1 := hide (lent_text hX.runes hl)
  clear hX hb1
  obtain ⟨X1, X2, ok, ht1, ht2, hout⟩ := touch_two s n cx d at_ hl (by omega)
  have HTA := hide ht1
  have HTB := hide ht2
  have hway : (at_ < 0 ∧ X1 = 0 ∧ X2 = 0 ∧ ok = false) ∨ (¬ at_ < 0 ∧ (n : Int) < at_ ∧ X1 = 0 ∧ X2 = 0 ∧ ok = false) ∨ (¬ at_ < 0 ∧ ¬ (n : Int) < at_) := by
    by_cases h1 : at_ < 0
    · exact .inl ⟨h1, hout (.inl h1)⟩
    · by_cases h2 : (n : Int) < at_
      · exact .inr (.inl ⟨h1, h2, hout (.inr h2)⟩)
      · exact .inr (.inr ⟨h1, h2⟩)
  obtain ⟨am, ham⟩ : ∃ am, aheadS s at_ = am := ⟨_, rfl⟩
  have HAM := hide ham
  clear ht1 ht2 hout hl ham
  go_upto_region 3 with (go_at_call 39; (with_reducible refine (HTA.out _ _ HT1.out).mono ?_); rintro e w2 ⟨rfl, hb2⟩)
  obtain ⟨ga, hga⟩ : ∃ ga, w2.heap.size = ga := ⟨_, rfl⟩
  have hba := (Below.refl w2.heap.size w2).alloc (Nat.le_refl _) (.cells #[.int .i64 X1, .int .i64 X2] 61)
  have HA2 := hide (Box.newAt hga 61 #[.int .i64 X1, .int .i64 X2])
  have HB2 := hide ((HB1.out.trans (hb2.mono HB1.out.size)).trans (hba.mono (HB1.out.trans (hb2.mono HB1.out.size)).size))
  have HX2 := hide ((HX1.out.below hb2).below hba)
  rw [hga]
  clear hb2 hba hga HX1 HB1 HT1 HTA
  generalize w2.alloc (.cells #[.int .i64 X1, .int .i64 X2] 61) = W2 at HA2 HB2 HX2 ⊢
  go_upto_region 4 with (go_at_call 56; (with_reducible refine (HTB.out _ _ (HS.out.below HB2.out)).mono ?_); rintro e w3 ⟨rfl, hb3⟩)
  obtain ⟨gb, hgb⟩ : ∃ gb, w3.heap.size = gb := ⟨_, rfl⟩
  have hbb := (Below.refl w3.heap.size w3).alloc (Nat.le_refl _) (.cells #[.int .i64 X1, .int .i64 X2] 61)
  have HA3 := hide ((HA2.out.below hb3).below hbb)
  have HB3 := hide ((HB2.out.trans (hb3.mono HB2.out.size)).trans (hbb.mono (HB2.out.trans (hb3.mono HB2.out.size)).size))
  have HX3 := hide ((HX2.out.below hb3).below hbb)
  have HZ3 := hide (Box.newAt hgb 61 #[.int .i64 X1, .int .i64 X2])
  have HGE := hide (show w.heap.size ≤ gb from by rw [← hgb]; exact (HB2.out.trans (hb3.mono HB2.out.size)).size)
  have HGN := hide (show ga ≠ gb from by have h1 := (HA2.out.below hb3).lt; omega)
  rw [hgb]
  clear hb3 hbb hgb HX2 HB2 HA2 HTB
  generalize w3.alloc (.cells #[.int .i64 X1, .int .i64 X2] 61) = W3 at HA3 HB3 HX3 HZ3 ⊢
  go_upto_region 5 with (go_at_call 40; (with_reducible refine (menu_any (some ⟨gx, 0, none⟩) n cx s at_ W3 (lent_text HX3.out.runes HL.out) (by omega) (by omega) hcx.2).mono ?_); rintro e w4 ⟨A, an, ac, Ao, no, co, us, k, rfl, hA4, hO4, hko, hno, hme, hap, hus, hb4⟩)
  have HA4 := hide hA4
  have HO4 := hide hO4
  have HME := hide hme
  have HAP := hide hap
  have HUS := hide hus
  have HB4 := hide hb4
  have hacap := hA4.cap
  clear hA4 hO4 hme hap hus hb4
  go_upto_region 6 with (go_at_call 57; (with_reducible refine (rmenu_any S n d s at_ _ ((HS.out.below HB3.out).below HB4.out) (by omega) hd hdm).mono ?_); rintro e w5 ⟨B, bn, bc, Bo, mo, mc, vs, rfl, hB5, hI5, hR5, hmo, hm5, hv5, hb5⟩)
  have HQ5 := hide hB5
  have HI5 := hide hI5
  have HR5 := hide hR5
  have HM5 := hide hm5
  have HV5 := hide hv5
  have HA5 := hide (HA4.out.below hb5)
  have HO5 := hide (HO4.out.below hb5)
  have HB5 := hide (HB4.out.trans (hb5.mono HB4.out.size))
  clear hB5 hI5 hR5 hm5 hv5 hb5 HA4 HO4 HB4
  obtain ⟨⟨a0, a1⟩, -⟩ := (HA3.out.below HB5.out).c2
  obtain ⟨⟨z0, z1⟩, y0, y1⟩ := (HZ3.out.below HB5.out).c2
  have HXL := hide (lent_text HX3.out.runes HL.out)
  have HLP := hide (show (us.take k).map IV.itm = vs.map IV.itm from by rw [HME.out, HM5.out])
  rcases hway with ⟨q0, rfl, rfl, rfl⟩ | ⟨q0, q1, rfl, rfl, rfl⟩ | ⟨q0, q1⟩
  case' inr.inl => have q2 : ¬ at_ ≤ (n : Int) := by omega
  case' inr.inr => have q2 : at_ ≤ (n : Int) := by omega
  case' inl => go_upto_region 8 with fail
  case' inr.inl => go_upto_region 8 with fail
  case' inr.inr => go_upto_region 8 with fail
  case' inl => rw [Box.set_same (HZ3.out.below HB5.out) (i := 0) (v := .int .i64 0) rfl, Box.set_same (HZ3.out.below HB5.out) (i := 1) (v := .int .i64 0) rfl]
  case' inr.inl => rw [Box.set_same (HZ3.out.below HB5.out) (i := 0) (v := .int .i64 0) rfl, Box.set_same (HZ3.out.below HB5.out) (i := 1) (v := .int .i64 0) rfl]
  case' inl => clear q0
  case' inr.inl => clear q0 q1 q2
  case' inr.inr => clear q0 q1 q2
  all_goals
    have h1 := ahead_any (some ⟨gx, 0, none⟩) n cx at_ s w5 (HXL.out.below HB5.out) (by omega)
    have h2 := rahead_any S n d at_ s w5 ((HS.out.below HB3.out).below HB5.out) (by omega)
    rw [HAM.out] at h1 h2
    have HH1 := hide h1
    have HH2 := hide h2
    have h3 := refSame_any A B an ac bn bc (preS s at_) (preS s at_) w5 HA5.out.runes HQ5.out (by omega) (by
      have g1 := HQ5.out.len
      unfold preS at g1
      rw [List.length_take, List.length_drop] at g1
      have g2 := HL.out
      omega)
    rw [show sameS (preS s at_) (preS s at_) = true from by simp [sameS]] at h3
    have HH3 := hide h3
    have HH4 := hide (fun q => sameItems_yes Ao Bo k k mo mc (us.take k) vs (w5.drewN q) (ItemsM.below ((RowG.items HO5.out.row).take hko) (lt_drewN w5 q)) (HI5.out.below (lt_drewN w5 q)) (Rd.below (fun u hu => (HO5.out.own u (List.mem_of_mem_take hu)).runes) (lt_drewN w5 q)) (HR5.out.below (lt_drewN w5 q)) HLP.out (by omega) (fun u hu => by have := HUS.out u (List.mem_of_mem_take hu); omega) (fun u hu => by have := HV5.out u hu; omega))
    clear h1 h2 h3 y0 y1
    go_upto_region 10 with (first
      | (go_at_call 58; (with_reducible refine HH1.out.mono ?_); rintro e w6 ⟨rfl, rfl⟩)
      | (go_at_call 59; (with_reducible refine HH2.out.mono ?_); rintro e w6 ⟨rfl, rfl⟩)
      | (go_at_call 31; (with_reducible refine HH3.out.mono ?_); rintro e w6 ⟨rfl, q6, rfl⟩)
      | (go_at_call 28; (with_reducible refine (HH4.out _).mono ?_); rintro e w7 ⟨rfl, q7, rfl⟩))
    have HA8 := hide (HA5.out.below (lt_drewN w5 (q6 + q7)))
    have HO8 := hide (HO5.out.below (lt_drewN w5 (q6 + q7)))
    have HB8 := hide (HB5.out.trans ((lt_drewN w5 (q6 + q7)).mono HB5.out.size))
    clear HH1 HH2 HH3 HH4 HA5 HO5 HB5 HI5 HR5 HQ5 HV5 HM5 HLP HUS HME HAM a0 a1 z0 z1 HXL
    generalize w5.drewN (q6 + q7) = w8 at HA8 HO8 HB8 ⊢
    go_upto_region 11 with (go_at_call 21; (with_reducible refine (spoil_any _ A an ac (preS s at_) _ HA8.out).mono ?_); rintro e w9 ⟨rfl, -, hg9⟩)
    have HSP := hide (show SpoW W3 w9 Ao no co 0 us from by
      refine ⟨HO8.out.row.kept hg9 ?_, fun j u _ hu => ⟨u.t, (HO8.out.own u (List.mem_of_getElem? hu)).kept hg9 ?_⟩, HB8.out.grown hg9 HB8.out.size fun g e => (HA8.out.blk_ge g e).1⟩
      · cases hA : blk Ao with
        | none => exact .inl rfl
        | some g =>
          refine .inr fun e => ?_
          rcases own_ne_row HA8.out HO8.out.row (by decide) with h1 | h1
          · rw [h1] at e; cases e
          · exact h1 (by rw [← e, hA])
      · cases hA : blk u.A with
        | none => exact .inl rfl
        | some g => exact .inr fun e => HAP.out u (List.mem_of_getElem? hu) g e.symm hA)
    have HPW := hide HO8.out.ap
    have HLE := hide HO8.out.len
    clear HA8 HO8 HB8 hg9 HAP
    go_wp2_with fail
    go_loopw [14, 83] (fun _ s83 wr => ∃ i : Nat, i ≤ k ∧ s83 = .int .i64 i ∧ Hid (SpoW W3 wr Ao no co i us)) (fun _ s83 _ => k - (intOf s83).toNat)
    case atStart => exact ⟨0, Nat.zero_le _, rfl, HSP.out⟩
    case round =>
      obtain ⟨i, hi, rfl, HSP⟩ := hrel
      by_cases hlt : i < k
      · obtain ⟨u, hu⟩ : ∃ u, us[i]? = some u := ⟨_, List.getElem?_eq_getElem (by rw [HLE.out]; omega)⟩
        have hv : (us.map IV.cells)[i]? = some u.cells := by rw [List.getElem?_map, hu]; rfl
        obtain ⟨b, rfl, h1, _⟩ := HSP.out.row.cell (i := 0) hv (by omega) rfl
        obtain ⟨l, hl⟩ := HSP.out.own i u (Nat.le_refl _) hu
        have HLL := hide hl
        have HU := hide hu
        have i0 : (0 : Int) ≤ (i : Int) := by omega
        have i1 : (i : Int) < (k : Int) := by omega
        rw [Nat.add_zero] at h1
        clear hl hu hv
        go_wp2_with (go_at_call 21; (with_reducible refine (spoil_any _ u.A u.n u.c l _ HLL.out).mono ?_); rintro e w10 ⟨rfl, -, hg10⟩)
        have HSP2 := hide (HSP.out.next HPW.out HU.out hg10)
        clear hg10 HLL HU h1 HSP
        go_roundw
        case rel => exact ⟨i + 1, by omega, by go_num, HSP2.out⟩
        case measure => simp [intOf]; omega
      · have HBZ := hide (HB3.out.trans (HSP.out.below.mono HB3.out.size))
        have HKP := hide (kept_yes (some ⟨gx, 0, none⟩) S n cx d s wr (HX3.out.below HSP.out.below).runes ((HS.out.below HB3.out).below HSP.out.below) hcx.1 hcx.2)
        go_wp2_with (go_at_call 20; (with_reducible refine HKP.out.mono ?_); rintro e w11 ⟨rfl, q11, rfl⟩)
        go_ret
        exact ⟨rfl, HBZ.out.trans ((lt_drewN wr q11).mono HBZ.out.size)⟩
end Go.Proofs.Ytchcpeenpijekaa

/- standishkeep.Plain: a string's bytes as runes. -/
namespace Go.Proofs.Ytchcpeenpijekaa
open Go.RowKit
set_option linter.unusedVariables false

theorem w32_of {l : List Int} (h : l.all (fun x => decide (-2147483648 ≤ x) && decide (x ≤ 2147483647)) = true) : W32 l := fun x hx => by
  have := List.all_eq_true.1 h x hx
  simp at this
  exact this
/-- A literal, in memory of the call's own. -/
theorem Own.news (w : World) (cs : Array Value) (l : List Int) (h : cs = (cells32 l).toArray) (hw : W32 l) (hl : l.length ≤ 9223372036854775807) : Own (w.alloc (.cells cs 21)) w.heap.size (some ⟨w.heap.size, 0, none⟩) l.length l.length l := by
  subst h
  refine ⟨⟨by simp [cells32], .inr ⟨w.heap.size, l.length, (cells32 l).toArray, rfl, Nat.le_refl _, heap_alloc_new w _, Nat.le_refl _, by unfold maxLen; omega, by simp [cells32], by simp [cells32, List.take_of_length_le]⟩⟩, hw⟩
theorem Own.newsAt {w : World} {g : Nat} (hg : w.heap.size = g) (cs : Array Value) (l : List Int) (h : cs = (cells32 l).toArray) (hw : W32 l) (hl : l.length ≤ 9223372036854775807) : Own (w.alloc (.cells cs 21)) g (some ⟨g, 0, none⟩) l.length l.length l := by
  subst hg
  exact Own.news w cs l h hw hl

/-- A string's bytes as runes. -/
def plainS (s : ByteArray) : List Int := s.data.toList.map fun c => (c.toNat : Int)
theorem plainS_len (s : ByteArray) : (plainS s).length = s.size := by
  unfold plainS
  rw [List.length_map]
  rfl
theorem plainS_at {s : ByteArray} {k : Nat} (h : k < s.size) : nth (plainS s) k = (s[k].toNat : Int) := by
  rw [nth_eq (by rw [plainS_len]; exact h)]
  simp [plainS]
  rfl
theorem u8_32 (x : UInt8) : wrap32 (x.toNat : Int) = (x.toNat : Int) := by
  have := x.toNat_lt
  unfold wrap32
  omega

set_option maxHeartbeats 1000000 in
theorem plain_any (s : ByteArray) (w : World) (hs : s.size ≤ 1000000) : Calls Try.prog 60 #[.string s] w (NewR w (plainS s)) := by
  go_enter Try.func60, Try.ntmps60
  go_wp2_with fail
  go_loopw [3, 4] (fun o i wr => ∃ (A : Option Addr) (k cap : Nat), o = .slice A k cap ∧ i = .int .i64 k ∧ k ≤ s.size ∧ Own wr w.heap.size A k cap ((plainS s).take k) ∧ Hid (Below w.heap.size w wr)) (fun _ i _ => s.size - (intOf i).toNat)
  case atStart => exact ⟨none, 0, 0, rfl, rfl, Nat.zero_le _, Own.nil _ _, Below.refl _ _⟩
  case round =>
    obtain ⟨A, k, cap, rfl, rfl, hk, hown, hb⟩ := hrel
    have HO := hide hown
    have hsz := hb.out.size
    clear hown
    by_cases hlt : k < s.size
    · have h0 : (0 : Int) ≤ (k : Int) := by omega
      have h0' : (k : Int) < (s.size : Int) := by omega
      have HX := hide (plainS_at hlt)
      have HTK := hide (take_snoc (l := plainS s) (k := k) (by rw [plainS_len]; exact hlt))
      have h8 := (s[k]).toNat_lt
      have hw := u8_32 s[k]
      go_wp2_with (at_builtin
                   refine wpList_app rfl (.tmp 11) (.tmp 16) rfl w.heap.size rfl (HO.out.alloc _) rfl (Runes.news _ _ _ [(s[k].toNat : Int)] rfl (W32.one (by omega))) (by simp; omega) (by simp; omega) ?_
                   intro A3 c3 w3 ho3 hg3 hb3 hbk _)
      have HO3 := hide ho3
      have HB3 := hide ((hb.out.alloc hsz (.cells #[.int .i32 (s[k].toNat : Int)] 21)).trans hb3)
      clear ho3 hg3 hb3 hbk
      go_roundw
      case rel => exact ⟨A3, k + 1, c3, rfl, by first | rfl | go_num, by omega, by
        rw [HTK.out, HX.out]; exact HO3.out, HB3.out⟩
      case measure => simp [intOf]; omega
    · obtain rfl : k = s.size := by omega
      have HE := hide (show (plainS s).take s.size = plainS s from List.take_of_length_le (by rw [plainS_len]; exact Nat.le_refl _))
      rw [HE.out] at HO
      go_wp2_with fail
      go_ret
      exact ⟨A, _, cap, rfl, HO.out, hb.out⟩

end Go.Proofs.Ytchcpeenpijekaa

/- The contract of standishlaw22.known: it answers true. -/
namespace Go.Proofs.Ytchcpeenpijekaa
open Go.RowKit
set_option linter.unusedVariables false

/-- ab a abc ab -/
abbrev kt : List Int := [97, 98, 32, 97, 32, 97, 98, 99, 32, 97, 98]
theorem kt_menu : menuS kt 4 = [([97, 98], 2), ([97, 98, 99], 1)] := by decide +kernel
theorem kt_none : menuS kt 0 = [] := by decide +kernel
theorem kt_pre : preS kt 4 = [97] := by decide +kernel
theorem kt_spans : spansS kt = [(0, 2), (3, 4), (5, 8), (9, 11)] := by decide +kernel
theorem kt_touch : touchL (spansS kt) 0 = some (0, 2) := by decide +kernel
theorem kt_a2 : aheadS kt 2 = 2 := by decide +kernel
theorem kt_a3 : aheadS kt 3 = 0 := by decide +kernel

set_option maxRecDepth 100000 in
set_option maxHeartbeats 4000000 in
theorem known22_any (w : World) : Calls Try.prog 37 #[] w fun e w' => e = .returned (.bool true) ∧ Below w.heap.size w w' := by
  go_enter Try.func37, Try.ntmps37
  go_upto_region 2 with (go_at_call 60; (with_reducible refine (plain_any ⟨#[97, 98, 32, 97, 32, 97, 98, 99, 32, 97, 98]⟩ _ (by decide)).mono ?_); rintro e w1 ⟨S, n, d, rfl, hO, hb1⟩)
  have hpl : plainS ⟨#[97, 98, 32, 97, 32, 97, 98, 99, 32, 97, 98]⟩ = kt := by decide +kernel
  rw [hpl] at hO
  obtain rfl : n = 11 := hO.len.symm
  have hcap := hO.cap
  have HR1 := hide hO.runes
  have HB1 := hide hb1
  clear hpl hO hb1
  go_upto_region 3 with (go_at_call 40; (with_reducible refine (menu_any S 11 d kt 4 _ HR1.out (by omega) hcap.1 hcap.2).mono ?_); rintro e w2 ⟨A, an, ac, Ao, no, co, us, k, rfl, hA2, hO2, hko, hno, hme, hap, hus, hb2⟩)
  rw [kt_menu] at hme
  rw [kt_pre] at hA2
  obtain ⟨u, v, huv⟩ : ∃ u v, us.take k = [u, v] := two_of (by have := congrArg List.length hme; simpa using this)
  have hk : k = 2 := by
    have h1 := congrArg List.length huv
    rw [List.length_take, hO2.len] at h1
    simp at h1
    omega
  subst hk
  have hu0 : us[0]? = some u := by have h := congrArg (fun l => l[0]?) huv; simpa using h
  have hv1 : us[1]? = some v := by have h := congrArg (fun l => l[1]?) huv; simpa using h
  rw [huv] at hme
  have hu : u.k = 2 := by
    injection hme with h1 _
    injection h1 with _ h2
  have hv : v.t = [97, 98, 99] := by
    injection hme with _ h1
    injection h1 with h1 _
    injection h1 with h1 _
  have hvn : v.n = 3 := by
    have h := (hO2.own v (List.mem_of_getElem? hv1)).len
    rw [hv] at h
    exact h.symm
  obtain ⟨g, rfl, d0, d1⟩ := RowG.itm_at hO2.row hu0
  obtain ⟨g', hg', e0, e1⟩ := RowG.itm_at hO2.row hv1
  injection hg' with hg'
  injection hg' with hg'
  subst hg'
  rw [hu] at d1
  rw [hvn] at e0
  have HA2 := hide hA2
  have HR2 := hide (HR1.out.below hb2)
  have HB2 := hide (HB1.out.trans (hb2.mono HB1.out.size))
  have HD1 := hide (fun W (hb : Below w2.heap.size w2 W) => show W.cell? ⟨g, 1, none⟩ = some (.int .i64 2) from (hb.cell (p := ⟨g, 0 * 2 + 1, none⟩) (World.block_lt_of_cell? _ _ d1)).trans d1)
  have HE0 := hide (fun W (hb : Below w2.heap.size w2 W) => show W.cell? ⟨g, 2, none⟩ = some (.slice v.A 3 v.c) from (hb.cell (p := ⟨g, 1 * 2, none⟩) (World.block_lt_of_cell? _ _ e0)).trans e0)
  clear hme hA2 hO2 hap hus hb2 huv hu0 hv1 hu hv hvn d0 d1 e0 e1 HR1 HB1
  have HTO := hide (show Calls Try.prog 39 #[.slice S 11 d, .int .i64 0] w2 fun e w' => e = .returned (.tuple #[.agg #[.int .i64 0, .int .i64 2], .bool true]) ∧ Below w2.heap.size w2 w' from touched_any S 11 d kt 0 w2 HR2.out (by omega) _ kt_touch)
  go_upto_region 4 with (go_at_call 39; (with_reducible refine HTO.out.mono ?_); rintro e w3 ⟨rfl, hb3⟩)
  obtain ⟨gs, hgs⟩ : ∃ gs, w3.heap.size = gs := ⟨_, rfl⟩
  have hba := (Below.refl w3.heap.size w3).alloc (Nat.le_refl _) (.cells #[.int .i64 0, .int .i64 2] 61)
  have HX3 := hide (Box.newAt hgs 61 #[.int .i64 0, .int .i64 2])
  have HB3 := hide (show Below w2.heap.size w2 (w3.alloc (.cells #[.int .i64 0, .int .i64 2] 61)) from hb3.trans (hba.mono hb3.size))
  rw [hgs]
  clear hb3 hba hgs HTO
  generalize w3.alloc (.cells #[.int .i64 0, .int .i64 2] 61) = W3 at HX3 HB3 ⊢
  go_upto_region 5 with (go_at_call 40; (with_reducible refine (menu_any S 11 d kt 0 _ (HR2.out.below HB3.out) (by omega) hcap.1 hcap.2).mono ?_); rintro e w4 ⟨A4, an4, ac4, Ao4, no4, co4, us4, k4, rfl, -, hO4, hko4, -, hme4, -, -, hb4⟩)
  rw [kt_none] at hme4
  obtain rfl : k4 = 0 := by
    have h1 := congrArg List.length hme4
    rw [List.length_map, List.length_take, hO4.len] at h1
    simp at h1
    omega
  have HX4 := hide (HX3.out.below hb4)
  have HB4 := hide (HB3.out.trans (hb4.mono HB3.out.size))
  clear hO4 hko4 hme4 hb4 HX3 HB3
  have HSP := hide (spans_any S 11 d kt w4 (HR2.out.below HB4.out) (by omega))
  have h3 := fun W (hb : Below w4.heap.size w4 W) => ahead_any S 11 d 2 kt W ((HR2.out.below HB4.out).below hb) (by omega)
  have h4 := fun W (hb : Below w4.heap.size w4 W) => ahead_any S 11 d 3 kt W ((HR2.out.below HB4.out).below hb) (by omega)
  rw [kt_a2] at h3
  rw [kt_a3] at h4
  have HA3 := hide (show ∀ W, Below w4.heap.size w4 W → Calls Try.prog 58 #[.slice S 11 d, .int .i64 2] W fun e w' => e = .returned (.int .i64 2) ∧ W = w' from h3)
  have HA4 := hide (show ∀ W, Below w4.heap.size w4 W → Calls Try.prog 58 #[.slice S 11 d, .int .i64 3] W fun e w' => e = .returned (.int .i64 0) ∧ W = w' from h4)
  clear h3 h4
  have hno2 : 2 ≤ no := hko
  go_wp2_with (first
    | (go_at_call 34; (with_reducible refine HSP.out.mono ?_); rintro e w5 ⟨A5, n5, c5, rfl, hO5, hb5⟩
       obtain rfl : n5 = 4 := by
         have h := SpO.len hO5
         rw [kt_spans] at h
         exact h.symm
       obtain ⟨⟨x0, x1⟩, -⟩ := (HX4.out.below hb5).c2
       have HB5 := hide hb5
       have hba := (Below.refl w5.heap.size w5).alloc (Nat.le_refl _) (.cells #[.int .i32 97] 21)
       have hb42 := HB4.out.trans (hb5.mono HB4.out.size)
       have hbz := hb42.trans (hba.mono hb42.size)
       have y0 := HD1.out _ hbz
       have y1 := HE0.out _ hbz
       have h9 := refSame_any A (some ⟨w5.heap.size, 0, none⟩) an ac 1 1 [97] [97] (w5.alloc (.cells #[.int .i32 97] 21)) (HA2.out.below hbz).runes (Runes.news w5 #[.int .i32 97] 21 [97] rfl (W32.one (by omega))) (by have := HA2.out.cap; omega) (by omega)
       rw [show sameS [97] [97] = true from by decide] at h9
       have HSA := hide h9
       have HBZ := hide hbz
       clear hO5 hb5 hba hb42 hbz h9)
    | (go_at_call 58; (with_reducible refine (HA3.out _ HB5.out).mono ?_); rintro e w6 ⟨rfl, rfl⟩)
    | (go_at_call 58; (with_reducible refine (HA4.out _ HB5.out).mono ?_); rintro e w6 ⟨rfl, rfl⟩)
    | (go_at_call 31; (with_reducible refine HSA.out.mono ?_); rintro e w7 ⟨rfl, q7, rfl⟩))
  go_ret
  have hz := HB2.out.trans (HBZ.out.mono HB2.out.size)
  exact ⟨rfl, hz.trans ((lt_drewN _ q7).mono hz.size)⟩
end Go.Proofs.Ytchcpeenpijekaa
