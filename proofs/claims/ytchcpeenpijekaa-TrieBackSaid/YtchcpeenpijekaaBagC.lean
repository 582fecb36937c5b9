/- The reference's bag: All, Count, Begins, With. -/
import Derived.Test.YtchcpeenpijekaaBagB
namespace Go.Proofs.Ytchcpeenpijekaa
open Go.RowKit Go.Maps Go.MapKept Go.ChangeMaps Go.Shelf
set_option linter.unusedVariables false

theorem allB_take {L : List Itm} {i : Nat} {x : Itm} (h : L[i]? = some x) : allB (L.take (i + 1)) = allB (L.take i) + x.2 := by
  obtain ⟨hi, rfl⟩ := List.getElem?_eq_some_iff.1 h
  rw [List.take_succ_eq_append_getElem hi]
  unfold allB
  rw [List.map_append, List.sum_append]
  simp only [List.map_cons, List.map_nil, List.sum_cons, List.sum_nil, Nat.add_zero]
theorem allB_take_le (L : List Itm) (i : Nat) : allB (L.take i) ≤ allB L := by
  conv => rhs; rw [← List.take_append_drop i L]
  unfold allB
  rw [List.map_append, List.sum_append]
  omega
section
variable {P : Nat → Prop} {w w' : World} {B g n c : Nat} {A : Option Addr} {us : List IV} {L : List Itm}
set_option maxRecDepth 100000 in
set_option maxHeartbeats 1000000 in
theorem ball_any (h : BagV P w B g A n c us L) (hn : n ≤ 1000000) (ha : allB L ≤ 1000000) :
    Calls Try.prog 46 #[.pointer (some ⟨g, 0, none⟩)] w fun e w' => e = .returned (.int .i64 (allB L : Nat)) ∧ w = w' := by
  have HB := hide h
  have c0 : w.cell? ⟨g, 0, none⟩ = some (.slice A n c) := h.box.cell 0
  have HL := hide h.len
  clear h
  go_enter Try.func46, Try.ntmps46
  go_wp2_with fail
  go_loop [3, 4] (fun s3 s4 => ∃ i s : Nat, i ≤ n ∧ s4 = .int .i64 i ∧ s3 = .int .i64 s ∧ Hid (s = allB (L.take i))) (fun _ s4 => n - (intOf s4).toNat)
  case atStart => exact ⟨0, 0, Nat.zero_le _, rfl, rfl, rfl⟩
  case round =>
    obtain ⟨i, s, hi, rfl, rfl, HS⟩ := hrel
    by_cases hlt : i < n
    · obtain ⟨u, b, hu, hL, rfl, hc1, hc2, -, hrd⟩ := HB.out.at_ hlt
      have h2 := allB_take hL
      have h3 := allB_take_le L (i + 1)
      have HS2 := hide (show s + u.k = allB (L.take (i + 1)) from by rw [h2, HS.out])
      have hb2 : s + u.k ≤ 1000000 := by have := HS2.out; omega
      have i0 : (0 : Int) ≤ (i : Int) := by omega
      have i1 : (i : Int) < (n : Int) := by omega
      clear hu hL hc1 hrd h2 h3 HS
      go_wp2_with fail
      go_round
      case rel => exact ⟨i + 1, s + u.k, by omega, by go_num, by go_num, HS2.out⟩
      case measure => simp [intOf]; omega
    · obtain rfl : i = n := by omega
      have HE := hide (show s = allB L from by
        have := HS.out
        rwa [List.take_of_length_le (by rw [HL.out.2]; exact Nat.le_refl _)] at this)
      clear HS
      go_wp2_with fail
      go_ret
      exact ⟨by rw [← HE.out]; rfl, rfl⟩

theorem lt_drewN (w : World) (q : Nat) : Below w.heap.size w (w.drewN q) := ⟨rfl, rfl, rfl, Nat.le_refl _, fun _ _ => rfl⟩
set_option maxHeartbeats 1000000 in
theorem bcount_any (S : Option Addr) (m d : Nat) (l : List Int) (h : BagV P w B g A n c us L) (hb : BagW L) (hn : n ≤ 1000000) (hS : Runes w S m l) (hm : m ≤ 9223372036854775807) (hw : ∀ u ∈ us, u.n ≤ 1000000) :
    Calls Try.prog 17 #[.pointer (some ⟨g, 0, none⟩), .slice S m d] w fun e w' => e = .returned (.int .i64 (cntB L l : Nat)) ∧ ∃ q, w' = w.drewN q := by
  have HA := hide (bat_any S m d l h hb hn hS hm hw)
  have HL := hide h.len
  by_cases h0 : 0 < cntB L l
  · have hk := posB_lt h0
    obtain ⟨k, hkk⟩ : ∃ k, posB L l = k := ⟨_, rfl⟩
    rw [hkk, decide_eq_true h0] at HA
    rw [hkk] at hk
    obtain ⟨u, b, hu, hL, rfl, hc1, hc2, -, hrd⟩ := h.at_ (j := k) (by rw [← HL.out.2]; exact hk)
    have HC := hide (show cntB L l = u.k from by
      rw [← hkk] at hL
      have h2 := posB_at hb hL
      exact h2.2 (h2.1.2 h0))
    have c0 : w.cell? ⟨g, 0, none⟩ = some (.slice (some ⟨b, 0, none⟩) n c) := h.box.cell 0
    have i0 : (0 : Int) ≤ (k : Int) := by omega
    have i1 : (k : Int) < (n : Int) := by have := HL.out; omega
    clear h hS hu hL hc1 hrd hkk h0 hb
    go_enter Try.func17, Try.ntmps17
    go_wp2_with (go_at_call 42; refine HA.out.mono ?_; rintro e w1 ⟨rfl, q, rfl⟩)
    go_ret
    exact ⟨by rw [HC.out]; rfl, q, rfl⟩
  · rw [decide_eq_false h0] at HA
    have HC := hide (show cntB L l = 0 by omega)
    generalize posB L l = k at HA
    clear h hS h0 hb
    go_enter Try.func17, Try.ntmps17
    go_wp2_with (go_at_call 42; refine HA.out.mono ?_; rintro e w1 ⟨rfl, q, rfl⟩)
    go_ret
    exact ⟨by rw [HC.out]; rfl, q, rfl⟩
end

theorem begS_eq (s p : List Int) : begS s p = (decide (p.length ≤ s.length) && sameS (s.take p.length) p) := by
  unfold begS sameS
  by_cases h : p.length ≤ s.length
  · rw [decide_eq_true h, Bool.true_and]
    refine decide_eq_decide.2 ?_
    rw [List.prefix_iff_eq_take]
    exact eq_comm
  · rw [decide_eq_false h, Bool.false_and, decide_eq_false]
    exact fun e => h e.length_le
set_option maxHeartbeats 1000000 in
theorem begins_any (S T : Option Addr) (n c m d : Nat) (s p : List Int) (w : World) (hS : Runes w S n s) (hT : Runes w T m p) (hn : n ≤ c) (hc : c ≤ 9223372036854775807) (hm : m ≤ 9223372036854775807) :
    Calls Try.prog 30 #[.slice S n c, .slice T m d] w fun e w' => e = .returned (.bool (begS s p)) ∧ ∃ q, w' = w.drewN q := by
  have hls := hS.len
  have hlt := hT.len
  have HE := hide (begS_eq s p)
  by_cases hle : m ≤ n
  · have HS := hide (refSame_any S T m c m d (s.take m) p w (hS.take hle) hT (by omega) hm)
    have hsl := fun W => run_sub_h S n c m (by omega) W
    have hd : decide ((m : Int) ≤ (n : Int)) = true := by simp; omega
    have HE2 := hide (show begS s p = sameS (s.take m) p from by rw [HE.out, hlt, hls, decide_eq_true hle, Bool.true_and])
    have i0 : (0 : Int) ≤ (m : Int) := by omega
    have i1 : (m : Int) ≤ (n : Int) := by omega
    have i2 : (m : Int) ≤ (c : Int) := by omega
    clear hS hT hls hlt HE
    go_enter Try.func30, Try.ntmps30
    go_wp2_with (go_at_call 31; refine HS.out.mono ?_; rintro e w1 ⟨rfl, q, rfl⟩)
    go_ret
    exact ⟨by rw [HE2.out]; rfl, q, rfl⟩
  · have hd : ¬ m ≤ n := hle
    have HE2 := hide (show begS s p = false from by rw [HE.out, hlt, hls, decide_eq_false hle, Bool.false_and])
    clear hS hT hls hlt HE hle
    go_enter Try.func30, Try.ntmps30
    go_wp2_with fail
    go_ret
    exact ⟨by rw [HE2.out]; rfl, 0, rfl⟩

/-- What the reference's With hands back. -/
def WithM (L : List Itm) (p : List Int) (w : World) (e : Ending) (w' : World) : Prop := ∃ Ao no co us, e = .returned (.slice Ao no co) ∧ RowG w' 49 2 w.heap.size Ao no co (us.map IV.cells) ∧ us.map IV.itm = withB L p ∧ Rd w' us ∧ (∀ u ∈ us, u.n ≤ 1000000) ∧ Below w.heap.size w w'
section
variable {P : Nat → Prop} {w w' : World} {B g n c : Nat} {A : Option Addr} {us : List IV} {L : List Itm}
theorem filter_map_itm (us : List IV) (p : List Int) : (us.filter fun u => begS u.t p).map IV.itm = withB (us.map IV.itm) p := by
  unfold withB
  rw [List.filter_map]
  rfl
set_option maxRecDepth 100000 in
set_option maxHeartbeats 2000000 in
theorem bwith_any (S : Option Addr) (m d : Nat) (p : List Int) (h : BagV P w B g A n c us L) (hn : n ≤ 1000000) (hS : Runes w S m p) (hm : m ≤ 9223372036854775807) (hw : ∀ u ∈ us, u.n ≤ 1000000 ∧ u.n ≤ u.c ∧ u.c ≤ 9223372036854775807) :
    Calls Try.prog 47 #[.pointer (some ⟨g, 0, none⟩), .slice S m d] w (WithM L p w) := by
  have HB := hide h
  have HL := hide h.len
  have HS := hide hS
  have HW := hide hw
  have HQ := hide h.eq
  have HRD := hide h.rd
  clear h hS hw
  go_enter Try.func47, Try.ntmps47
  go_wp2_with fail
  go_loopw [5, 6] (fun s5 s6 wr => ∃ (i : Nat) (O : Option Addr) (no co : Nat), i ≤ n ∧ s6 = .int .i64 i ∧ s5 = .slice O no co ∧ no ≤ i ∧ Hid (RowG wr 49 2 w.heap.size O no co (((us.take i).filter fun u => begS u.t p).map IV.cells)) ∧ Hid (Below w.heap.size w wr)) (fun _ s6 _ => n - (intOf s6).toNat)
  case atStart => exact ⟨0, none, 0, 0, Nat.zero_le _, rfl, rfl, Nat.le_refl _, RowG.nil _ _ _ _, Below.refl _ _⟩
  case round =>
    obtain ⟨i, O, no, co, hi, rfl, rfl, hno, HR, HBE⟩ := hrel
    have c0 : wr.cell? ⟨g, 0, none⟩ = some (.slice A n c) := (HB.out.below HBE.out).box.cell 0
    by_cases hlt : i < n
    · obtain ⟨u, b, hu, hL, rfl, hc1, hc2, -, hrd⟩ := (HB.out.below HBE.out).at_ hlt
      obtain ⟨hu1, hu2, hu3⟩ := HW.out u (List.mem_of_getElem? hu)
      have HG := hide (begins_any u.A S u.n u.c m d u.t p wr hrd (HS.out.below HBE.out) hu2 hu3 hm)
      have i0 : (0 : Int) ≤ (i : Int) := by omega
      have i1 : (i : Int) < (n : Int) := by omega
      have HT := hide (show (us.take (i + 1)).filter (fun u => begS u.t p) = (us.take i).filter (fun u => begS u.t p) ++ if begS u.t p then [u] else [] from by
        obtain ⟨hil, rfl⟩ := List.getElem?_eq_some_iff.1 hu
        rw [List.take_succ_eq_append_getElem hil, List.filter_append]
        congr 1
        rw [List.filter_cons, List.filter_nil])
      clear hu hL hrd
      cases hbs : begS u.t p with
      | true =>
        rw [hbs] at HG
        rw [hbs, if_pos rfl] at HT
        clear hbs
        go_wp2_with (first
          | (go_at_call 30; refine HG.out.mono ?_; rintro e w1 ⟨rfl, q, rfl⟩)
          | (at_builtin
             refine wpList_appG itemT rfl (.tmp 26) (.tmp 34) rfl w.heap.size rfl (by first | exact (HR.out.drewN q).alloc _ | exact (HR.out.alloc _).drewN q) (m := 1) (d := 1) rfl (us := [IV.cells u]) (by first | exact news_box (cs := (IV.cells u).toArray) (Box.new _ _ _) | exact news_box (cs := (IV.cells u).toArray) ((Box.new _ _ _).drewN q)) (Each.one (IV.one u).1 (IV.one u).2) rfl (by omega) (by omega) (by omega) (by have := HBE.out.size; simp; omega) ?_
             intro g2 c2 w2 hrow2 hg2 hb2 _))
        have HR2 := hide hrow2
        have HB2 := hide (show Below w.heap.size w w2 from by first | exact (((HBE.out.trans ((lt_drewN wr q).mono HBE.out.size)).alloc HBE.out.size _).trans hb2) | exact (((HBE.out.alloc HBE.out.size _).trans ((lt_drewN _ q).mono (by have := HBE.out.size; simp; omega))).trans hb2))
        clear hrow2 hg2 hb2 hc1 hc2 c0
        rw [← List.map_singleton (f := IV.cells), ← List.map_append, ← HT.out] at HR2
        go_roundw
        case rel => exact ⟨i + 1, _, no + 1, c2, by omega, by go_num, rfl, by omega, HR2.out, HB2.out⟩
        case measure => simp [intOf]; omega
      | false =>
        rw [hbs, if_neg (by simp), List.append_nil] at HT
        rw [hbs] at HG
        clear hbs
        go_wp2_with (go_at_call 30; refine HG.out.mono ?_; rintro e w1 ⟨rfl, q, rfl⟩)
        have HB2 := hide (HBE.out.trans ((lt_drewN wr q).mono HBE.out.size))
        have HR2 := hide (HR.out.drewN q)
        rw [← HT.out] at HR2
        go_roundw
        case rel => exact ⟨i + 1, O, no, co, by omega, by go_num, rfl, by omega, HR2.out, HB2.out⟩
        case measure => simp [intOf]; omega
    · obtain rfl : i = n := by omega
      have hus : us.take i = us := List.take_of_length_le (by rw [HL.out.1]; exact Nat.le_refl _)
      rw [hus] at HR
      clear hus
      go_wp2_with fail
      go_ret
      refine ⟨O, no, co, us.filter fun u => begS u.t p, rfl, HR.out, by rw [filter_map_itm, HQ.out], fun u hu => ?_, fun u hu => ?_, HBE.out⟩
      · exact (HRD.out u (List.mem_filter.1 hu).1).below HBE.out
      · exact (HW.out u (List.mem_filter.1 hu).1).1
end
end Go.Proofs.Ytchcpeenpijekaa
