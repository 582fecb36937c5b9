/- The reference's bag: Drop. -/
import Derived.Test.YtchcpeenpijekaaBagG
import Derived.BigRegion
namespace Go.Proofs.Ytchcpeenpijekaa
open Go.RowKit Go.Maps Go.MapKept Go.ChangeMaps Go.Shelf
set_option linter.unusedVariables false

/-- append, hidden from the simplifier: a run of it that is laid ahead is used as it stands. -/
def appSem (ts : Array TypeId) (ty : TypeId) (args : Array Value) : Sem Value := Builtin.append_ ts ty args
theorem app_sem (ts : Array TypeId) (ty : TypeId) (args : Array Value) : Builtin.append_ ts ty args = appSem ts ty args := rfl
attribute [local go_sem ↓] app_sem

def BDropQ (P : Nat → Prop) (w : World) (B g : Nat) (L : List Itm) (l : List Int) (e : Ending) (w' : World) : Prop := e = .returned (.int .i64 (dropE L l)) ∧ CalmB B w w' ∧ BagM P w' B g (dropB L l)
section
variable {P : Nat → Prop} {w w' : World} {B g n c : Nat} {A : Option Addr} {us : List IV} {L : List Itm}
theorem BagV.del {wq w4 : World} {A4 : Option Addr} {k c4 : Nat} (h : BagV P wq B g A n c us L) (hq : B ≤ wq.heap.size) (hb : Below wq.heap.size wq w4)
    (hr : RowG w4 49 2 wq.heap.size A4 (k + (n - (k + 1))) c4 ((us.take k).map IV.cells ++ (us.drop (k + 1)).map IV.cells)) :
      BagM P (w4.setCell ⟨g, 0, none⟩ (.slice A4 (k + (n - (k + 1))) c4)) B g (L.take k ++ L.drop (k + 1)) ∧
      CalmB B wq (w4.setCell ⟨g, 0, none⟩ (.slice A4 (k + (n - (k + 1))) c4)) := by
  rw [← List.map_append] at hr
  have hx4 : Box w4 g 28 #[.slice A n c] := h.box.below hb
  have hin : ∀ u ∈ us.take k ++ us.drop (k + 1), u ∈ us := fun u hu => by
    rcases List.mem_append.1 hu with hu | hu
    · exact List.mem_of_mem_take hu
    · exact List.mem_of_mem_drop hu
  obtain ⟨h5, h5c⟩ := h.row_ hq (CalmB.of_below hb hq) hx4 (hr.mono hq) (fun u hu => (h.rd u (hin u hu)).below hb) (fun u hu => h.off u (hin u hu)) (fun u hu => h.cap u (hin u hu))
  refine ⟨?_, h5c⟩
  · have e : L.take k ++ L.drop (k + 1) = (us.take k ++ us.drop (k + 1)).map IV.itm := by rw [← h.eq, List.map_append, List.map_take, List.map_drop]
    rw [e]
    exact ⟨_, _, _, _, h5⟩

set_option maxRecDepth 100000 in
set_option maxHeartbeats 1000000 in
theorem bdrop_any (S : Option Addr) (m d : Nat) (l : List Int) (h : BagM P w B g L) (hs : Small L) (hS : Runes w S m l) (hB : B ≤ w.heap.size) (hm : m ≤ 35184372088832) :
    Calls Try.prog 15 #[.pointer (some ⟨g, 0, none⟩), .slice S m d] w (BDropQ P w B g L l) := by
  obtain ⟨A, n, c, us, h⟩ := h
  have hsz := h.sizes hs
  have T1 := hide (bat_any S m d l h hs.bag (by omega) hS (by omega) fun u hu => by have := hsz.2 u hu; omega)
  have HV := hide h
  have HSM := hide hs
  have HB := hide hB
  have HLEN := hide h.len
  have hn := hsz.1
  by_cases h0 : 0 < cntB L l
  · have hk := posB_lt h0
    obtain ⟨k, hkk⟩ : ∃ k, posB L l = k := ⟨_, rfl⟩
    rw [hkk, decide_eq_true h0] at T1
    rw [hkk] at hk
    obtain ⟨u, b, hu, hLu, hA, hc1, hc2, hf2, hrd⟩ := h.at_ (j := k) (by rw [← HLEN.out.2]; exact hk)
    have hu2 : u.t = l ∧ cntB L l = u.k := by
      rw [← hkk] at hLu
      have h2 := posB_at hs.bag hLu
      exact ⟨h2.1.2 h0, h2.2 (h2.1.2 h0)⟩
    have hset := fun q => (h.below (lt_drewN w q)).setK hu hA (u.k - 1) (by exact hB) (by subst hA; exact (h.row.blk_ge b rfl).1)
    have e1 : ((u.k - 1 : Nat) : Int) = (u.k : Int) - 1 := by omega
    simp only [e1] at hset
    have HSET := hide hset
    have HE := hide (show dropE L l = 0 from if_neg (by omega))
    have c0 : w.cell? ⟨g, 0, none⟩ = some (.slice (some ⟨b, 0, none⟩) n c) := by rw [← hA]; exact h.box.cell 0
    have i0 : (0 : Int) ≤ (k : Int) := by omega
    have i1 : (k : Int) < (n : Int) := by have := HLEN.out; omega
    have hub : u.k ≤ 1000 := by rw [← hu2.2]; have := cnt_le_all L l; have := hs.all; omega
    have huk : 0 < u.k := by rw [← hu2.2]; exact h0
    have HU := hide hu2
    have HUK := hide hu
    have HKK := hide hkk
    clear h hs hS hB hsz hk hkk hu hLu hc1 hrd hu2 hset e1
    subst hA
    go_enter Try.func15, Try.ntmps15
    go_upto_region 5 with (go_at_call 42; refine T1.out.mono ?_; rintro e w1 ⟨rfl, q, rfl⟩)
    have HV5 := hide (HSET.out q).1
    have HC5 := hide ((CalmB.of_below (B := B) (lt_drewN w q) HB.out).trans (HSET.out q).2)
    have d0 : ((w.drewN q).setCell ⟨b, k * 2 + 1, none⟩ (.int .i64 ((u.k : Int) - 1))).cell? ⟨g, 0, none⟩ = some (.slice (some ⟨b, 0, none⟩) n c) := HV5.out.box.cell 0
    have d1 : ((w.drewN q).setCell ⟨b, k * 2 + 1, none⟩ (.int .i64 ((u.k : Int) - 1))).cell? ⟨b, k * 2 + 1, none⟩ = some (.int .i64 ((u.k : Int) - 1)) := by
      obtain ⟨v, b2, hv, _, hb2, _, hc3, _⟩ := HV5.out.at_ (j := k) (by omega)
      injection hb2 with hb2
      injection hb2 with hb2
      subst hb2
      rw [List.getElem?_set_self (by have := HLEN.out; omega)] at hv
      injection hv with hv
      subst hv
      rw [hc3]
      dsimp only
      congr 2
      omega
    clear T1 HSET hc2 hf2 c0
    generalize (w.drewN q).setCell ⟨b, k * 2 + 1, none⟩ (.int .i64 ((u.k : Int) - 1)) = w5 at HV5 HC5 d0 d1 ⊢
    by_cases h1 : 1 < u.k
    · have hd : ((u.k : Int) - 1 == 0) = false := by simp; omega
      have hR := hide (show BDropQ P w B g L l (.returned (.int .i64 0)) w5 from ⟨by rw [HE.out], HC5.out, _, _, _, _, by
        rw [dropB_more (by rw [HU.out.2]; exact h1) HSM.out.bag, HKK.out, HU.out.2]
        have h2 := HV5.out
        rw [HU.out.1] at h2
        exact h2⟩)
      go_wp2_with fail
      go_ret
      exact hR.out
    · have hd : ((u.k : Int) - 1 == 0) = true := by simp; omega
      have HD := hide (show dropB L l = L.take k ++ L.drop (k + 1) from by rw [dropB_one (by rw [HU.out.2]; omega) HSM.out.bag, HKK.out])
      go_upto_region 6 with fail
      have hkn : k ≤ n := by omega
      have HV6 := HV5.out.below (lt_drewN w5 1)
      have hcap := HV6.row.cap
      have hlen := HV6.len
      obtain ⟨A1, c1, v1, hrun1, hr1, hg1, _⟩ := run_appT 26 (RowG.nil (w5.drewN 1) 49 2 w5.heap.size) (HV6.row.items.take hkn) (by omega) (Nat.le_refl _)
      simp only [Nat.zero_add, List.nil_append] at hrun1 hr1
      have hb1 : Below w5.heap.size (w5.drewN 1) v1 := (Below.refl _ _).grown hg1 (Nat.le_refl _) fun g e => by cases e
      obtain ⟨A2, c2, v2, hrun2, hr2, hg2, _⟩ := run_appT 26 hr1 ((HV6.row.items.sub (a := k + 1) (by omega) hcap.1).below hb1) (by omega) hb1.size
      have hb2 : Below w5.heap.size (w5.drewN 1) v2 := hb1.grown hg2 hb1.size fun g e => (hr1.blk_ge g e).1
      have hB5 : B ≤ w5.heap.size := by have := HV5.out.box.lt; have := HV5.out.base; omega
      obtain ⟨hbag, hcalm⟩ := HV6.del hB5 hb2 hr2
      have hR := hide (show BDropQ P w B g L l (.returned (.int .i64 0)) (v2.setCell ⟨g, 0, none⟩ (.slice A2 (k + (n - (k + 1))) c2)) from ⟨by rw [HE.out], (HC5.out.trans (CalmB.of_below (lt_drewN w5 1) hB5)).trans hcalm, by
        rw [HD.out]
        have e : ∀ x : Itm, (L.set k x).take k ++ (L.set k x).drop (k + 1) = L.take k ++ L.drop (k + 1) := fun x => by
          rw [List.take_set_of_le (Nat.le_refl k), List.drop_set_of_lt (by omega)]
        rw [e] at hbag
        exact hbag⟩)
      have hsh := fun W => run_subT_h (some ⟨b, 0, none⟩) n c k (by omega) W
      have hsl := fun W => run_subT_l (some ⟨b, 0, none⟩) n c (k + 1) (by omega) W
      have hgl := HV5.out.box.lt
      have hrun1' : (appSem #[26, 26] 26 #[.slice none 0 0, .slice (some ⟨b, 0, none⟩) k c]).run Try.prog w5.drew = .ok (.slice A1 k c1) v1 := hrun1
      have hrun2' : (appSem #[26, 26] 26 #[.slice A1 k c1, .slice (subT (some ⟨b, 0, none⟩) c (k + 1)) (n - (k + 1)) (c - (k + 1))]).run Try.prog v1 = .ok (.slice A2 (k + (n - (k + 1))) c2) v2 := hrun2
      have s1 : v1.cell? ⟨g, 0, none⟩ = some (.slice (some ⟨b, 0, none⟩) n c) := (HV6.box.below hb1).cell 0
      have hx2 := HV6.box.below hb2
      obtain ⟨s2, s3⟩ := hx2.c1
      have ek : ((k + 1 : Nat) : Int) = (k : Int) + 1 := by omega
      rw [ek] at hsl
      have i2 : (k : Int) + 1 ≤ (n : Int) := by omega
      clear hrun1 hrun2 hr1 hr2 hg1 hg2 hb1 hb2 hbag hcalm hx2 HV6 HV5 HC5 hub huk hlen HD HE HU HUK HKK HLEN
      go_cut [] (fun wx => wx = v2.setCell ⟨g, 0, none⟩ (.slice A2 (k + (n - (k + 1))) c2))
      case first =>
        clear hR
        go_region
        clear hrun1' hrun2' hsh hsl s1 s2 s3 d0 d1
        all_goals go_wp2_with fail
        all_goals go_meet
        all_goals rfl
      case rest =>
      obtain rfl := hcut
      go_wp2_with fail
      go_ret
      exact hR.out
  · have T2 := T1
    rw [decide_eq_false h0] at T2
    have hR := hide (show ∀ q, BDropQ P w B g L l (.returned (.int .i64 4)) (w.drewN q) from fun q => ⟨by rw [dropE, if_pos (by omega)], CalmB.of_below (lt_drewN w q) hB, A, n, c, us, by
      rw [dropB_no (by omega) hs.bag]
      exact h.below (lt_drewN w q)⟩)
    clear T1 h hs hS hsz h0
    go_enter Try.func15, Try.ntmps15
    go_wp2_with (go_at_call 42; refine T2.out.mono ?_; rintro e w1 ⟨rfl, q, rfl⟩)
    go_ret
    exact hR.out q
end
end Go.Proofs.Ytchcpeenpijekaa
