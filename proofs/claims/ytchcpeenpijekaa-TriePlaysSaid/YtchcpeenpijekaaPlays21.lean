/- The walk of standishlaw21.TriePlays: it answers true. -/
import Derived.Test.YtchcpeenpijekaaTwo21
namespace Go.Proofs.Ytchcpeenpijekaa
open Go.RowKit Go.Maps Go.MapKept Go.ChangeMaps Go.Shelf
set_option linter.unusedVariables false

/-- Between the deed and the look at what it did. -/
structure Mid21 (w w1 wx : World) (t K g gx cx m : Nat) (T : Option Addr) (q : List Int) (L : List Itm) : Prop where
  two : Two21 (fun z => z ≠ gx) w wx t K g L
  own : Own wx w1.heap.size (some ⟨gx, 0, none⟩) (m + 2) cx (q ++ [-77, -78])
  rd : Runes wx T m q
  off : ∀ b o, T = some ⟨b, o, none⟩ → 0 < m → b ≠ gx
  lens : q.length = m
  base : w.heap.size ≤ gx
section
variable {w w1 wx w2 w3 : World} {t K g gx cx m d : Nat} {T : Option Addr} {q : List Int} {L : List Itm}
theorem Mid21.next (h : Mid21 w w1 wx t K g gx cx m T q L) (hb : Below wx.heap.size wx w2) : Mid21 w w1 w2 t K g gx cx m T q L := ⟨h.two.next hb, h.own.below hb, h.rd.below hb, h.off, h.lens, h.base⟩
theorem Mid21.x (h : Mid21 w w1 wx t K g gx cx m T q L) : Runes wx (some ⟨gx, 0, none⟩) m q := by
  have h1 := (h.own.takeP (m := m) (by omega)).runes
  rwa [List.take_append_of_le_length (by rw [h.lens]; exact Nat.le_refl _), List.take_of_length_le (by rw [h.lens]; exact Nat.le_refl _)] at h1
theorem Mid21.add (h : Mid21 w w1 wx t K g gx cx m T q L) (hm : m ≤ 12) (hK : K ≤ 1000000) : Calls Try.prog 18 #[.pointer (some ⟨t, 0, none⟩), .slice (some ⟨gx, 0, none⟩) m cx] wx (AddQ wx w.heap.size t K L q) :=
  tadd_any h.two.t_ h.x (by omega) h.two.below.size (by omega)
theorem Mid21.gx_lt (h : Mid21 w w1 wx t K g gx cx m T q L) : gx < wx.heap.size := (h.own.blk_ge gx rfl).2
theorem Mid21.add2 (h : Mid21 w w1 wx t K g gx cx m T q L) {e : Ending} (hm : m ≤ 12) (ha : AddQ wx w.heap.size t K L q e w2) : Calls Try.prog 19 #[.pointer (some ⟨g, 0, none⟩), .slice T m d] w2 (BAddQ (fun z => z ≠ gx) w2 w.heap.size g L q) :=
  badd_any T m d q (h.two.g_.calm ha.2.1) h.two.t_.1 (ha.2.1.runes h.rd) (Nat.le_trans h.two.below.size ha.2.1.size) (by omega) fun z hz => by have := h.gx_lt; have := ha.2.1.size; omega
theorem Mid21.added (h : Mid21 w w1 wx t K g gx cx m T q L) {e e2 : Ending} (ha : AddQ wx w.heap.size t K L q e w2) (hb : BAddQ (fun z => z ≠ gx) w2 w.heap.size g L q e2 w3) : Mid21 w w1 w3 t (K + 1000) g gx cx m T q (addL L q) :=
  ⟨⟨ha.2.2.calm hb.2.1, hb.2.2, (h.two.below.trans ha.2.1.low).trans hb.2.1.low⟩, hb.2.1.own (ha.2.1.own h.own), hb.2.1.runes (ha.2.1.runes h.rd), h.off, h.lens, h.base⟩
theorem Mid21.drop (h : Mid21 w w1 wx t K g gx cx m T q L) (hm : m ≤ 12) (hK : K ≤ 1000000) : Calls Try.prog 14 #[.pointer (some ⟨t, 0, none⟩), .slice (some ⟨gx, 0, none⟩) m cx] wx (DropQ wx w.heap.size t K L q) :=
  tdrop_any h.two.t_ h.x (by omega) h.two.below.size (by omega)
theorem Mid21.drop2 (h : Mid21 w w1 wx t K g gx cx m T q L) {e : Ending} (hm : m ≤ 12) (ha : DropQ wx w.heap.size t K L q e w2) : Calls Try.prog 15 #[.pointer (some ⟨g, 0, none⟩), .slice T m d] w2 (BDropQ (fun z => z ≠ gx) w2 w.heap.size g L q) :=
  bdrop_any T m d q (h.two.g_.calm ha.2.1) h.two.t_.1 (ha.2.1.runes h.rd) (Nat.le_trans h.two.below.size ha.2.1.size) (by omega)
theorem TrieB.more {B K' : Nat} (h : TrieB w B t K L) (hK : K ≤ K') : TrieB w B t K' L := by
  obtain ⟨h1, N, Q, h2⟩ := h
  have hT := h2.trie
  exact ⟨h1, N, Q, ⟨⟨hT.tree.node, fun p x hx => by
    obtain ⟨n, hn, hm⟩ := hT.tree.kids p x hx
    exact ⟨n, Nat.le_trans hn hK, hm⟩, hT.tree.one, hT.tree.up, hT.tree.base⟩, hT.box, hT.one, hT.mem, hT.live, hT.base⟩, h2.bag, h2.mem⟩
theorem Mid21.more (h : Mid21 w w1 wx t K g gx cx m T q L) : Mid21 w w1 wx t (K + 1000) g gx cx m T q L := ⟨⟨h.two.t_.more (by omega), h.two.g_, h.two.below⟩, h.own, h.rd, h.off, h.lens, h.base⟩
theorem Mid21.dropped (h : Mid21 w w1 wx t K g gx cx m T q L) {e e2 : Ending} (ha : DropQ wx w.heap.size t K L q e w2) (hb : BDropQ (fun z => z ≠ gx) w2 w.heap.size g L q e2 w3) : Mid21 w w1 w3 t K g gx cx m T q (dropB L q) :=
  ⟨⟨ha.2.2.calm hb.2.1, hb.2.2, (h.two.below.trans ha.2.1.low).trans hb.2.1.low⟩, hb.2.1.own (ha.2.1.own h.own), hb.2.1.runes (ha.2.1.runes h.rd), h.off, h.lens, h.base⟩
end

set_option maxRecDepth 100000 in
set_option maxHeartbeats 600000 in
theorem plays21_any (few : Bool) (A : Option Addr) (n c : Nat) (ds : Nat → DV) (w : World) (hD : Deeds w A n ds) (hn : n ≤ c) (hc : c ≤ 9223372036854775807) :
    Calls Try.prog 3 #[.slice A n c, .bool few] w fun e w' => e = .returned (.bool true) ∧ Below w.heap.size w w' := by
  have HD := hide hD
  clear hD
  go_enter Try.func3, Try.ntmps3
  go_wp2_with fail
  refine (tnew_all _).mono ?_
  rintro e w1 ⟨t, rfl, h1, hb1⟩
  have hba := (Below.refl w1.heap.size w1).alloc (Nat.le_refl _) (.cells #[.slice none 0 0] 28)
  have HT := hide (show Two21 (fun _ => True) w (w1.alloc (.cells #[.slice none 0 0] 28)) t 0 w1.heap.size [] from ⟨h1.below hba, BagM.nil w1 _ hb1.size, hb1.trans (hba.mono hb1.size)⟩)
  clear h1 hb1 hba
  go_wp2_with fail
  generalize w1.heap.size = g at HT ⊢
  generalize w1.alloc (.cells #[.slice none 0 0] 28) = W0 at HT ⊢
  go_loopw [7] (fun s7 wx => ∃ (x : Nat) (L : List Itm), x ≤ n ∧ x ≤ 40 ∧ s7 = .int .i64 x ∧ Hid (Two21 (fun _ => True) w wx t (1000 * x) g L)) (fun s7 _ => n - (intOf s7).toNat)
  case atStart => exact ⟨0, [], Nat.zero_le _, Nat.zero_le _, rfl, HT.out⟩
  case round =>
    obtain ⟨x, L, hx, hx6, rfl, HT⟩ := hrel
    by_cases hlt : x < n ∧ x < 40
    · obtain ⟨hlt, hlt6⟩ := hlt
      obtain ⟨bb, o, hA, h1, h2⟩ := (HD.out.below HT.out.below).at_ x hlt
      have HOK := hide ((HD.out.below HT.out.below).ok x hlt)
      generalize ds x = u at h1 h2 HOK
      have i0 : (0 : Int) ≤ (x : Int) := by omega
      have i1 : (x : Int) < (n : Int) := by omega
      have i6 : (x : Int) < 40 := by omega
      have HSO := hide (some_any few u.T u.n u.c u.t wr HOK.out.rd HOK.out.le HOK.out.cap)
      have HL := hide (World.block_lt_of_cell? wr _ h1)
      subst hA
      go_upto_region 8 with (go_at_call 12; refine HSO.out.mono ?_; rintro e w1 ⟨T, m, d, q, rfl, hR1, hm12, hmd, hdm, hb1, -⟩)
      have HT1 := hide (HT.out.next hb1)
      have HR1 := hide hR1
      have d1 : w1.cell? ⟨bb, o + x * 2, none⟩ = some (.int .i64 u.how) := (hb1.cell (p := ⟨bb, o + x * 2, none⟩) HL.out).trans h1
      have HL1 := hide (Nat.lt_of_lt_of_le HL.out hb1.size)
      clear HT hR1 hb1 h1 h2 HSO HOK HL
      go_upto_region 9 with (go_at_call 13; refine (lend_any T m d q w1 HR1.out (by omega)).mono ?_; rintro e w2 ⟨gx, cx, rfl, hox, hb2⟩)
      have hgx := (hox.blk_ge gx rfl).1
      have HM := hide (show Mid21 w w1 w2 t (1000 * x) g gx cx m T q L from ⟨(HT1.out.off (P' := fun z => z ≠ gx) (fun z hz => by omega)).next hb2, hox, HR1.out.below hb2, fun b o e hm => by have := HR1.out.lt hm e; omega, HR1.out.len, Nat.le_trans HT1.out.below.size hgx⟩)
      have d2 : w2.cell? ⟨bb, o + x * 2, none⟩ = some (.int .i64 u.how) := (hb2.cell (p := ⟨bb, o + x * 2, none⟩) HL1.out).trans d1
      have hcx := hox.cap
      clear hgx hox hb2 d1 HT1 HR1 HL1
      have hz7 := and21 u.how
      generalize hzz : bits .and .i64 u.how 7 = z at hz7
      have hz : z = 3 ∨ z = 4 ∨ z = 5 ∨ ((z == 3) = false ∧ (z == 4) = false ∧ (z == 5) = false) := by
        simp only [beq_eq_false_iff_ne, ne_eq]
        omega
      have hK : 1000 * x ≤ 1000000 := by omega
      rcases hz with rfl | rfl | rfl | ⟨d3, d4, d5⟩
      case' inl =>
        go_upto_region 18 with (first
          | (go_at_call 14; refine (HM.out.drop hm12 hK).mono ?_; intro e w3 hq3; obtain rfl := hq3.1)
          | (go_at_call 15; refine (HM.out.drop2 hm12 hq3).mono ?_; intro e w4 hq4; obtain rfl := hq4.1))
        have HM4 := hide (HM.out.dropped hq3 hq4).more
        clear hq3 hq4
        have dE : (dropE L q != dropE L q) = false := by simp
        generalize dropB L q = L' at HM4
        generalize dropE L q = E at dE ⊢
      case' inr.inl =>
        go_upto_region 18 with (first
          | (go_at_call 16; refine (tcount_all HM.out.two.t_ HM.out.x (by omega)).mono ?_; rintro e w3 ⟨rfl, rfl⟩)
          | (go_at_call 17; refine (bcount_all HM.out.two.g_ HM.out.two.t_.1 HM.out.rd (by omega)).mono ?_; rintro e w4 ⟨rfl, hb4⟩))
        have HM4 := hide (HM.out.next hb4).more
        clear hb4
        generalize L = L' at HM4
      case' inr.inr.inl =>
        go_upto_region 18 with fail
        have HM4 := hide HM.out.more
        generalize L = L' at HM4
      case' inr.inr.inr =>
        go_upto_region 18 with (first
          | (go_at_call 18; refine (HM.out.add hm12 hK).mono ?_; intro e w3 hq3; obtain rfl := hq3.1)
          | (go_at_call 19; refine (HM.out.add2 hm12 hq3).mono ?_; intro e w4 hq4; obtain rfl := hq4.1))
        have HM4 := hide (HM.out.added hq3 hq4)
        clear hq3 hq4
        have dE : (addE L q != addE L q) = false := by simp
        generalize addL L q = L' at HM4
        generalize addE L q = E at dE ⊢
      all_goals
        clear HM d2
        go_upto_region 20 with (first
          | (go_at_call 20; refine (kept_yes (some ⟨gx, 0, none⟩) T m cx d q _ HM4.out.own.runes HM4.out.rd (by omega) (by omega)).mono ?_; rintro e w5 ⟨rfl, q5, h5⟩
             have HM5 := hide (HM4.out.next (w2 := w5) (by rw [h5]; exact lt_drewN _ q5))
             clear h5)
          | (go_at_call 16; refine (tcount_all HM5.out.two.t_ HM5.out.rd (by omega)).mono ?_; rintro e w6 ⟨rfl, rfl⟩)
          | (go_at_call 17; refine (bcount_all HM5.out.two.g_ HM5.out.two.t_.1 HM5.out.rd (by omega)).mono ?_; rintro e w6 ⟨rfl, hb6⟩))
        have HM6 := hide (HM5.out.next hb6)
        clear hb6 HM4 HM5
        go_upto_region 21 with (go_at_call 21; refine (spoil_any _ (some ⟨gx, 0, none⟩) m cx _ w6 (HM6.out.own.takeP (by omega))).mono ?_; rintro e w7 ⟨rfl, -, hg7⟩)
        have HT7 := hide (HM6.out.two.spoil HM6.out.own hg7 HM6.out.base)
        have HR7 := hide (show Runes w7 T m q from HM6.out.rd.keep fun b o e hn => hg7.block b (HM6.out.rd.lt hn e) fun e2 => HM6.out.off b o e hn (by injection e2))
        clear HM6 hg7
        have hKK : 1000 * x + 1000 ≤ 1000000 := by omega
        by_cases hm0 : 0 < m
        · have hsl := fun W => run_sub_h T m d 1 (by omega) W
          have j0 : (0 : Int) < (m : Int) := by omega
          have j1 : (1 : Int) ≤ (m : Int) := by omega
          have j2 : (1 : Int) ≤ (d : Int) := by omega
          go_wp2_with (first
            | (go_at_call 22; (with_reducible refine (same21_any (fun _ => True) _ _ t _ g L' T m d q w7 HT7.out.t_ HT7.out.g_ HR7.out (by omega) hKK).mono ?_); rintro e w8 ⟨rfl, hb8⟩
               have HT8 := hide (HT7.out.next hb8)
               have HR8 := hide (HR7.out.below hb8)
               clear hb8)
            | (go_at_call 22; (with_reducible refine (same21_any (fun _ => True) _ _ t _ g L' none 0 0 [] w8 HT8.out.t_ HT8.out.g_ (Runes.nil _ _) (by omega) hKK).mono ?_); rintro e w9 ⟨rfl, hb9⟩
               have HT9 := hide (HT8.out.next hb9)
               have HR9 := hide ((HR8.out.below hb9).take (m := 1) (by omega))
               clear hb9)
            | (go_at_call 22; (with_reducible refine (same21_any (fun _ => True) _ _ t _ g L' T 1 d (q.take 1) w9 HT9.out.t_ HT9.out.g_ HR9.out (by omega) hKK).mono ?_); rintro e w10 ⟨rfl, hb10⟩))
          have HTT := hide (HT9.out.next hb10)
          clear hb10 HT9 HT8 HT7 HR7 HR8 HR9
          go_roundw
          case rel => exact ⟨x + 1, L', by omega, by omega, by go_num, by rw [Nat.mul_add]; exact HTT.out⟩
          case measure => simp [intOf]; omega
        · go_wp2_with (first
            | (go_at_call 22; (with_reducible refine (same21_any (fun _ => True) _ _ t _ g L' T m d q w7 HT7.out.t_ HT7.out.g_ HR7.out (by omega) hKK).mono ?_); rintro e w8 ⟨rfl, hb8⟩
               have HT8 := hide (HT7.out.next hb8)
               clear hb8)
            | (go_at_call 22; (with_reducible refine (same21_any (fun _ => True) _ _ t _ g L' none 0 0 [] w8 HT8.out.t_ HT8.out.g_ (Runes.nil _ _) (by omega) hKK).mono ?_); rintro e w9 ⟨rfl, hb9⟩))
          have HTT := hide (HT8.out.next hb9)
          clear hb9 HT8 HT7 HR7
          go_roundw
          case rel => exact ⟨x + 1, L', by omega, by omega, by go_num, by rw [Nat.mul_add]; exact HTT.out⟩
          case measure => simp [intOf]; omega
    · have hd : (¬ x < n) ∨ ((x : Int) < (n : Int) ∧ decide ((x : Int) < 40) = false) := by
        by_cases h : x < n
        · exact .inr ⟨by omega, by simp; omega⟩
        · exact .inl h
      clear hlt
      rcases hd with d1 | ⟨d1, d2⟩
      all_goals
        go_wp2_with fail
        refine (known21_any _).mono ?_
        rintro e w8 ⟨rfl, hb8⟩
        have HB8 := hide (HT.out.below.trans (hb8.mono HT.out.below.size))
        clear hb8
        go_wp2_with fail
        go_ret
        exact ⟨rfl, HB8.out⟩
end Go.Proofs.Ytchcpeenpijekaa
