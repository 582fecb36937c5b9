/- The reference's bag in memory: at, All, Count, Begins. -/
import Derived.Test.YtchcpeenpijekaaBagA
namespace Go.Proofs.Ytchcpeenpijekaa
open Go.RowKit Go.Maps Go.MapKept Go.ChangeMaps Go.Shelf
set_option linter.unusedVariables false

/-- A text's block is one of P's. -/
def OffA (P : Nat → Prop) (A : Option Addr) (n : Nat) : Prop := 0 < n → ∀ g, blk A = some g → P g
/-- The reference's bag at g: the items us; their texts lie in blocks of P. -/
structure BagV (P : Nat → Prop) (w : World) (B g : Nat) (A : Option Addr) (n c : Nat) (us : List IV) (L : List Itm) : Prop where
  box : Box w g 28 #[.slice A n c]
  row : RowG w 49 2 B A n c (us.map IV.cells)
  eq : us.map IV.itm = L
  rd : Rd w us
  off : ∀ u ∈ us, OffA P u.A u.n
  base : B ≤ g
  cap : ∀ u ∈ us, u.n ≤ u.c ∧ u.c ≤ 9223372036854775807
def BagM (P : Nat → Prop) (w : World) (B g : Nat) (L : List Itm) : Prop := ∃ A n c us, BagV P w B g A n c us L
section
variable {P : Nat → Prop} {w w' : World} {B g n c : Nat} {A : Option Addr} {us : List IV} {L : List Itm}
theorem BagV.below (h : BagV P w B g A n c us L) (hb : Below w.heap.size w w') : BagV P w' B g A n c us L := ⟨h.box.below hb, h.row.below hb, h.eq, h.rd.below hb, h.off, h.base, h.cap⟩
theorem BagV.len (h : BagV P w B g A n c us L) : us.length = n ∧ L.length = n := by
  have h1 := h.row.items.len
  have h2 := congrArg List.length h.eq
  rw [List.length_map] at h2
  omega
theorem BagV.at_ (h : BagV P w B g A n c us L) {j : Nat} (hj : j < n) : ∃ u b, us[j]? = some u ∧ L[j]? = some (u.t, u.k) ∧ A = some ⟨b, 0, none⟩ ∧ w.cell? ⟨b, j * 2, none⟩ = some (.slice u.A u.n u.c) ∧ w.cell? ⟨b, j * 2 + 1, none⟩ = some (.int .i64 (u.k : Nat)) ∧ w.frozen? ⟨b, j * 2 + 1, none⟩ = false ∧ Runes w u.A u.n u.t := by
  have hl := h.len
  obtain ⟨u, hu⟩ : ∃ u, us[j]? = some u := ⟨_, List.getElem?_eq_getElem (by omega)⟩
  have hv : (us.map IV.cells)[j]? = some u.cells := by rw [List.getElem?_map, hu]; rfl
  obtain ⟨b, e, h1, _⟩ := h.row.cell (i := 0) hv (by omega) rfl
  obtain ⟨b', e', h2, h3⟩ := h.row.cell (i := 1) hv (by omega) rfl
  rw [e] at e'
  injection e' with e'
  injection e' with e'
  subst e'
  exact ⟨u, b, hu, by rw [← h.eq, List.getElem?_map, hu]; rfl, e, by rw [Nat.add_zero] at h1; exact h1, h2, h3, h.rd u (List.mem_of_getElem? hu)⟩
theorem BagM.below (h : BagM P w B g L) (hb : Below w.heap.size w w') : BagM P w' B g L := by
  obtain ⟨A, n, c, us, h⟩ := h
  exact ⟨A, n, c, us, h.below hb⟩

set_option maxRecDepth 100000 in
set_option maxHeartbeats 2000000 in
theorem bat_any (S : Option Addr) (m d : Nat) (l : List Int) (h : BagV P w B g A n c us L) (hb : BagW L) (hn : n ≤ 1000000) (hS : Runes w S m l) (hm : m ≤ 9223372036854775807) (hw : ∀ u ∈ us, u.n ≤ 1000000) :
    Calls Try.prog 42 #[.pointer (some ⟨g, 0, none⟩), .slice S m d] w fun e w' => e = .returned (.tuple #[.int .i64 (posB L l : Nat), .bool (decide (0 < cntB L l))]) ∧ ∃ q, w' = w.drewN q := by
  have HB := hide h
  have HL := hide h.len
  have HS := hide hS
  have HW := hide hw
  have HBW := hide hb
  have c0 : w.cell? ⟨g, 0, none⟩ = some (.slice A n c) := h.box.cell 0
  clear h hS hw hb
  go_enter Try.func42, Try.ntmps42
  go_wp2_with fail
  go_loopw [6] (fun s6 wr => ∃ (k q : Nat), k ≤ n ∧ s6 = .int .i64 k ∧ wr = w.drewN q ∧ Hid (posB L l = k + posB (L.drop k) l)) (fun s6 _ => n - (intOf s6).toNat)
  case atStart => exact ⟨0, 0, Nat.zero_le _, rfl, rfl, by rw [List.drop_zero, Nat.zero_add]; exact rfl⟩
  case round =>
    obtain ⟨k, q, hk, rfl, rfl, HP⟩ := hrel
    by_cases hlt : k < n
    · obtain ⟨u, b, hu, hL, rfl, hc1, hc2, -, hrd⟩ := HB.out.at_ hlt
      have hun := HW.out u (List.mem_of_getElem? hu)
      have i0 : (0 : Int) ≤ (k : Int) := by omega
      have i1 : (k : Int) < (n : Int) := by omega
      have HR := hide (rless_any u.A S u.n u.c m d u.t l (w.drewN q) (hrd.drewN q) (HS.out.drewN q) (by omega) hm)
      have HU := hide (And.intro hu (And.intro hL hrd))
      clear hu hL hrd
      cases hls : lessS u.t l with
      | true =>
        have HLS := hide hls
        rw [hls] at HR
        clear hls
        go_wp2_with (go_at_call 29; refine HR.out.mono ?_; rintro e w1 ⟨rfl, q1, rfl⟩)
        have HP2 := hide (show posB L l = (k + 1) + posB (L.drop (k + 1)) l from by rw [HP.out, posB_drop HU.out.2.1 HLS.out]; omega)
        clear HP
        go_roundw
        case rel => exact ⟨k + 1, q + q1, by omega, by go_num, rfl, HP2.out⟩
        case measure => simp [intOf]; omega
      | false =>
        have HLS := hide hls
        rw [hls] at HR
        clear hls
        have HK := hide (show posB L l = k from by rw [HP.out, posB_stop HU.out.2.1 HLS.out]; omega)
        have hs : sameS u.t l = decide (0 < cntB L l) := by
          have h1 := HU.out.2.1
          rw [← HK.out] at h1
          have h2 := posB_at HBW.out h1
          unfold sameS
          exact decide_eq_decide.2 h2.1
        have HSM := hide (fun q' => refSame_any u.A S u.n u.c m d u.t l (w.drewN q') (HU.out.2.2.drewN q') (HS.out.drewN q') (by omega) hm)
        rw [hs] at HSM
        clear hs hc2
        go_wp2_with (first
          | (go_at_call 29; refine HR.out.mono ?_; rintro e w1 ⟨rfl, q1, rfl⟩)
          | (go_at_call 31; refine (HSM.out _).mono ?_; rintro e w2 ⟨rfl, q2, rfl⟩))
        refine bodyPost_ret (v := .tuple #[.int .i64 (k : Int), .bool (decide (0 < cntB L l))]) (by simp [results, Try.results42, go_sem]) rfl ?_
        exact ⟨by rw [HK.out], _, rfl⟩
    · obtain rfl : k = n := by omega
      have hPn : posB L l = k := by
        have := HP.out
        rw [List.drop_of_length_le (by rw [HL.out.2]; exact Nat.le_refl _)] at this
        rw [this]; rfl
      have HK := hide (show posB L l = k ∧ decide (0 < cntB L l) = false from ⟨hPn, by
        have h1 : cntB L l = 0 := posB_end (by rw [hPn]; exact HL.out.2.symm)
        rw [h1]; rfl⟩)
      clear hPn HP
      go_wp2_with fail
      refine bodyPost_ret (v := .tuple #[.int .i64 (k : Int), .bool false]) (by simp [results, Try.results42, go_sem]) rfl ?_
      exact ⟨by rw [HK.out.1, HK.out.2], _, rfl⟩
end
end Go.Proofs.Ytchcpeenpijekaa
