/- Pieces, joined: BagA, BagB, BagC. -/
import Derived.Test.YtchcpeenpijekaaQ21
import Derived.Test.YtchcpeenpijekaaQ26

/- Rows of items that are read; the reference's bag in memory: at, All, Count, Begins. -/
namespace Go.Proofs.Ytchcpeenpijekaa
open Go.RowKit Go.Maps Go.MapKept Go.ChangeMaps Go.Shelf
set_option linter.unusedVariables false

/-- The slice (A, n, _) holds the items us. -/
structure ItemsM (w : World) (A : Option Addr) (n : Nat) (us : List IV) : Prop where
  len : us.length = n
  at_ : ∀ j u, us[j]? = some u → ∃ b o, A = some ⟨b, o, none⟩ ∧ w.cell? ⟨b, o + j * 2, none⟩ = some (.slice u.A u.n u.c) ∧ w.cell? ⟨b, o + j * 2 + 1, none⟩ = some (.int .i64 (u.k : Nat))
/-- Their words are read. -/
def Rd (w : World) (us : List IV) : Prop := ∀ u ∈ us, Runes w u.A u.n u.t
/-- Where the items from place a on lie, of a slice of capacity c. -/
def subT (A : Option Addr) (c a : Nat) : Option Addr := if c = a then A else A.map (·.add (a * 2))
section
variable {w w' : World} {A : Option Addr} {n c : Nat} {us : List IV}
theorem ItemsM.below (h : ItemsM w A n us) (hb : Below w.heap.size w w') : ItemsM w' A n us := ⟨h.len, fun j u hu => by
  obtain ⟨b, o, e, h1, h2⟩ := h.at_ j u hu
  have hl : b < w.heap.size := World.block_lt_of_cell? w _ h1
  exact ⟨b, o, e, (hb.cell (p := ⟨b, o + j * 2, none⟩) hl).trans h1, (hb.cell (p := ⟨b, o + j * 2 + 1, none⟩) hl).trans h2⟩⟩
theorem Rd.below (h : Rd w us) (hb : Below w.heap.size w w') : Rd w' us := fun u hu => (h u hu).below hb
theorem ItemsM.take (h : ItemsM w A n us) {m : Nat} (hm : m ≤ n) : ItemsM w A m (us.take m) := ⟨by rw [List.length_take, h.len]; omega, fun j u hu => h.at_ j u (by
  rw [List.getElem?_take] at hu
  split at hu
  · exact hu
  · cases hu)⟩
theorem ItemsM.sub (h : ItemsM w A n us) {a : Nat} (ha : a ≤ n) (hc : n ≤ c) : ItemsM w (subT A c a) (n - a) (us.drop a) := ⟨by rw [List.length_drop, h.len], fun j u hu => by
  rw [List.getElem?_drop] at hu
  obtain ⟨b, o, rfl, h1, h2⟩ := h.at_ (a + j) u hu
  have hj := (List.getElem?_eq_some_iff.1 hu).1
  rw [h.len] at hj
  have e : subT (some ⟨b, o, none⟩) c a = some ⟨b, o + a * 2, none⟩ := by
    unfold subT
    rw [if_neg (by omega), Option.map_some, addr_lit]
  refine ⟨b, o + a * 2, e, ?_, ?_⟩
  · rw [show o + a * 2 + j * 2 = o + (a + j) * 2 by omega]; exact h1
  · rw [show o + a * 2 + j * 2 + 1 = o + (a + j) * 2 + 1 by omega]; exact h2⟩
theorem RowG.items {B : Nat} (h : RowG w 49 2 B A n c (us.map IV.cells)) : ItemsM w A n us := ⟨by have := h.cnt; simpa using this, fun j u hu => by
  have hv : (us.map IV.cells)[j]? = some u.cells := by rw [List.getElem?_map, hu]; rfl
  obtain ⟨g, e, h1, _⟩ := h.cell (i := 0) hv (by omega) rfl
  obtain ⟨g', e', h2, _⟩ := h.cell (i := 1) hv (by omega) rfl
  rw [e] at e'
  injection e' with e'
  injection e' with e'
  subst e'
  exact ⟨g, 0, e, by rw [Nat.zero_add]; exact h1, by rw [Nat.zero_add]; exact h2⟩⟩
theorem icells_each (us : List IV) : Each 2 (us.map IV.cells) := fun v hv => by
  obtain ⟨u, _, rfl⟩ := List.mem_map.1 hv
  exact u.one
theorem ItemsM.flat (h : ItemsM w A n us) {a : Addr} (hA : A = some a) : ∀ (j : Nat) v, (us.map IV.cells).flatten[j]? = some v → w.cell? (a.add j) = some v := fun j v hv => by
  have e : j = j / 2 * 2 + j % 2 := by omega
  have h' : (us.map IV.cells).flatten[j / 2 * 2 + j % 2]? = some v := by rw [← e]; exact hv
  rw [flat_get (Nat.mod_lt _ (by omega)) (icells_each us).len, List.getElem?_map] at h'
  cases hu : us[j / 2]? with
  | none => rw [hu] at h'; cases h'
  | some u =>
    rw [hu] at h'
    obtain ⟨b, o, e2, h1, h2⟩ := h.at_ _ u hu
    rw [hA] at e2
    injection e2 with e2
    subst e2
    rw [addr_lit]
    have hm : j % 2 = 0 ∨ j % 2 = 1 := by omega
    rcases hm with hm | hm
    · rw [hm] at h'
      rw [show o + j = o + j / 2 * 2 by omega, h1]
      exact h'
    · rw [hm] at h'
      rw [show o + j = o + j / 2 * 2 + 1 by omega, h2]
      exact h'
theorem ItemsM.none_ (h : ItemsM w none n us) : n = 0 ∧ us = [] := by
  cases us with
  | nil => exact ⟨by have := h.len; simpa using this.symm, rfl⟩
  | cons u us =>
    obtain ⟨_, _, e, _⟩ := h.at_ 0 u rfl
    cases e
/-- l[: m], l[a :] of items -/
theorem run_subT_h (A : Option Addr) (n c m : Nat) (h1 : m ≤ c) (W : World) :
    (Instr.slice 26 (.slice A n c) none (some (.int .i64 (m : Int))) none).run Try.prog W = .ok (.slice A m c) W := by
  have hz : (sizeOf (Try.prog.elem 26)).run Try.prog W = .ok 2 W := by kernel_rfl
  rw [run_slice_h (P := Try.prog) (t := 26) (ht := by kernel_rfl) (h0 := by omega) (h2 := by omega), hz]
  cases A <;> simp [Result.andThen, sliced, Addr.add]
theorem run_subT_l (A : Option Addr) (n c a : Nat) (h1 : a ≤ n) (W : World) :
    (Instr.slice 26 (.slice A n c) (some (.int .i64 (a : Int))) none none).run Try.prog W = .ok (.slice (subT A c a) (n - a) (c - a)) W := by
  have hz : (sizeOf (Try.prog.elem 26)).run Try.prog W = .ok 2 W := by kernel_rfl
  rw [run_slice_l (P := Try.prog) (t := 26) (ht := by kernel_rfl) (h0 := by omega) (h1 := by omega), hz]
  simp [Result.andThen, sliced, subT]
set_option maxRecDepth 20000 in
/-- append of items onto a row of the call's own. -/
theorem run_appT (ty : TypeId) {B : Nat} {vs : List (List Value)} (hown : RowG w 49 2 B A n c vs) {X : Option Addr} {m d : Nat} (hr : ItemsM w X m us) (hsz : n + m ≤ 1000000) (hB : B ≤ w.heap.size) :
    ∃ A' c' w', (Builtin.append_ #[26, 26] ty #[.slice A n c, .slice X m d]).run Try.prog w = .ok (.slice A' (n + m) c') w' ∧ RowG w' 49 2 B A' (n + m) c' (vs ++ us.map IV.cells) ∧
      w.grownBy w' (blk A) ∧ (blk A' = blk A ∨ blk A' = some w.heap.size) := by
  obtain ⟨z, hzs, hinfo⟩ := itemT.info
  obtain ⟨i0, hi, hz0, hz1, hz2⟩ := info_parts hinfo
  have hlm : (us.map IV.cells).length = m := by rw [List.length_map, hr.len]
  have fin : ∀ v' w', w'.ownsRow B 49 2 v' (n + m) (vs ++ us.map IV.cells).flatten → (v'.ownBlock = blk A ∨ v'.ownBlock = some w.heap.size) →
      ∃ A' c', v' = .slice A' (n + m) c' ∧ RowG w' 49 2 B A' (n + m) c' (vs ++ us.map IV.cells) ∧ (blk A' = blk A ∨ blk A' = some w.heap.size) := by
    intro v' w' ho hl
    have hc : (vs ++ us.map IV.cells).length = n + m := by rw [List.length_append, hown.cnt, hlm]
    rcases ho.2 with ⟨rfl, h0⟩ | ⟨g, cap, cur, rfl, _⟩
    · exact ⟨none, 0, by rw [h0], ⟨by rw [h0] at ho ⊢; exact ho, hown.each.app (icells_each us), hc⟩, by rw [← own_blk none 0 0]; exact hl⟩
    · exact ⟨some ⟨g, 0, none⟩, cap, rfl, ⟨ho, hown.each.app (icells_each us), hc⟩, by rw [← own_blk (some ⟨g, 0, none⟩) (n + m) cap]; exact hl⟩
  cases X with
  | some ad =>
    obtain ⟨v', w', hrun, h2, h3, _, h5⟩ := run_append_own_at (P := Try.prog) w B 26 ty 49 i0 z 2 32 itemT.und hi hz0 hz1 hz2 hzs itemT.pos
      (.slice A n c) n vs.flatten hown.row ad m d (us.map IV.cells).flatten (by rw [flat_len (icells_each us).len, hlm]) (hr.flat rfl) (icells_each us).cells (by unfold maxLen; omega) (by omega) hB
    rw [← List.flatten_append] at h2
    rw [own_blk] at h3 h5
    obtain ⟨A', c', rfl, h6, h7⟩ := fin v' w' h2 h5
    exact ⟨A', c', w', hrun, h6, h3, h7⟩
  | none =>
    obtain ⟨rfl, rfl⟩ := hr.none_
    have hrun : (Builtin.append_ #[26, 26] ty #[.slice A n c, .slice none 0 d]).run Try.prog w = .ok (.slice A n c) w := by
      rcases hown.row.2 with ⟨h1, _⟩ | ⟨g, cap, cur, h1, _, _, hnc, _⟩
      · rw [h1]
        simp [Builtin.append_, run_underlying Try.underlying26, sizeOf, typeInfo, hi, Builtin.lenOf, Builtin.firstCells]
      · rw [h1]
        simp [Builtin.append_, run_underlying Try.underlying26, sizeOf, typeInfo, hi, Builtin.lenOf, Builtin.firstCells, hnc, storeCells]
    exact ⟨A, c, w, hrun, by rw [List.map_nil, List.append_nil, Nat.add_zero]; exact hown, World.grownBy.refl w _, .inl rfl⟩
theorem wp_appT {o : Oper} {a : Act} {K : Act → World → Prop} {Q : Exit → Act → World → Prop} (s x : Operand)
    (ho : o.op = .call { callee := .builtin .append, args := #[s, x], argTypes := #[26, 26] })
    (B : Nat) {vs : List (List Value)} (hs : a.eval s = .slice A n c) (hown : RowG w 49 2 B A n c vs) {X : Option Addr} {m d : Nat}
    (hx : a.eval x = .slice X m d) (hr : ItemsM w X m us) (hsz : n + m ≤ 1000000) (hB : B ≤ w.heap.size)
    (h : ∀ A' c' w', RowG w' 49 2 B A' (n + m) c' (vs ++ us.map IV.cells) → w.grownBy w' (blk A) → (blk A' = blk A ∨ blk A' = some w.heap.size) → K (a.put o.dst (.slice A' (n + m) c')) w') : o.wp Try.prog a w K Q := by
  obtain ⟨A', c', w', hrun, h2, h3, h4⟩ := run_appT o.type hown (d := d) hr hsz hB
  unfold Oper.wp execOp
  simp only [ho, resolve, invoke, builtin, Sem.run_bind, Sem.run_pure, Result.andThen_ok, List.map_toArray, List.map_cons, List.map_nil, hs, hx, hrun]
  exact h A' c' w' h2 h3 h4
theorem wpList_appT {ops : Array Oper} {rest : List Oper} {o : Oper} {a : Act} {Q : Exit → Act → World → Prop} (hgd : o.guard = none) (s x : Operand)
    (ho : o.op = .call { callee := .builtin .append, args := #[s, x], argTypes := #[26, 26] })
    (B : Nat) {vs : List (List Value)} (hs : a.eval s = .slice A n c) (hown : RowG w 49 2 B A n c vs) {X : Option Addr} {m d : Nat}
    (hx : a.eval x = .slice X m d) (hr : ItemsM w X m us) (hsz : n + m ≤ 1000000) (hB : B ≤ w.heap.size)
    (h : ∀ A' c' w', RowG w' 49 2 B A' (n + m) c' (vs ++ us.map IV.cells) → w.grownBy w' (blk A) → (blk A' = blk A ∨ blk A' = some w.heap.size) → wpList Try.prog ops Q rest (a.put o.dst (.slice A' (n + m) c')) w') : wpList Try.prog ops Q (o :: rest) a w :=
  wpList_plain hgd fun _ hK => wp_appT s x ho B hs hown hx hr hsz hB fun A' c' w' h2 h3 h4 => hK _ _ (h A' c' w' h2 h3 h4)
theorem step_appT {ops : Array Oper} {o : Oper} {a : Act} {K : Act → World → Prop} {Q : Exit → Act → World → Prop} {E : Prop} (hgd : o.guard = none) (s x : Operand)
    (ho : o.op = .call { callee := .builtin .append, args := #[s, x], argTypes := #[26, 26] })
    (B : Nat) {vs : List (List Value)} (hs : a.eval s = .slice A n c) (hown : RowG w 49 2 B A n c vs) {X : Option Addr} {m d : Nat}
    (hx : a.eval x = .slice X m d) (hr : ItemsM w X m us) (hsz : n + m ≤ 1000000) (hB : B ≤ w.heap.size)
    (h : ∀ A' c' w', RowG w' 49 2 B A' (n + m) c' (vs ++ us.map IV.cells) → w.grownBy w' (blk A) → (blk A' = blk A ∨ blk A' = some w.heap.size) → K (a.put o.dst (.slice A' (n + m) c')) w') :
    if Region.wanted o (yielded ops a.tmps) = true then Oper.wp Try.prog o a w K Q else E := by
  have hw : Region.wanted o (yielded ops a.tmps) = true := by simp [Region.wanted, hgd]
  rw [if_pos hw]
  exact wp_appT s x ho B hs hown hx hr hsz hB h
end
end Go.Proofs.Ytchcpeenpijekaa

/- The reference's bag in memory: at, All, Count, Begins. -/
namespace Go.Proofs.Ytchcpeenpijekaa
open Go.RowKit Go.Maps Go.MapKept Go.ChangeMaps Go.Shelf
set_option linter.unusedVariables false

/-- A text's block is one of P's. -/
def OffA (P : Nat → Prop) (A : Option Addr) (n : Nat) : Prop := 0 < n → ∀ g, blk A = some g → P g
/-- The reference's bag at g: the items us; their texts lie in blocks of P. -/
structure BagV (P : Nat → Prop) (w : World) (B g : Nat) (A : Option Addr) (n c : Nat) (us : List IV) (L : List Itm) : Prop where
  box : Box w g 28 #[.slice A n c]
  row : RowG w 49 2 B A n c (us.map IV.cells)
  eq : us.map IV.itm = L
  rd : Rd w us
  off : ∀ u ∈ us, OffA P u.A u.n
  base : B ≤ g
  cap : ∀ u ∈ us, u.n ≤ u.c ∧ u.c ≤ 9223372036854775807
def BagM (P : Nat → Prop) (w : World) (B g : Nat) (L : List Itm) : Prop := ∃ A n c us, BagV P w B g A n c us L
section
variable {P : Nat → Prop} {w w' : World} {B g n c : Nat} {A : Option Addr} {us : List IV} {L : List Itm}
theorem BagV.below (h : BagV P w B g A n c us L) (hb : Below w.heap.size w w') : BagV P w' B g A n c us L := ⟨h.box.below hb, h.row.below hb, h.eq, h.rd.below hb, h.off, h.base, h.cap⟩
theorem BagV.len (h : BagV P w B g A n c us L) : us.length = n ∧ L.length = n := by
  have h1 := h.row.items.len
  have h2 := congrArg List.length h.eq
  rw [List.length_map] at h2
  omega
theorem BagV.at_ (h : BagV P w B g A n c us L) {j : Nat} (hj : j < n) : ∃ u b, us[j]? = some u ∧ L[j]? = some (u.t, u.k) ∧ A = some ⟨b, 0, none⟩ ∧ w.cell? ⟨b, j * 2, none⟩ = some (.slice u.A u.n u.c) ∧ w.cell? ⟨b, j * 2 + 1, none⟩ = some (.int .i64 (u.k : Nat)) ∧ w.frozen? ⟨b, j * 2 + 1, none⟩ = false ∧ Runes w u.A u.n u.t := by
  have hl := h.len
  obtain ⟨u, hu⟩ : ∃ u, us[j]? = some u := ⟨_, List.getElem?_eq_getElem (by omega)⟩
  have hv : (us.map IV.cells)[j]? = some u.cells := by rw [List.getElem?_map, hu]; rfl
  obtain ⟨b, e, h1, _⟩ := h.row.cell (i := 0) hv (by omega) rfl
  obtain ⟨b', e', h2, h3⟩ := h.row.cell (i := 1) hv (by omega) rfl
  rw [e] at e'
  injection e' with e'
  injection e' with e'
  subst e'
  exact ⟨u, b, hu, by rw [← h.eq, List.getElem?_map, hu]; rfl, e, by rw [Nat.add_zero] at h1; exact h1, h2, h3, h.rd u (List.mem_of_getElem? hu)⟩
theorem BagM.below (h : BagM P w B g L) (hb : Below w.heap.size w w') : BagM P w' B g L := by
  obtain ⟨A, n, c, us, h⟩ := h
  exact ⟨A, n, c, us, h.below hb⟩

set_option maxRecDepth 100000 in
set_option maxHeartbeats 2000000 in
theorem bat_any (S : Option Addr) (m d : Nat) (l : List Int) (h : BagV P w B g A n c us L) (hb : BagW L) (hn : n ≤ 1000000) (hS : Runes w S m l) (hm : m ≤ 9223372036854775807) (hw : ∀ u ∈ us, u.n ≤ 1000000) :
    Calls Try.prog 42 #[.pointer (some ⟨g, 0, none⟩), .slice S m d] w fun e w' => e = .returned (.tuple #[.int .i64 (posB L l : Nat), .bool (decide (0 < cntB L l))]) ∧ ∃ q, w' = w.drewN q := by
  have HB := hide h
  have HL := hide h.len
  have HS := hide hS
  have HW := hide hw
  have HBW := hide hb
  have c0 : w.cell? ⟨g, 0, none⟩ = some (.slice A n c) := h.box.cell 0
  clear h hS hw hb
  go_enter Try.func42, Try.ntmps42
  go_wp2_with fail
  go_loopw [6] (fun s6 wr => ∃ (k q : Nat), k ≤ n ∧ s6 = .int .i64 k ∧ wr = w.drewN q ∧ Hid (posB L l = k + posB (L.drop k) l)) (fun s6 _ => n - (intOf s6).toNat)
  case atStart => exact ⟨0, 0, Nat.zero_le _, rfl, rfl, by rw [List.drop_zero, Nat.zero_add]; exact rfl⟩
  case round =>
    obtain ⟨k, q, hk, rfl, rfl, HP⟩ := hrel
    by_cases hlt : k < n
    · obtain ⟨u, b, hu, hL, rfl, hc1, hc2, -, hrd⟩ := HB.out.at_ hlt
      have hun := HW.out u (List.mem_of_getElem? hu)
      have i0 : (0 : Int) ≤ (k : Int) := by omega
      have i1 : (k : Int) < (n : Int) := by omega
      have HR := hide (rless_any u.A S u.n u.c m d u.t l (w.drewN q) (hrd.drewN q) (HS.out.drewN q) (by omega) hm)
      have HU := hide (And.intro hu (And.intro hL hrd))
      clear hu hL hrd
      cases hls : lessS u.t l with
      | true =>
        have HLS := hide hls
        rw [hls] at HR
        clear hls
        go_wp2_with (go_at_call 29; refine HR.out.mono ?_; rintro e w1 ⟨rfl, q1, rfl⟩)
        have HP2 := hide (show posB L l = (k + 1) + posB (L.drop (k + 1)) l from by rw [HP.out, posB_drop HU.out.2.1 HLS.out]; omega)
        clear HP
        go_roundw
        case rel => exact ⟨k + 1, q + q1, by omega, by go_num, rfl, HP2.out⟩
        case measure => simp [intOf]; omega
      | false =>
        have HLS := hide hls
        rw [hls] at HR
        clear hls
        have HK := hide (show posB L l = k from by rw [HP.out, posB_stop HU.out.2.1 HLS.out]; omega)
        have hs : sameS u.t l = decide (0 < cntB L l) := by
          have h1 := HU.out.2.1
          rw [← HK.out] at h1
          have h2 := posB_at HBW.out h1
          unfold sameS
          exact decide_eq_decide.2 h2.1
        have HSM := hide (fun q' => refSame_any u.A S u.n u.c m d u.t l (w.drewN q') (HU.out.2.2.drewN q') (HS.out.drewN q') (by omega) hm)
        rw [hs] at HSM
        clear hs hc2
        go_wp2_with (first
          | (go_at_call 29; refine HR.out.mono ?_; rintro e w1 ⟨rfl, q1, rfl⟩)
          | (go_at_call 31; refine (HSM.out _).mono ?_; rintro e w2 ⟨rfl, q2, rfl⟩))
        refine bodyPost_ret (v := .tuple #[.int .i64 (k : Int), .bool (decide (0 < cntB L l))]) (by simp [results, Try.results42, go_sem]) rfl ?_
        exact ⟨by rw [HK.out], _, rfl⟩
    · obtain rfl : k = n := by omega
      have hPn : posB L l = k := by
        have := HP.out
        rw [List.drop_of_length_le (by rw [HL.out.2]; exact Nat.le_refl _)] at this
        rw [this]; rfl
      have HK := hide (show posB L l = k ∧ decide (0 < cntB L l) = false from ⟨hPn, by
        have h1 : cntB L l = 0 := posB_end (by rw [hPn]; exact HL.out.2.symm)
        rw [h1]; rfl⟩)
      clear hPn HP
      go_wp2_with fail
      refine bodyPost_ret (v := .tuple #[.int .i64 (k : Int), .bool false]) (by simp [results, Try.results42, go_sem]) rfl ?_
      exact ⟨by rw [HK.out.1, HK.out.2], _, rfl⟩
end
end Go.Proofs.Ytchcpeenpijekaa

/- The reference's bag: All, Count, Begins, With. -/
namespace Go.Proofs.Ytchcpeenpijekaa
open Go.RowKit Go.Maps Go.MapKept Go.ChangeMaps Go.Shelf
set_option linter.unusedVariables false

theorem allB_take {L : List Itm} {i : Nat} {x : Itm} (h : L[i]? = some x) : allB (L.take (i + 1)) = allB (L.take i) + x.2 := by
  obtain ⟨hi, rfl⟩ := List.getElem?_eq_some_iff.1 h
  rw [List.take_succ_eq_append_getElem hi]
  unfold allB
  rw [List.map_append, List.sum_append]
  simp only [List.map_cons, List.map_nil, List.sum_cons, List.sum_nil, Nat.add_zero]
theorem allB_take_le (L : List Itm) (i : Nat) : allB (L.take i) ≤ allB L := by
  conv => rhs; rw [← List.take_append_drop i L]
  unfold allB
  rw [List.map_append, List.sum_append]
  omega
section
variable {P : Nat → Prop} {w w' : World} {B g n c : Nat} {A : Option Addr} {us : List IV} {L : List Itm}
set_option maxRecDepth 100000 in
set_option maxHeartbeats 1000000 in
theorem ball_any (h : BagV P w B g A n c us L) (hn : n ≤ 1000000) (ha : allB L ≤ 1000000) :
    Calls Try.prog 46 #[.pointer (some ⟨g, 0, none⟩)] w fun e w' => e = .returned (.int .i64 (allB L : Nat)) ∧ w = w' := by
  have HB := hide h
  have c0 : w.cell? ⟨g, 0, none⟩ = some (.slice A n c) := h.box.cell 0
  have HL := hide h.len
  clear h
  go_enter Try.func46, Try.ntmps46
  go_wp2_with fail
  go_loop [3, 4] (fun s3 s4 => ∃ i s : Nat, i ≤ n ∧ s4 = .int .i64 i ∧ s3 = .int .i64 s ∧ Hid (s = allB (L.take i))) (fun _ s4 => n - (intOf s4).toNat)
  case atStart => exact ⟨0, 0, Nat.zero_le _, rfl, rfl, rfl⟩
  case round =>
    obtain ⟨i, s, hi, rfl, rfl, HS⟩ := hrel
    by_cases hlt : i < n
    · obtain ⟨u, b, hu, hL, rfl, hc1, hc2, -, hrd⟩ := HB.out.at_ hlt
      have h2 := allB_take hL
      have h3 := allB_take_le L (i + 1)
      have HS2 := hide (show s + u.k = allB (L.take (i + 1)) from by rw [h2, HS.out])
      have hb2 : s + u.k ≤ 1000000 := by have := HS2.out; omega
      have i0 : (0 : Int) ≤ (i : Int) := by omega
      have i1 : (i : Int) < (n : Int) := by omega
      clear hu hL hc1 hrd h2 h3 HS
      go_wp2_with fail
      go_round
      case rel => exact ⟨i + 1, s + u.k, by omega, by go_num, by go_num, HS2.out⟩
      case measure => simp [intOf]; omega
    · obtain rfl : i = n := by omega
      have HE := hide (show s = allB L from by
        have := HS.out
        rwa [List.take_of_length_le (by rw [HL.out.2]; exact Nat.le_refl _)] at this)
      clear HS
      go_wp2_with fail
      go_ret
      exact ⟨by rw [← HE.out]; rfl, rfl⟩

theorem lt_drewN (w : World) (q : Nat) : Below w.heap.size w (w.drewN q) := ⟨rfl, rfl, rfl, Nat.le_refl _, fun _ _ => rfl⟩
set_option maxHeartbeats 1000000 in
theorem bcount_any (S : Option Addr) (m d : Nat) (l : List Int) (h : BagV P w B g A n c us L) (hb : BagW L) (hn : n ≤ 1000000) (hS : Runes w S m l) (hm : m ≤ 9223372036854775807) (hw : ∀ u ∈ us, u.n ≤ 1000000) :
    Calls Try.prog 17 #[.pointer (some ⟨g, 0, none⟩), .slice S m d] w fun e w' => e = .returned (.int .i64 (cntB L l : Nat)) ∧ ∃ q, w' = w.drewN q := by
  have HA := hide (bat_any S m d l h hb hn hS hm hw)
  have HL := hide h.len
  by_cases h0 : 0 < cntB L l
  · have hk := posB_lt h0
    obtain ⟨k, hkk⟩ : ∃ k, posB L l = k := ⟨_, rfl⟩
    rw [hkk, decide_eq_true h0] at HA
    rw [hkk] at hk
    obtain ⟨u, b, hu, hL, rfl, hc1, hc2, -, hrd⟩ := h.at_ (j := k) (by rw [← HL.out.2]; exact hk)
    have HC := hide (show cntB L l = u.k from by
      rw [← hkk] at hL
      have h2 := posB_at hb hL
      exact h2.2 (h2.1.2 h0))
    have c0 : w.cell? ⟨g, 0, none⟩ = some (.slice (some ⟨b, 0, none⟩) n c) := h.box.cell 0
    have i0 : (0 : Int) ≤ (k : Int) := by omega
    have i1 : (k : Int) < (n : Int) := by have := HL.out; omega
    clear h hS hu hL hc1 hrd hkk h0 hb
    go_enter Try.func17, Try.ntmps17
    go_wp2_with (go_at_call 42; refine HA.out.mono ?_; rintro e w1 ⟨rfl, q, rfl⟩)
    go_ret
    exact ⟨by rw [HC.out]; rfl, q, rfl⟩
  · rw [decide_eq_false h0] at HA
    have HC := hide (show cntB L l = 0 by omega)
    generalize posB L l = k at HA
    clear h hS h0 hb
    go_enter Try.func17, Try.ntmps17
    go_wp2_with (go_at_call 42; refine HA.out.mono ?_; rintro e w1 ⟨rfl, q, rfl⟩)
    go_ret
    exact ⟨by rw [HC.out]; rfl, q, rfl⟩
end

theorem begS_eq (s p : List Int) : begS s p = (decide (p.length ≤ s.length) && sameS (s.take p.length) p) := by
  unfold begS sameS
  by_cases h : p.length ≤ s.length
  · rw [decide_eq_true h, Bool.true_and]
    refine decide_eq_decide.2 ?_
    rw [List.prefix_iff_eq_take]
    exact eq_comm
  · rw [decide_eq_false h, Bool.false_and, decide_eq_false]
    exact fun e => h e.length_le
set_option maxHeartbeats 1000000 in
theorem begins_any (S T : Option Addr) (n c m d : Nat) (s p : List Int) (w : World) (hS : Runes w S n s) (hT : Runes w T m p) (hn : n ≤ c) (hc : c ≤ 9223372036854775807) (hm : m ≤ 9223372036854775807) :
    Calls Try.prog 30 #[.slice S n c, .slice T m d] w fun e w' => e = .returned (.bool (begS s p)) ∧ ∃ q, w' = w.drewN q := by
  have hls := hS.len
  have hlt := hT.len
  have HE := hide (begS_eq s p)
  by_cases hle : m ≤ n
  · have HS := hide (refSame_any S T m c m d (s.take m) p w (hS.take hle) hT (by omega) hm)
    have hsl := fun W => run_sub_h S n c m (by omega) W
    have hd : decide ((m : Int) ≤ (n : Int)) = true := by simp; omega
    have HE2 := hide (show begS s p = sameS (s.take m) p from by rw [HE.out, hlt, hls, decide_eq_true hle, Bool.true_and])
    have i0 : (0 : Int) ≤ (m : Int) := by omega
    have i1 : (m : Int) ≤ (n : Int) := by omega
    have i2 : (m : Int) ≤ (c : Int) := by omega
    clear hS hT hls hlt HE
    go_enter Try.func30, Try.ntmps30
    go_wp2_with (go_at_call 31; refine HS.out.mono ?_; rintro e w1 ⟨rfl, q, rfl⟩)
    go_ret
    exact ⟨by rw [HE2.out]; rfl, q, rfl⟩
  · have hd : ¬ m ≤ n := hle
    have HE2 := hide (show begS s p = false from by rw [HE.out, hlt, hls, decide_eq_false hle, Bool.false_and])
    clear hS hT hls hlt HE hle
    go_enter Try.func30, Try.ntmps30
    go_wp2_with fail
    go_ret
    exact ⟨by rw [HE2.out]; rfl, 0, rfl⟩

/-- What the reference's With hands back. -/
def WithM (L : List Itm) (p : List Int) (w : World) (e : Ending) (w' : World) : Prop := ∃ Ao no co us, e = .returned (.slice Ao no co) ∧ RowG w' 49 2 w.heap.size Ao no co (us.map IV.cells) ∧ us.map IV.itm = withB L p ∧ Rd w' us ∧ (∀ u ∈ us, u.n ≤ 1000000) ∧ Below w.heap.size w w'
section
variable {P : Nat → Prop} {w w' : World} {B g n c : Nat} {A : Option Addr} {us : List IV} {L : List Itm}
theorem filter_map_itm (us : List IV) (p : List Int) : (us.filter fun u => begS u.t p).map IV.itm = withB (us.map IV.itm) p := by
  unfold withB
  rw [List.filter_map]
  rfl
set_option maxRecDepth 100000 in
set_option maxHeartbeats 2000000 in
theorem bwith_any (S : Option Addr) (m d : Nat) (p : List Int) (h : BagV P w B g A n c us L) (hn : n ≤ 1000000) (hS : Runes w S m p) (hm : m ≤ 9223372036854775807) (hw : ∀ u ∈ us, u.n ≤ 1000000 ∧ u.n ≤ u.c ∧ u.c ≤ 9223372036854775807) :
    Calls Try.prog 47 #[.pointer (some ⟨g, 0, none⟩), .slice S m d] w (WithM L p w) := by
  have HB := hide h
  have HL := hide h.len
  have HS := hide hS
  have HW := hide hw
  have HQ := hide h.eq
  have HRD := hide h.rd
  clear h hS hw
  go_enter Try.func47, Try.ntmps47
  go_wp2_with fail
  go_loopw [5, 6] (fun s5 s6 wr => ∃ (i : Nat) (O : Option Addr) (no co : Nat), i ≤ n ∧ s6 = .int .i64 i ∧ s5 = .slice O no co ∧ no ≤ i ∧ Hid (RowG wr 49 2 w.heap.size O no co (((us.take i).filter fun u => begS u.t p).map IV.cells)) ∧ Hid (Below w.heap.size w wr)) (fun _ s6 _ => n - (intOf s6).toNat)
  case atStart => exact ⟨0, none, 0, 0, Nat.zero_le _, rfl, rfl, Nat.le_refl _, RowG.nil _ _ _ _, Below.refl _ _⟩
  case round =>
    obtain ⟨i, O, no, co, hi, rfl, rfl, hno, HR, HBE⟩ := hrel
    have c0 : wr.cell? ⟨g, 0, none⟩ = some (.slice A n c) := (HB.out.below HBE.out).box.cell 0
    by_cases hlt : i < n
    · obtain ⟨u, b, hu, hL, rfl, hc1, hc2, -, hrd⟩ := (HB.out.below HBE.out).at_ hlt
      obtain ⟨hu1, hu2, hu3⟩ := HW.out u (List.mem_of_getElem? hu)
      have HG := hide (begins_any u.A S u.n u.c m d u.t p wr hrd (HS.out.below HBE.out) hu2 hu3 hm)
      have i0 : (0 : Int) ≤ (i : Int) := by omega
      have i1 : (i : Int) < (n : Int) := by omega
      have HT := hide (show (us.take (i + 1)).filter (fun u => begS u.t p) = (us.take i).filter (fun u => begS u.t p) ++ if begS u.t p then [u] else [] from by
        obtain ⟨hil, rfl⟩ := List.getElem?_eq_some_iff.1 hu
        rw [List.take_succ_eq_append_getElem hil, List.filter_append]
        congr 1
        rw [List.filter_cons, List.filter_nil])
      clear hu hL hrd
      cases hbs : begS u.t p with
      | true =>
        rw [hbs] at HG
        rw [hbs, if_pos rfl] at HT
        clear hbs
        go_wp2_with (first
          | (go_at_call 30; refine HG.out.mono ?_; rintro e w1 ⟨rfl, q, rfl⟩)
          | (at_builtin
             refine wpList_appG itemT rfl (.tmp 26) (.tmp 34) rfl w.heap.size rfl (by first | exact (HR.out.drewN q).alloc _ | exact (HR.out.alloc _).drewN q) (m := 1) (d := 1) rfl (us := [IV.cells u]) (by first | exact news_box (cs := (IV.cells u).toArray) (Box.new _ _ _) | exact news_box (cs := (IV.cells u).toArray) ((Box.new _ _ _).drewN q)) (Each.one (IV.one u).1 (IV.one u).2) rfl (by omega) (by omega) (by omega) (by have := HBE.out.size; simp; omega) ?_
             intro g2 c2 w2 hrow2 hg2 hb2 _))
        have HR2 := hide hrow2
        have HB2 := hide (show Below w.heap.size w w2 from by first | exact (((HBE.out.trans ((lt_drewN wr q).mono HBE.out.size)).alloc HBE.out.size _).trans hb2) | exact (((HBE.out.alloc HBE.out.size _).trans ((lt_drewN _ q).mono (by have := HBE.out.size; simp; omega))).trans hb2))
        clear hrow2 hg2 hb2 hc1 hc2 c0
        rw [← List.map_singleton (f := IV.cells), ← List.map_append, ← HT.out] at HR2
        go_roundw
        case rel => exact ⟨i + 1, _, no + 1, c2, by omega, by go_num, rfl, by omega, HR2.out, HB2.out⟩
        case measure => simp [intOf]; omega
      | false =>
        rw [hbs, if_neg (by simp), List.append_nil] at HT
        rw [hbs] at HG
        clear hbs
        go_wp2_with (go_at_call 30; refine HG.out.mono ?_; rintro e w1 ⟨rfl, q, rfl⟩)
        have HB2 := hide (HBE.out.trans ((lt_drewN wr q).mono HBE.out.size))
        have HR2 := hide (HR.out.drewN q)
        rw [← HT.out] at HR2
        go_roundw
        case rel => exact ⟨i + 1, O, no, co, by omega, by go_num, rfl, by omega, HR2.out, HB2.out⟩
        case measure => simp [intOf]; omega
    · obtain rfl : i = n := by omega
      have hus : us.take i = us := List.take_of_length_le (by rw [HL.out.1]; exact Nat.le_refl _)
      rw [hus] at HR
      clear hus
      go_wp2_with fail
      go_ret
      refine ⟨O, no, co, us.filter fun u => begS u.t p, rfl, HR.out, by rw [filter_map_itm, HQ.out], fun u hu => ?_, fun u hu => ?_, HBE.out⟩
      · exact (HRD.out u (List.mem_filter.1 hu).1).below HBE.out
      · exact (HW.out u (List.mem_filter.1 hu).1).1
end
end Go.Proofs.Ytchcpeenpijekaa
