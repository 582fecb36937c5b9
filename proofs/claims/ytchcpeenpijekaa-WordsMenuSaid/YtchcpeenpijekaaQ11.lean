/- Pieces, joined: TriD, TriE. -/
import Derived.Test.YtchcpeenpijekaaQ10
import Derived.Test.YtchcpeenpijekaaQ05
import Derived.StillTailTactics

/- A trie: what Add refuses; Drop in plain words. -/
namespace Go.Proofs.Ytchcpeenpijekaa
open Go.RowKit Go.Maps Go.MapKept Go.ChangeMaps
set_option linter.unusedVariables false

section
variable {w w' w1 w2 : World} {B t K k i words unlike : Nat} {N N0 : List Int → Option Nd} {C C' : List Int → Nat} {Q Q0 : List (List Int)} {l p : List Int} {x y : Nd}
set_option maxHeartbeats 400000 in
theorem tadd_nil (A : Option Addr) (n c : Nat) (w : World) :
    Calls Try.prog 18 #[.pointer none, .slice A n c] w fun e w' => e = .returned (.int .i64 8) ∧ w = w' := by
  go_enter Try.func18, Try.ntmps18
  go_wp2_with fail
  go_ret
  exact ⟨rfl, rfl⟩
set_option maxHeartbeats 400000 in
theorem tadd_form (A : Option Addr) (n c : Nat) (l : List Int) (w : World) (hA : Runes w A n l) (hn : n ≤ 35184372088832) (hf : n = 0 ∨ mayS l = false) :
    Calls Try.prog 18 #[.pointer (some ⟨t, 0, none⟩), .slice A n c] w fun e w' => e = .returned (.int .i64 1) ∧ w = w' := by
  have M1 := hide (may_any A n c l w hA (by omega))
  by_cases h0 : n = 0
  · have hd0 : ((n : Int) == 0) = true := by simp [h0]
    clear hA hf h0
    go_enter Try.func18, Try.ntmps18
    go_wp2_with fail
    go_ret
    exact ⟨rfl, rfl⟩
  · have hd0 : ((n : Int) == 0) = false := by simp; omega
    have hm : mayS l = false := by
      rcases hf with h | h
      · exact absurd h h0
      · exact h
    rw [hm] at M1
    clear hA hf h0 hm
    go_enter Try.func18, Try.ntmps18
    go_wp2_with (go_at_call 44; refine M1.out.mono ?_; rintro e w1 ⟨rfl, rfl⟩)
    go_ret
    exact ⟨rfl, rfl⟩
set_option maxHeartbeats 400000 in
theorem tadd_full (A : Option Addr) (n c : Nat) (l : List Int) (h : TrieN w B t K N C Q words unlike) (hA : Runes w A n l) (hmay : mayS l = true) (hn0 : 0 < n) (hn : n ≤ 35184372088832) (hw : words ≤ 1000000000) (hf : 1000 < n ∨ 1000 ≤ words) :
    Calls Try.prog 18 #[.pointer (some ⟨t, 0, none⟩), .slice A n c] w fun e w' => e = .returned (.int .i64 3) ∧ w = w' := by
  have M1 := hide (may_any A n c l w hA (by omega))
  rw [hmay] at M1
  have hd0 : ((n : Int) == 0) = false := by simp; omega
  obtain ⟨x0, hx0, hb⟩ := h.box
  have c1 : w.cell? ⟨t, 1, none⟩ = some (.int .i64 (words : Int)) := hb.cell 1
  clear h hA hb hx0 hmay
  by_cases h1 : 1000 < n
  · have hd1 : decide ((1000 : Int) < (n : Int)) = true := by simp; omega
    go_enter Try.func18, Try.ntmps18
    go_wp2_with (go_at_call 44; refine M1.out.mono ?_; rintro e w1 ⟨rfl, rfl⟩)
    go_ret
    exact ⟨rfl, rfl⟩
  · have hd1 : decide ((1000 : Int) < (n : Int)) = false := by simp; omega
    have hd2 : decide ((1000 : Int) ≤ (words : Int)) = true := by simp; omega
    go_enter Try.func18, Try.ntmps18
    go_wp2_with (go_at_call 44; refine M1.out.mono ?_; rintro e w1 ⟨rfl, rfl⟩)
    go_ret
    exact ⟨rfl, rfl⟩

/-- Between two rounds of Drop's second loop. -/
structure DropSt (w wr : World) (B t K i : Nat) (N0 N : List Int → Option Nd) (C : List Int → Nat) (Q : List (List Int)) (words unlike : Nat) (l : List Int) : Prop where
  tn : TrieN wr B t K N C Q words unlike
  eq : ∀ p, N p = if p <+: l ∧ i < p.length then none else N0 p
  turn : Turn N0 t w wr
theorem DropSt.start {wr : World} (h : TrieN wr B t K N C Q words unlike) (l : List Int) (ht : Turn N t w wr) : DropSt w wr B t K l.length N N C Q words unlike l :=
  ⟨h, fun p => by
    rw [if_neg]
    rintro ⟨h1, h2⟩
    have := h1.length_le
    omega, ht⟩
theorem DropSt.at_ {wr : World} (h : DropSt w wr B t K i N0 N C Q words unlike l) {j : Nat} (hj : j ≤ i) : N (l.take j) = N0 (l.take j) := by
  rw [h.eq, if_neg]
  rintro ⟨_, h2⟩
  rw [List.length_take] at h2
  omega
/-- One node less. -/
theorem DropSt.step {wr : World} (h : DropSt w wr B t K (i + 1) N0 N C Q words unlike l) (hi : i < l.length) (hx : N (l.take i) = some x) (hy : N (l.take (i + 1)) = some y) (hc : C (l.take (i + 1)) = 0) (hk : ∃ M, MapM wr y.2 0 M ∧ M = kidV N (l.take (i + 1))) {n : Nat}
    (hs : MapM w2 x.2 n (updM (kidV N (l.take i)) (nth l i) none)) (hnK : n ≤ K) (hg2 : wr.grownBy w2 (some x.2)) :
    0 < Q.length ∧ DropSt w (w2.setCell ⟨t, 3, none⟩ (.int .i64 ((Q.length - 1 : Nat) : Int))) B t K i N0 (delN N (l.take (i + 1))) C (Q.erase (l.take (i + 1))) words unlike l := by
  have hts := take_snoc hi
  have hmem : l.take (i + 1) ∈ Q := (h.tn.mem _).2 (by rw [hy]; rfl)
  have hlen := List.length_pos_of_mem hmem
  have hno : ∀ s, N (l.take (i + 1) ++ [s]) = none := fun s => by
    cases hz : N (l.take (i + 1) ++ [s]) with
    | none => rfl
    | some z =>
      obtain ⟨M, hM, rfl⟩ := hk
      have h32 := (h.tn.tree.up _ s (by rw [hz]; rfl)).2
      have := hM.zero s h32
      unfold kidV at this
      rw [hz] at this
      cases this
  have hT := h.tn.tree.shrink hx (r := nth l i) (fun s => by rw [← hts]; exact hno s) hs hnK hg2
  rw [← hts] at hT
  obtain ⟨x0, hx0, hbx⟩ := h.tn.box
  have hxt := h.tn.off hx
  have hbx2 := hbx.grown hg2 (fun e => hxt.2 (by injection e with e; exact e.symm))
  have hne : l.take (i + 1) ≠ [] := fun e => by
    have := congrArg List.length e
    rw [List.length_take, List.length_nil] at this
    omega
  have hsub : ∀ q z, delN N (l.take (i + 1)) q = some z → N q = some z := fun q z hz => by
    unfold delN at hz
    split at hz
    · cases hz
    · exact hz
  have hin : InT N0 t x.2 := by
    have := h.at_ (j := i) (by omega)
    rw [hx] at this
    exact .inr ⟨_, _, this.symm, .inr rfl⟩
  refine ⟨hlen, ⟨hT.far _ fun q z hz => h.tn.off (hsub q z hz), ⟨x0, ?_, ?_⟩, h.tn.one.erase _, fun q => ?_, fun q hq => ?_, h.tn.base⟩, fun q => ?_, (h.turn.grown (.inl hin) hg2).set (.inl (.inl rfl)) _⟩
  · unfold delN
    rw [if_neg fun e => hne e.symm]
    exact hx0
  · have := hbx2.set 3 (.int .i64 ((Q.length - 1 : Nat) : Int))
    rw [List.length_erase_of_mem hmem]
    exact this
  · rw [h.tn.one.mem_erase_iff, h.tn.mem]
    unfold delN
    by_cases e : q = l.take (i + 1)
    · rw [if_pos e]; simp [e]
    · rw [if_neg e]; simp [e]
  · unfold delN
    by_cases e : q = l.take (i + 1)
    · rw [e, hc] at hq
      omega
    · rw [if_neg e]; exact h.tn.live q hq
  · unfold delN
    rw [h.eq]
    by_cases e : q = l.take (i + 1)
    · rw [if_pos e, if_pos]
      rw [e]
      exact ⟨List.take_prefix _ _, by rw [List.length_take]; omega⟩
    · rw [if_neg e]
      by_cases e2 : q <+: l ∧ i + 1 < q.length
      · rw [if_pos e2, if_pos ⟨e2.1, by omega⟩]
      · rw [if_neg e2, if_neg]
        rintro ⟨h1, h2⟩
        have h3 : q.length = i + 1 := by
          by_cases h4 : i + 1 < q.length
          · exact absurd ⟨h1, h4⟩ e2
          · omega
        exact e (by rw [← h3]; exact List.prefix_iff_eq_take.1 h1)

/-- What Drop leaves. -/
def DropR (w : World) (B t K : Nat) (N : List Int → Option Nd) (C : List Int → Nat) (Q : List (List Int)) (words unlike : Nat) (l : List Int) (e : Ending) (w' : World) : Prop :=
  e = .returned (.int .i64 0) ∧ Turn N t w w' ∧ ∃ N' Q' i, TrieN w' B t K N' (fun q => if q = l then C l - 1 else C q) Q' (words - 1) (if C l = 1 then unlike - 1 else unlike) ∧
    (∀ p, N' p = if p <+: l ∧ i < p.length then none else N p) ∧ (i = 0 ∨ (i ≤ l.length ∧ (0 < (if l.take i = l then C l - 1 else C (l.take i)) ∨ ∃ s, (N' (l.take i ++ [s])).isSome = true)))
end
end Go.Proofs.Ytchcpeenpijekaa

/- A trie: the walk of Drop. -/
namespace Go.Proofs.Ytchcpeenpijekaa
open Go.RowKit Go.Maps Go.MapKept Go.ChangeMaps
set_option linter.unusedVariables false

theorem nodeT : RowT 78 72 1 8 := ⟨Try.underlying78, ⟨.pointer none, by kernel_rfl, by kernel_rfl⟩, by omega⟩
/-- The road to a text: the nodes of its beginnings. -/
def roadV (N : List Int → Option Nd) (l : List Int) (m : Nat) : List (List Value) := (List.range m).map fun j => [ptrN (N (l.take j))]
theorem roadV_succ (N : List Int → Option Nd) (l : List Int) (m : Nat) : roadV N l (m + 1) = roadV N l m ++ [[ptrN (N (l.take m))]] := by unfold roadV; rw [List.range_succ, List.map_append]; rfl
theorem roadV_at (N : List Int → Option Nd) (l : List Int) {m j : Nat} (hj : j < m) : (roadV N l m)[j]? = some [ptrN (N (l.take j))] := by unfold roadV; simp [hj]
theorem roadV_each (N : List Int → Option Nd) (l : List Int) (m : Nat) : Each 1 (roadV N l m) := fun v hv => by
  obtain ⟨j, _, rfl⟩ := List.mem_map.1 hv
  exact ⟨rfl, fun u hu => by rw [List.mem_singleton.1 hu]; rfl⟩
theorem roadV_len (N : List Int → Option Nd) (l : List Int) (m : Nat) : (roadV N l m).length = m := by unfold roadV; simp
theorem road_cell {w : World} {N : List Int → Option Nd} {l : List Int} {B m c j : Nat} {A : Option Addr} (h : RowG w 72 1 B A m c (roadV N l m)) (hj : j < m) {x : Nd} (hx : N (l.take j) = some x) :
    ∃ g, A = some ⟨g, 0, none⟩ ∧ w.cell? ⟨g, j, none⟩ = some (.pointer (some ⟨x.1, 0, none⟩)) := by
  obtain ⟨g, h1, h2, _⟩ := h.cell (j := j) (i := 0) (u := ptrN (N (l.take j))) (roadV_at N l hj) (by omega) rfl
  rw [hx, Nat.mul_one, Nat.add_zero] at h2
  exact ⟨g, h1, h2⟩

theorem minusN_le (M : Int → Option Value) (r : Int) (n : Nat) : minusN M r n ≤ n := by unfold minusN; split <;> omega
/-- A map with keys has one. -/
theorem MapM.some_ {w : World} {b n : Nat} {M : Int → Option Value} (h : MapM w b n M) (hn : 0 < n) : ∃ r, I32 r ∧ (M r).isSome = true := by
  obtain ⟨D, ⟨es, clock, hb, F, hs, hD⟩, h2, h3⟩ := h.ex
  have hl : 0 < ((es.toList.map (Go.WideElems.rg Try.prog 21 anyR)).foldr Go.DataW.insert []).length := by rw [hD] at h2; rw [← h2] at hn; exact hn
  obtain ⟨p, hp⟩ := List.exists_mem_of_length_pos hl
  obtain ⟨x, hx, hxp⟩ := List.mem_map.1 ((Go.mem_sorted (l := es.toList.map (Go.WideElems.rg Try.prog 21 anyR))).1 hp)
  obtain ⟨y, hy⟩ := F.reads x hx
  rw [Go.WideElems.rg_of hy] at hxp
  obtain ⟨r, _, hr, h32⟩ := keyOf_r_inv (Go.WideElems.rd_key hy)
  refine ⟨r, h32, ?_⟩
  rw [← (h3 r h32).1, hD]
  exact List.any_eq_true.2 ⟨p, hp, by rw [← hxp, hr]; exact WideAt.sameKey_self (isKey_r h32)⟩

section
variable {w w' w1 w2 : World} {B t K k i words unlike : Nat} {N N0 : List Int → Option Nd} {C C' : List Int → Nat} {Q Q0 : List (List Int)} {l p : List Int} {x y : Nd}
set_option maxHeartbeats 400000 in
theorem tdrop_none (A : Option Addr) (n c : Nat) (l : List Int) (h : TrieN w B t K N C Q words unlike) (hA : Runes w A n l) (hn : n ≤ 35184372088832) (h0 : C l = 0) :
    Calls Try.prog 14 #[.pointer (some ⟨t, 0, none⟩), .slice A n c] w fun e w' => e = .returned (.int .i64 4) ∧ w = w' := by
  have HC := hide (tcount_any A n c l h hA hn)
  rw [h0] at HC
  clear h hA h0
  go_enter Try.func14, Try.ntmps14
  go_wp2_with (go_at_call 16; refine HC.out.mono ?_; rintro e w' ⟨rfl, rfl⟩)
  go_ret
  exact ⟨rfl, rfl⟩

set_option maxRecDepth 100000 in
set_option maxHeartbeats 4000000 in
theorem tdrop_ok (A : Option Addr) (n c : Nat) (l : List Int) (h : TrieN w B t K N C Q words unlike) (hA : Runes w A n l) (hn : n ≤ 1000000) (h0 : 0 < C l) (hw : words ≤ 1000000000) (hB : B ≤ w.heap.size) (hK : K ≤ 1000000000) (hu : unlike ≤ 1000000000) (hw1 : 0 < words) (hu1 : 0 < unlike) (hQ : Q.length ≤ 1000000000) (hC : C l ≤ 1000000000) :
    Calls Try.prog 14 #[.pointer (some ⟨t, 0, none⟩), .slice A n c] w (DropR w B t K N C Q words unlike l) := by
  have HC := hide (tcount_any A n c l h hA (by omega))
  have hc0 : (((C l : Nat) : Int) == 0) = false := by simp; omega
  obtain ⟨x0, hx0, hb⟩ := h.box
  have HT := hide h
  have HL := hide hA
  have HLN := hide hA.len
  have HN := hide (show ∀ j, ∃ x, N (l.take j) = some x from fun j => by
    have := h.tree.prefix_ (List.take_prefix j l) (h.live l h0)
    cases hz : N (l.take j) with
    | none => rw [hz] at this; cases this
    | some z => exact ⟨z, rfl⟩)
  have c0 : w.cell? ⟨t, 0, none⟩ = some (.pointer (some ⟨x0.1, 0, none⟩)) := hb.cell 0
  have HX0 := hide hx0
  have H0 := hide h0
  clear h hA hb hx0 h0
  go_enter Try.func14, Try.ntmps14
  go_wp2_with (go_at_call 16; refine HC.out.mono ?_; rintro e w' ⟨rfl, rfl⟩)
  have hbx := Box.new w 72 #[.pointer (some ⟨x0.1, 0, none⟩)]
  have HR0 := hide (show RowG (w.alloc (.cells #[.pointer (some ⟨x0.1, 0, none⟩)] 72)) 72 1 w.heap.size (some ⟨w.heap.size, 0, none⟩) 1 1 (roadV N l 1) from
    RowG.ofBox hbx (Nat.le_refl _) (roadV_each N l 1) (by unfold roadV; simp [List.range_succ]; rw [HX0.out]; rfl) (roadV_len N l 1) (by unfold maxLen; omega))
  have HB0 := hide ((Below.refl w.heap.size w).alloc (Nat.le_refl _) (.cells #[.pointer (some ⟨x0.1, 0, none⟩)] 72))
  clear c0 hbx HC
  go_loopw [5, 25] (fun s5 s25 wr => ∃ (k m : Nat) (R : Option Addr) (cr : Nat), k ≤ n ∧ m = k + 1 ∧ s25 = .int .i64 k ∧ s5 = .slice R m cr ∧ Hid (RowG wr 72 1 w.heap.size R m cr (roadV N l m)) ∧ Hid (Below w.heap.size w wr)) (fun _ s25 _ => n - (intOf s25).toNat)
  case atStart => exact ⟨0, 1, _, 1, Nat.zero_le _, rfl, rfl, rfl, HR0.out, HB0.out⟩
  case round =>
    obtain ⟨k, m, R, cr, hk, hm, rfl, rfl, HR, HB⟩ := hrel
    by_cases hlt : k < n
    · obtain ⟨ab, ao, rfl, hc⟩ := (HL.out.below HB.out).at_ k hlt
      obtain ⟨x, hx⟩ := HN.out k
      obtain ⟨y, hy⟩ := HN.out (k + 1)
      obtain ⟨gr, rfl, hrc⟩ := road_cell HR.out (j := k) (by omega) hx
      have hlk := (HT.out.below HB.out).tree.look hx (HL.out.wf.bd k)
      rw [← take_snoc (by have := HLN.out; omega), hy] at hlk
      have hlk' : (Instr.lookup 73 (.map (some x.2)) (.int .i32 (nth l k)) false).run Try.prog wr = .ok (.pointer (some ⟨y.1, 0, none⟩)) wr := hlk
      have hc1 : wr.cell? ⟨x.1, 1, none⟩ = some (.map (some x.2)) := ((HT.out.below HB.out).tree.node _ _ hx).cell 1
      have e1 : IntKind.i64.wrap ((m : Int) - 1) = (k : Int) := by rw [IntWalk.i64_in _ (by omega)]; omega
      have i1 : (k : Int) < (m : Int) := by omega
      have HM := hide hm
      have HY := hide hy
      have hm2 : m ≤ 1000001 := by omega
      clear hx hy hlk hm
      go_wp2_with (at_builtin
                   refine wpList_appG nodeT rfl (.tmp 29) (.tmp 41) rfl w.heap.size rfl (HR.out.alloc _) (m := 1) (d := 1) rfl (us := [[.pointer (some ⟨y.1, 0, none⟩)]]) (news_box (cs := #[.pointer (some ⟨y.1, 0, none⟩)]) (Box.new _ _ _)) (Each.one rfl (fun u hu => by rw [List.mem_singleton.1 hu]; rfl)) rfl (by omega) (by omega) (by omega) (by have := HB.out.size; simp; omega) ?_
                   intro g2 c2 w2 hrow2 hg2 hb2 _)
      have HR2 := hide (show RowG w2 72 1 w.heap.size (some ⟨g2, 0, none⟩) (m + 1) c2 (roadV N l (m + 1)) from by
        rw [roadV_succ, HM.out, HY.out]
        rw [HM.out] at hrow2
        exact hrow2)
      have HB2 := hide ((HB.out.alloc HB.out.size _).trans hb2)
      clear hrow2 hg2 hb2 hrc hc hc1 hlk'
      go_roundw
      case rel => exact ⟨k + 1, m + 1, _, c2, by omega, by have := HM.out; omega, by go_num, rfl, HR2.out, HB2.out⟩
      case measure => simp [intOf]; omega
    · obtain rfl : k = n := by omega
      obtain ⟨x, hx⟩ := HN.out k
      obtain ⟨gr, rfl, hrc⟩ := road_cell HR.out (j := k) (by omega) hx
      rw [List.take_of_length_le (by have := HLN.out; omega)] at hx
      have HT1 := hide (HT.out.below HB.out)
      obtain ⟨xt, hxt, hbt⟩ := HT1.out.box
      have hnode := HT1.out.tree.node _ _ hx
      have hne := HT1.out.off hx
      have i1 : (k : Int) < (m : Int) := by omega
      have HM := hide hm
      have HX := hide hx
      have d0 : wr.cell? ⟨x.1, 0, none⟩ = some (.int .i64 (C l : Nat)) := hnode.cell 0
      have d0f := hnode.frozen 0
      have d1 : wr.cell? ⟨t, 1, none⟩ = some (.int .i64 (words : Nat)) := hbt.cell 1
      have d2 : wr.cell? ⟨t, 2, none⟩ = some (.int .i64 (unlike : Nat)) := hbt.cell 2
      have d1f := hbt.frozen 1
      have d2f := hbt.frozen 2
      have hn1 : x.1 ≠ t := hne.1
      have hn2 : t ≠ x.1 := fun e => hne.1 e.symm
      have hgx : gr ≠ x.1 ∧ gr ≠ t := by
        have h1 := HT.out.tree.lt hx
        have h2 := HT.out.lt
        have h3 := (HR.out.blk_ge gr rfl).1
        omega
      clear hx hm hxt hbt hnode hne
      have e1 : ((C l - 1 : Nat) : Int) = (C l : Int) - 1 := by have := H0.out; omega
      have e2 : ((words - 1 : Nat) : Int) = (words : Int) - 1 := by omega
      have e3 : ((unlike - 1 : Nat) : Int) = (unlike : Int) - 1 := by omega
      have hin : InT N t x.1 := .inr ⟨_, _, HX.out, .inl rfl⟩
      have HS2 := hide (show TrieN ((wr.setCell ⟨x.1, 0, none⟩ (.int .i64 ((C l : Int) - 1))).setCell ⟨t, 1, none⟩ (.int .i64 ((words : Int) - 1))) B t K N (fun q => if q = l then C l - 1 else C q) Q (words - 1) unlike ∧
          Turn N t w ((wr.setCell ⟨x.1, 0, none⟩ (.int .i64 ((C l : Int) - 1))).setCell ⟨t, 1, none⟩ (.int .i64 ((words : Int) - 1))) ∧
          RowG ((wr.setCell ⟨x.1, 0, none⟩ (.int .i64 ((C l : Int) - 1))).setCell ⟨t, 1, none⟩ (.int .i64 ((words : Int) - 1))) 72 1 w.heap.size (some ⟨gr, 0, none⟩) m cr (roadV N l m) from by
        rw [← e1, ← e2]
        exact ⟨(HT1.out.setC HX.out _).setW _, ((Turn.of_below HB.out).set (a := ⟨x.1, 0, none⟩) (.inl hin) _).set (a := ⟨t, 1, none⟩) (.inl (.inl rfl)) _, (HR.out.far (p := ⟨x.1, 0, none⟩) (fun e => hgx.1 (by injection e)) _).far (p := ⟨t, 1, none⟩) (fun e => hgx.2 (by injection e)) _⟩)
      have HS3 := hide (show TrieN (((wr.setCell ⟨x.1, 0, none⟩ (.int .i64 ((C l : Int) - 1))).setCell ⟨t, 1, none⟩ (.int .i64 ((words : Int) - 1))).setCell ⟨t, 2, none⟩ (.int .i64 ((unlike : Int) - 1))) B t K N (fun q => if q = l then C l - 1 else C q) Q (words - 1) (unlike - 1) ∧
          Turn N t w (((wr.setCell ⟨x.1, 0, none⟩ (.int .i64 ((C l : Int) - 1))).setCell ⟨t, 1, none⟩ (.int .i64 ((words : Int) - 1))).setCell ⟨t, 2, none⟩ (.int .i64 ((unlike : Int) - 1))) ∧
          RowG (((wr.setCell ⟨x.1, 0, none⟩ (.int .i64 ((C l : Int) - 1))).setCell ⟨t, 1, none⟩ (.int .i64 ((words : Int) - 1))).setCell ⟨t, 2, none⟩ (.int .i64 ((unlike : Int) - 1))) 72 1 w.heap.size (some ⟨gr, 0, none⟩) m cr (roadV N l m) from by
        rw [← e3]
        exact ⟨HS2.out.1.setU _, HS2.out.2.1.set (a := ⟨t, 2, none⟩) (.inl (.inl rfl)) _, HS2.out.2.2.far (p := ⟨t, 2, none⟩) (fun e => hgx.2 (by injection e)) _⟩)
      clear e1 e2 e3 hin HT1
      by_cases h1 : C l = 1
      all_goals
        first
        | (have hd : (((C l : Nat) : Int) - 1 == 0) = true := by simp [h1]
           have HU := hide (show (if C l = 1 then unlike - 1 else unlike) = unlike - 1 from if_pos h1)
           clear h1
           go_wp2_with fail
           generalize World.setCell _ _ _ = W3 at HS3 ⊢
           have HS := HS3
           clear HS2 HS3)
        | (have hd : (((C l : Nat) : Int) - 1 == 0) = false := by simp; have := H0.out; omega
           have HU := hide (show (if C l = 1 then unlike - 1 else unlike) = unlike from if_neg h1)
           clear h1
           go_wp2_with fail
           clear HS3
           generalize World.setCell _ _ _ = W3 at HS2 ⊢
           have HS := HS2
           clear HS2)
        clear hd d0 d0f d1 d2 d1f d2f hrc
        have HD0 := hide (DropSt.start HS.out.1 l HS.out.2.1)
        rw [HLN.out] at HD0
        have HRW := hide HS.out.2.2
        clear HS HR
        go_loopw [9] (fun s9 wx => ∃ (i : Nat) (N' : List Int → Option Nd) (Q' : List (List Int)), i ≤ k ∧ s9 = .int .i64 i ∧ Q'.length ≤ 1000000000 ∧ Hid (∃ u, (if C l = 1 then unlike - 1 else unlike) = u ∧ DropSt w wx B t K i N N' (fun q => if q = l then C l - 1 else C q) Q' (words - 1) u l) ∧ Hid (RowG wx 72 1 w.heap.size (some ⟨gr, 0, none⟩) m cr (roadV N l m))) (fun s9 _ => (intOf s9).toNat)
        case atStart => exact ⟨k, N, Q, Nat.le_refl _, rfl, hQ, ⟨_, HU.out, HD0.out⟩, HRW.out⟩
        case round =>
          obtain ⟨i, N', Q', hi, rfl, hQ', HS0, HR⟩ := hrel
          obtain ⟨U, hU, hS⟩ := HS0.out
          have HU := hide hU
          have HS := hide hS
          clear hU hS HS0 HD0 HRW
          by_cases hi0 : i = 0
          · have hd : decide ((0 : Int) < (i : Int)) = false := by simp; omega
            have hdn : ¬ 0 < i := by omega
            have HI := hide hi0
            clear hi0
            go_wp2_with fail
            go_ret
            exact ⟨rfl, HS.out.turn, N', Q', i, by rw [HU.out]; exact HS.out.tn, HS.out.eq, .inl HI.out⟩
          · obtain ⟨y, hy⟩ := HN.out i
            have hy' := (HS.out.at_ (Nat.le_refl _)).trans hy
            obtain ⟨gr', hgr', hrc⟩ := road_cell HR.out (j := i) (by have := HM.out; omega) hy
            injection hgr' with hgr'
            injection hgr' with hgr'
            subst hgr'
            have hnode := HS.out.tn.tree.node _ _ hy'
            obtain ⟨cc, hcc⟩ : ∃ cc, (if l.take i = l then C l - 1 else C (l.take i)) = cc := ⟨_, rfl⟩
            have y0 : wr.cell? ⟨y.1, 0, none⟩ = some (.int .i64 ((if l.take i = l then C l - 1 else C (l.take i) : Nat) : Int)) := hnode.cell 0
            have y1 : wr.cell? ⟨y.1, 1, none⟩ = some (.map (some y.2)) := hnode.cell 1
            rw [hcc] at y0
            have hd : decide ((0 : Int) < (i : Int)) = true := by simp; omega
            have hdi : (0 : Int) < (i : Int) := by omega
            have him : (i : Int) < (m : Int) := by have := HM.out; omega
            have HCC := hide hcc
            have HY := hide hy'
            clear hy hy' hnode hcc
            by_cases hc0 : cc = 0
            · have hdc : (((cc : Nat) : Int) == 0) = true := by simp [hc0]
              obtain ⟨mm, hmK, hm⟩ := HS.out.tn.tree.kids _ _ HY.out
              have hlen := hm.len 3
              have HMM := hide hm
              have HC0 := hide hc0
              clear hm hc0
              by_cases hm0 : mm = 0
              · have hdm : (((mm : Nat) : Int) == 0) = true := by simp [hm0]
                have HM0 := hide hm0
                clear hm0
                obtain ⟨j, hj⟩ : ∃ j, i = j + 1 := ⟨i - 1, by omega⟩
                obtain ⟨z, hz⟩ := HN.out j
                have hz' := (HS.out.at_ (j := j) (by omega)).trans hz
                obtain ⟨gr', hgr', hrz⟩ := road_cell HR.out (j := j) (by have := HM.out; omega) hz
                injection hgr' with hgr'
                injection hgr' with hgr'
                subst hgr'
                have z1 : wr.cell? ⟨z.1, 1, none⟩ = some (.map (some z.2)) := (HS.out.tn.tree.node _ _ hz').cell 1
                obtain ⟨ab, ao, rfl, hc⟩ := (HS.out.turn.runes HT.out HL.out).at_ j (by omega)
                have e1 : IntKind.i64.wrap ((i : Int) - 1) = (j : Int) := by rw [IntWalk.i64_in _ (by omega)]; omega
                have j0 : (0 : Int) ≤ (j : Int) := by omega
                have j1 : (j : Int) < (m : Int) := by have := HM.out; omega
                have j2 : (j : Int) < (k : Int) := by omega
                have h32 := HL.out.wf.bd j
                have H32 := hide h32
                obtain ⟨nz, hnzK, hmz⟩ := HS.out.tn.tree.kids _ _ hz'
                have HMZ := hide hmz
                have HZ := hide hz'
                have HJ := hide hj
                have HGZ := hide (show gr ≠ z.2 from by
                  have h1 := (HT.out.tree.lt hz).2
                  have h3 := (HR.out.blk_ge gr rfl).1
                  omega)
                clear hz hz' hmz h32 hj
                go_upto_region 19 with fail
                go_still_tail 13, (by kernel_rfl)
                change wpList _ _ _ _ _ wr.drew
                refine wpList_dropM rfl (.tmp 109) (.tmp 114) rfl H32.out rfl rfl (b := z.2) (HMZ.out.keep rfl) ?_
                intro w2 hm2 hg2 hs2
                have hg2' : wr.grownBy w2 (some z.2) := ⟨hg2.os, hg2.tape, hg2.output, hg2.size, hg2.block⟩
                have hS := HS.out
                have hY := HY.out
                have hMM := HMM.out
                have hCC := HCC.out
                rw [HJ.out] at hS hY hMM hCC
                rw [HM0.out] at hMM
                rw [HC0.out] at hCC
                obtain ⟨hql, hD⟩ := hS.step (by have := HLN.out; have := HJ.out; omega) HZ.out hY hCC ⟨_, hMM, rfl⟩ hm2 (by have := minusN_le (kidV N' (l.take j)) (nth l j) nz; omega) hg2'
                obtain ⟨xt', hxt', hbt'⟩ := HS.out.tn.box
                have hbt2 := hbt'.grown hg2' (fun e => (HS.out.tn.off HZ.out).2 (by injection e with e; exact e.symm))
                have c3 : w2.cell? ⟨t, 3, none⟩ = some (.int .i64 (Q'.length : Int)) := hbt2.cell 3
                have c3f := hbt2.frozen 3
                have e3 : ((Q'.length - 1 : Nat) : Int) = (Q'.length : Int) - 1 := by omega
                rw [e3] at hD
                have HR2 := hide ((HR.out.kept hg2' (.inr fun e => HGZ.out (by injection e))).far (p := ⟨t, 3, none⟩) (fun e => hgx.2 (by injection e)) (.int .i64 ((Q'.length : Int) - 1)))
                have HD2 := hide hD
                have HQL := hide (show (Q'.erase (l.take (j + 1))).length ≤ 1000000000 from Nat.le_trans (List.length_erase_le) hQ')
                clear hm2 hg2 hg2' hS hY hMM hCC hD hxt' hbt' hbt2 e3 hlen hrc y0 y1 hrz z1 hc hs2
                go_wp2_with fail
                generalize w2.setCell ⟨t, 3, none⟩ (.int .i64 ((Q'.length : Int) - 1)) = W4 at HD2 HR2 ⊢
                go_roundw
                case rel => exact ⟨j, _, _, by have := HJ.out; omega, rfl, HQL.out, ⟨U, HU.out, HD2.out⟩, HR2.out⟩
                case measure => simp [intOf]; have := HJ.out; omega
              · have hdm : (((mm : Nat) : Int) == 0) = false := by simp [hm0]
                have HE := hide (show ∃ s, (N' (l.take i ++ [s])).isSome = true from by
                  obtain ⟨s, hs, hss⟩ := HMM.out.some_ (by omega)
                  refine ⟨s, ?_⟩
                  unfold kidV at hss
                  rw [Option.isSome_map] at hss
                  exact hss)
                clear hm0
                go_wp2_with fail
                go_ret
                exact ⟨rfl, HS.out.turn, N', Q', i, by rw [HU.out]; exact HS.out.tn, HS.out.eq, .inr ⟨by have := HLN.out; omega, .inr HE.out⟩⟩
            · have hdc : (((cc : Nat) : Int) == 0) = false := by simp [hc0]
              have HC0 := hide hc0
              clear hc0
              go_wp2_with fail
              go_ret
              exact ⟨rfl, HS.out.turn, N', Q', i, by rw [HU.out]; exact HS.out.tn, HS.out.eq, .inr ⟨by have := HLN.out; omega, .inl (by rw [HCC.out]; have := HC0.out; omega)⟩⟩
end
end Go.Proofs.Ytchcpeenpijekaa
