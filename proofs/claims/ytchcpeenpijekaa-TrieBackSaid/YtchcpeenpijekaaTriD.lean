/- A trie: what Add refuses; Drop in plain words. -/
import Derived.Test.YtchcpeenpijekaaTriC
import Derived.Test.YtchcpeenpijekaaRowG
namespace Go.Proofs.Ytchcpeenpijekaa
open Go.RowKit Go.Maps Go.MapKept Go.ChangeMaps
set_option linter.unusedVariables false

section
variable {w w' w1 w2 : World} {B t K k i words unlike : Nat} {N N0 : List Int → Option Nd} {C C' : List Int → Nat} {Q Q0 : List (List Int)} {l p : List Int} {x y : Nd}
set_option maxHeartbeats 400000 in
theorem tadd_nil (A : Option Addr) (n c : Nat) (w : World) :
    Calls Try.prog 18 #[.pointer none, .slice A n c] w fun e w' => e = .returned (.int .i64 8) ∧ w = w' := by
  go_enter Try.func18, Try.ntmps18
  go_wp2_with fail
  go_ret
  exact ⟨rfl, rfl⟩
set_option maxHeartbeats 400000 in
theorem tadd_form (A : Option Addr) (n c : Nat) (l : List Int) (w : World) (hA : Runes w A n l) (hn : n ≤ 35184372088832) (hf : n = 0 ∨ mayS l = false) :
    Calls Try.prog 18 #[.pointer (some ⟨t, 0, none⟩), .slice A n c] w fun e w' => e = .returned (.int .i64 1) ∧ w = w' := by
  have M1 := hide (may_any A n c l w hA (by omega))
  by_cases h0 : n = 0
  · have hd0 : ((n : Int) == 0) = true := by simp [h0]
    clear hA hf h0
    go_enter Try.func18, Try.ntmps18
    go_wp2_with fail
    go_ret
    exact ⟨rfl, rfl⟩
  · have hd0 : ((n : Int) == 0) = false := by simp; omega
    have hm : mayS l = false := by
      rcases hf with h | h
      · exact absurd h h0
      · exact h
    rw [hm] at M1
    clear hA hf h0 hm
    go_enter Try.func18, Try.ntmps18
    go_wp2_with (go_at_call 44; refine M1.out.mono ?_; rintro e w1 ⟨rfl, rfl⟩)
    go_ret
    exact ⟨rfl, rfl⟩
set_option maxHeartbeats 400000 in
theorem tadd_full (A : Option Addr) (n c : Nat) (l : List Int) (h : TrieN w B t K N C Q words unlike) (hA : Runes w A n l) (hmay : mayS l = true) (hn0 : 0 < n) (hn : n ≤ 35184372088832) (hw : words ≤ 1000000000) (hf : 1000 < n ∨ 1000 ≤ words) :
    Calls Try.prog 18 #[.pointer (some ⟨t, 0, none⟩), .slice A n c] w fun e w' => e = .returned (.int .i64 3) ∧ w = w' := by
  have M1 := hide (may_any A n c l w hA (by omega))
  rw [hmay] at M1
  have hd0 : ((n : Int) == 0) = false := by simp; omega
  obtain ⟨x0, hx0, hb⟩ := h.box
  have c1 : w.cell? ⟨t, 1, none⟩ = some (.int .i64 (words : Int)) := hb.cell 1
  clear h hA hb hx0 hmay
  by_cases h1 : 1000 < n
  · have hd1 : decide ((1000 : Int) < (n : Int)) = true := by simp; omega
    go_enter Try.func18, Try.ntmps18
    go_wp2_with (go_at_call 44; refine M1.out.mono ?_; rintro e w1 ⟨rfl, rfl⟩)
    go_ret
    exact ⟨rfl, rfl⟩
  · have hd1 : decide ((1000 : Int) < (n : Int)) = false := by simp; omega
    have hd2 : decide ((1000 : Int) ≤ (words : Int)) = true := by simp; omega
    go_enter Try.func18, Try.ntmps18
    go_wp2_with (go_at_call 44; refine M1.out.mono ?_; rintro e w1 ⟨rfl, rfl⟩)
    go_ret
    exact ⟨rfl, rfl⟩

/-- Between two rounds of Drop's second loop. -/
structure DropSt (w wr : World) (B t K i : Nat) (N0 N : List Int → Option Nd) (C : List Int → Nat) (Q : List (List Int)) (words unlike : Nat) (l : List Int) : Prop where
  tn : TrieN wr B t K N C Q words unlike
  eq : ∀ p, N p = if p <+: l ∧ i < p.length then none else N0 p
  turn : Turn N0 t w wr
theorem DropSt.start {wr : World} (h : TrieN wr B t K N C Q words unlike) (l : List Int) (ht : Turn N t w wr) : DropSt w wr B t K l.length N N C Q words unlike l :=
  ⟨h, fun p => by
    rw [if_neg]
    rintro ⟨h1, h2⟩
    have := h1.length_le
    omega, ht⟩
theorem DropSt.at_ {wr : World} (h : DropSt w wr B t K i N0 N C Q words unlike l) {j : Nat} (hj : j ≤ i) : N (l.take j) = N0 (l.take j) := by
  rw [h.eq, if_neg]
  rintro ⟨_, h2⟩
  rw [List.length_take] at h2
  omega
/-- One node less. -/
theorem DropSt.step {wr : World} (h : DropSt w wr B t K (i + 1) N0 N C Q words unlike l) (hi : i < l.length) (hx : N (l.take i) = some x) (hy : N (l.take (i + 1)) = some y) (hc : C (l.take (i + 1)) = 0) (hk : ∃ M, MapM wr y.2 0 M ∧ M = kidV N (l.take (i + 1))) {n : Nat}
    (hs : MapM w2 x.2 n (updM (kidV N (l.take i)) (nth l i) none)) (hnK : n ≤ K) (hg2 : wr.grownBy w2 (some x.2)) :
    0 < Q.length ∧ DropSt w (w2.setCell ⟨t, 3, none⟩ (.int .i64 ((Q.length - 1 : Nat) : Int))) B t K i N0 (delN N (l.take (i + 1))) C (Q.erase (l.take (i + 1))) words unlike l := by
  have hts := take_snoc hi
  have hmem : l.take (i + 1) ∈ Q := (h.tn.mem _).2 (by rw [hy]; rfl)
  have hlen := List.length_pos_of_mem hmem
  have hno : ∀ s, N (l.take (i + 1) ++ [s]) = none := fun s => by
    cases hz : N (l.take (i + 1) ++ [s]) with
    | none => rfl
    | some z =>
      obtain ⟨M, hM, rfl⟩ := hk
      have h32 := (h.tn.tree.up _ s (by rw [hz]; rfl)).2
      have := hM.zero s h32
      unfold kidV at this
      rw [hz] at this
      cases this
  have hT := h.tn.tree.shrink hx (r := nth l i) (fun s => by rw [← hts]; exact hno s) hs hnK hg2
  rw [← hts] at hT
  obtain ⟨x0, hx0, hbx⟩ := h.tn.box
  have hxt := h.tn.off hx
  have hbx2 := hbx.grown hg2 (fun e => hxt.2 (by injection e with e; exact e.symm))
  have hne : l.take (i + 1) ≠ [] := fun e => by
    have := congrArg List.length e
    rw [List.length_take, List.length_nil] at this
    omega
  have hsub : ∀ q z, delN N (l.take (i + 1)) q = some z → N q = some z := fun q z hz => by
    unfold delN at hz
    split at hz
    · cases hz
    · exact hz
  have hin : InT N0 t x.2 := by
    have := h.at_ (j := i) (by omega)
    rw [hx] at this
    exact .inr ⟨_, _, this.symm, .inr rfl⟩
  refine ⟨hlen, ⟨hT.far _ fun q z hz => h.tn.off (hsub q z hz), ⟨x0, ?_, ?_⟩, h.tn.one.erase _, fun q => ?_, fun q hq => ?_, h.tn.base⟩, fun q => ?_, (h.turn.grown (.inl hin) hg2).set (.inl (.inl rfl)) _⟩
  · unfold delN
    rw [if_neg fun e => hne e.symm]
    exact hx0
  · have := hbx2.set 3 (.int .i64 ((Q.length - 1 : Nat) : Int))
    rw [List.length_erase_of_mem hmem]
    exact this
  · rw [h.tn.one.mem_erase_iff, h.tn.mem]
    unfold delN
    by_cases e : q = l.take (i + 1)
    · rw [if_pos e]; simp [e]
    · rw [if_neg e]; simp [e]
  · unfold delN
    by_cases e : q = l.take (i + 1)
    · rw [e, hc] at hq
      omega
    · rw [if_neg e]; exact h.tn.live q hq
  · unfold delN
    rw [h.eq]
    by_cases e : q = l.take (i + 1)
    · rw [if_pos e, if_pos]
      rw [e]
      exact ⟨List.take_prefix _ _, by rw [List.length_take]; omega⟩
    · rw [if_neg e]
      by_cases e2 : q <+: l ∧ i + 1 < q.length
      · rw [if_pos e2, if_pos ⟨e2.1, by omega⟩]
      · rw [if_neg e2, if_neg]
        rintro ⟨h1, h2⟩
        have h3 : q.length = i + 1 := by
          by_cases h4 : i + 1 < q.length
          · exact absurd ⟨h1, h4⟩ e2
          · omega
        exact e (by rw [← h3]; exact List.prefix_iff_eq_take.1 h1)

/-- What Drop leaves. -/
def DropR (w : World) (B t K : Nat) (N : List Int → Option Nd) (C : List Int → Nat) (Q : List (List Int)) (words unlike : Nat) (l : List Int) (e : Ending) (w' : World) : Prop :=
  e = .returned (.int .i64 0) ∧ Turn N t w w' ∧ ∃ N' Q' i, TrieN w' B t K N' (fun q => if q = l then C l - 1 else C q) Q' (words - 1) (if C l = 1 then unlike - 1 else unlike) ∧
    (∀ p, N' p = if p <+: l ∧ i < p.length then none else N p) ∧ (i = 0 ∨ (i ≤ l.length ∧ (0 < (if l.take i = l then C l - 1 else C (l.take i)) ∨ ∃ s, (N' (l.take i ++ [s])).isSome = true)))
end
end Go.Proofs.Ytchcpeenpijekaa
