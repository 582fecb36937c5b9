/- Registers: Set in all its ways, Names, Copy of none. -/
import Derived.Test.YthmchmpicncgdaaRegB
import Derived.Test.YthmchmpicncgdaaSrtS
namespace Go.Proofs.Ythmchmpicncgdaa
open Go.RowKit Go.Maps Go.MapKept Go.ChangeMaps Go.Shelf
set_option linter.unusedVariables false
variable {P : Nat → Prop}

set_option maxHeartbeats 1000000 in
theorem rset_not (pv : Nat) (r : Int) (A : Option Addr) (k c : Nat) (q : Bool) (w : World) (h : ¬ okN r) :
    Calls Try.prog 8 #[.pointer (some ⟨pv, 0, none⟩), .int .i32 r, .agg #[.slice A k c, .bool q]] w fun e w' => e = .returned (.int .i64 2) ∧ Below w.heap.size w w' := by
  have N1 := hide (fun W => named_not r W h)
  clear h
  go_enter Try.func8, Try.ntmps8
  go_wp2_with (go_at_call 24; refine (N1.out _).mono ?_; rintro e w1 ⟨rfl, rfl⟩)
  go_ret
  exact ⟨rfl, (Below.refl _ _).alloc (Nat.le_refl _) _⟩
set_option maxHeartbeats 1000000 in
theorem rset_nil (r : Int) (A : Option Addr) (k c : Nat) (q : Bool) (w : World) (h : okN r) :
    Calls Try.prog 8 #[.pointer none, .int .i32 r, .agg #[.slice A k c, .bool q]] w fun e w' => e = .returned (.int .i64 8) ∧ Below w.heap.size w w' := by
  have N1 := hide (fun W => named_ok r W h)
  clear h
  go_enter Try.func8, Try.ntmps8
  go_wp2_with (go_at_call 24; refine (N1.out _).mono ?_; rintro e w1 ⟨rfl, rfl⟩)
  go_ret
  exact ⟨rfl, (Below.refl _ _).alloc (Nat.le_refl _) _⟩
set_option maxHeartbeats 1000000 in
theorem rset_form (pv : Nat) (r : Int) (A : Option Addr) (k c : Nat) (q : Bool) (t : List Int) (w : World) (h : okN r) (ht : mayS t = false) (hA : Runes w A k t) (hk : k ≤ 35184372088832) :
    Calls Try.prog 8 #[.pointer (some ⟨pv, 0, none⟩), .int .i32 r, .agg #[.slice A k c, .bool q]] w fun e w' => e = .returned (.int .i64 1) ∧ Below w.heap.size w w' := by
  have N1 := hide (fun W => named_ok r W h)
  have M1 := hide (may_any A k c t _ (hA.alloc (.cells #[.slice A k c, .bool q] 29)) (by omega))
  rw [ht] at M1
  clear h ht hA
  go_enter Try.func8, Try.ntmps8
  go_wp2_with (first
    | (go_at_call 24; refine (N1.out _).mono ?_; rintro e w1 ⟨rfl, rfl⟩)
    | (go_at_call 25; refine M1.out.mono ?_; rintro e w1 ⟨rfl, rfl⟩))
  go_ret
  exact ⟨rfl, (Below.refl _ _).alloc (Nat.le_refl _) _⟩
set_option maxHeartbeats 1000000 in
theorem rset_full (pv : Nat) (r : Int) (A : Option Addr) (k c : Nat) (q : Bool) (t : List Int) (w : World) (h : okN r) (ht : mayS t = true) (hA : Runes w A k t) (hk : k ≤ 35184372088832) (hf : 1000 < k) :
    Calls Try.prog 8 #[.pointer (some ⟨pv, 0, none⟩), .int .i32 r, .agg #[.slice A k c, .bool q]] w fun e w' => e = .returned (.int .i64 3) ∧ Below w.heap.size w w' := by
  have N1 := hide (fun W => named_ok r W h)
  have M1 := hide (may_any A k c t _ (hA.alloc (.cells #[.slice A k c, .bool q] 29)) (by omega))
  rw [ht] at M1
  have d1 : decide ((1000 : Int) < (k : Int)) = true := by simp; omega
  clear h ht hA
  go_enter Try.func8, Try.ntmps8
  go_wp2_with (first
    | (go_at_call 24; refine (N1.out _).mono ?_; rintro e w1 ⟨rfl, rfl⟩)
    | (go_at_call 25; refine M1.out.mono ?_; rintro e w1 ⟨rfl, rfl⟩))
  go_ret
  exact ⟨rfl, (Below.refl _ _).alloc (Nat.le_refl _) _⟩

/-- Set, all ways. -/
theorem rset_any (p b n : Nat) (M : Int → Option Rg) (r : Int) (A : Option Addr) (k c : Nat) (q : Bool) (t : List Int) (w : World) (hm : RegsM P w p b n M) (hA : Runes w A k t) (hk : k ≤ 35184372088832) (hn : n ≤ 1000) (hP : ∀ g, w.heap.size ≤ g → P g) :
    Calls Try.prog 8 #[.pointer (some ⟨p, 0, none⟩), .int .i32 r, .agg #[.slice A k c, .bool q]] w (SetR P w p b n M r (t, q)) := by
  have stay : ∀ {E : Int} {e : Ending} {w' : World}, setE M r (t, q) = E → E ≠ 0 → e = .returned (.int .i64 E) ∧ Below w.heap.size w w' → SetR P w p b n M r (t, q) e w' := fun {E e w'} h1 h2 ⟨h3, h4⟩ =>
    ⟨by rw [h3, h1], grown_of_below h4, n, by omega, by
      unfold setM
      rw [if_neg (by rw [h1]; exact h2)]
      exact hm.below h4⟩
  have hl := hA.len
  by_cases h1 : okN r
  · cases h2 : mayS t
    · exact (rset_form p r A k c q t w h1 h2 hA hk).mono fun e w' h => stay (by unfold setE; rw [if_neg (by simpa using h1), if_pos h2]) (by omega) h
    · by_cases h3 : 1000 < k
      · exact (rset_full p r A k c q t w h1 h2 hA hk h3).mono fun e w' h => stay (by unfold setE; rw [if_neg (by simpa using h1), if_neg (by simp [h2]), if_pos (by dsimp only; omega)]) (by omega) h
      · refine (rset_ok p b n M r A k c q t w h1 h2 (by omega) hm hA hn hP).mono ?_
        rintro e w' (⟨rfl, h4, h5⟩ | ⟨rfl, h4, h5, n', h6, h7⟩)
        · exact stay (by unfold setE; rw [if_neg (by simpa using h1), if_neg (by simp [h2]), if_neg (by dsimp only; omega), if_pos h4]) (by omega) ⟨rfl, h5⟩
        · have hE : setE M r (t, q) = 0 := by unfold setE; rw [if_neg (by simpa using h1), if_neg (by simp [h2]), if_neg (by dsimp only; omega), if_neg (by omega)]
          exact ⟨by rw [hE], h5, n', h6, by unfold setM; rw [if_pos hE]; exact h7⟩
  · exact (rset_not p r A k c q w h1).mono fun e w' h => stay (by unfold setE; rw [if_pos h1]) (by omega) h
theorem rget_any (p b n : Nat) (M : Int → Option Rg) (r : Int) (w : World) (hm : RegsM P w p b n M) :
    Calls Try.prog 17 #[.pointer (some ⟨p, 0, none⟩), .int .i32 r] w (GetR w (getX M r) (getB M r)) := by
  unfold getX getB
  by_cases h : okN r
  · rw [if_pos h, if_pos h]; exact rget_ok p b n M r w h hm
  · rw [if_neg h, if_neg h]; exact rget_no _ r w h

/-- The names of registers: ascending, each that is set. -/
def NamesL (M : Int → Option Rg) (l : List Int) : Prop := l.Pairwise (· < ·) ∧ ∀ x, x ∈ l ↔ I32 x ∧ (M x).isSome = true
def NamesR (M : Int → Option Rg) (w : World) (e : Ending) (w' : World) : Prop := ∃ A n c l, e = .returned (.slice A n c) ∧ Own w' w.heap.size A n c l ∧ NamesL M l ∧ Below w.heap.size w w'
theorem lt_of_le_nodup {l : List Int} (h : l.Pairwise (· ≤ ·)) (k : l.Nodup) : l.Pairwise (· < ·) := by
  have := h.and k
  exact this.imp fun ⟨h1, h2⟩ => by omega

set_option maxHeartbeats 1000000 in
theorem names_any (p b n : Nat) (M : Int → Option Rg) (w : World) (hm : RegsM P w p b n M) (hn : n ≤ 1000) (hS : ∀ l : List Int, l.Nodup → (∀ x, x ∈ l → (M x).isSome = true) → SortsAt l.length) :
    Calls Try.prog 21 #[.pointer (some ⟨p, 0, none⟩)] w (NamesR M w) := by
  obtain ⟨V, hV, hR⟩ := hm.map
  obtain ⟨D, hD, hsz, hrd⟩ := hV.ex
  have hmem : ∀ x, (I32 x ∧ has D (.int .i32 x) = true) ↔ (I32 x ∧ (M x).isSome = true) := fun x => by
    constructor
    · rintro ⟨hx, h⟩
      refine ⟨hx, ?_⟩
      rw [(hrd x hx).1] at h
      cases hM : M x with
      | none => rw [(hR x hx).2 hM] at h; cases h
      | some y => rfl
    · rintro ⟨hx, h⟩
      refine ⟨hx, ?_⟩
      rw [(hrd x hx).1]
      cases hM : M x with
      | none => rw [hM] at h; cases h
      | some y => obtain ⟨v, hv, _⟩ := (hR x hx).1 y hM; rw [hv]; rfl
  have K1 := hide (callsIn_wide.1 (keys_in Fence.wide 4 trivial rfl (some b) w))
  have hb0 : Below w.heap.size w (w.alloc (.cells #[.map (some b)] 54)) := (Below.refl w.heap.size w).alloc (Nat.le_refl _) _
  have S1 := hide (sorted_any w.heap.size b n D (w.alloc (.cells #[.map (some b)] 54)) (by simp) (Box.new w _ _).c1.1 (hD.alloc _) (by omega) fun l hl => hS l hl.1 fun x hx => ((hmem x).1 ((hl.2 x).1 hx)).2)
  obtain ⟨c0, -⟩ := hm.box.c1
  have HB := hide hb0
  have HM := hide hmem
  clear hV hR hD hrd hm hb0 hmem
  go_enter Try.func21, Try.ntmps21
  go_wp2_with fail
  refine K1.out.mono ?_
  rintro e w1 ⟨rfl, rfl⟩
  go_wp2_with fail
  refine S1.out.mono ?_
  rintro e w2 ⟨A, k, c, l, rfl, ho, hk, hs, hb⟩
  have HO := hide (And.intro ho (And.intro hk (And.intro hs hb)))
  clear ho hk hs hb
  go_wp2_with fail
  go_ret
  exact ⟨A, k, c, l, rfl, HO.out.1.mono (by simp), ⟨lt_of_le_nodup HO.out.2.2.1 HO.out.2.1.1, fun x => by rw [HO.out.2.1.2 x]; exact HM.out x⟩, HB.out.trans (HO.out.2.2.2.mono (by simp))⟩
set_option maxHeartbeats 400000 in
theorem copy_nil (w : World) : Calls Try.prog 13 #[.pointer none] w fun e w' => e = .returned (.pointer none) ∧ w = w' := by
  go_enter Try.func13, Try.ntmps13
  go_wp2_with fail
  go_ret
  exact ⟨rfl, rfl⟩
end Go.Proofs.Ythmchmpicncgdaa
