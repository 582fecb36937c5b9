/- Rows of snippets that came in: how they lie in memory; may a row be, may a table be. -/
import Derived.Test.YtkoieceifplphaaSgn
import Derived.Test.YtkoieceifplphaaTextA
namespace Go.Proofs.Ytkoieceifplphaa
open Go.RowKit
set_option linter.unusedVariables false

structure Snp where
  trig : List Int
  body : List Int
structure SNV where
  T : Option Addr
  n : Nat
  c : Nat
  B : Option Addr
  m : Nat
  d : Nat
structure SRd (w : World) (v : SNV) (x : Snp) : Prop where
  trig : Runes w v.T v.n x.trig
  body : Runes w v.B v.m x.body
  cap : v.n ≤ v.c ∧ v.c ≤ 9223372036854775807
  capB : v.m ≤ v.d ∧ v.d ≤ 9223372036854775807
structure Snips (w : World) (A : Option Addr) (n : Nat) (vs : Nat → SNV) (l : List Snp) : Prop where
  len : l.length = n
  at_ : ∀ j, j < n → ∃ b o, A = some ⟨b, o, none⟩ ∧ w.cell? ⟨b, o + j * 2, none⟩ = some (.slice (vs j).T (vs j).n (vs j).c) ∧ w.cell? ⟨b, o + j * 2 + 1, none⟩ = some (.slice (vs j).B (vs j).m (vs j).d)
  rd : ∀ j, j < n → ∃ x, l[j]? = some x ∧ SRd w (vs j) x
section
variable {w w' : World} {A : Option Addr} {n : Nat} {vs : Nat → SNV} {l : List Snp} {v : SNV} {x : Snp}
theorem SRd.below (h : SRd w v x) (hb : Below w.heap.size w w') : SRd w' v x := ⟨h.trig.below hb, h.body.below hb, h.cap, h.capB⟩
theorem Snips.below (h : Snips w A n vs l) (hb : Below w.heap.size w w') : Snips w' A n vs l :=
  ⟨h.len, fun j hj => by
    obtain ⟨b, o, h1, h2, h3⟩ := h.at_ j hj
    exact ⟨b, o, h1, (hb.cell (World.block_lt_of_cell? w _ h2)).trans h2, (hb.cell (World.block_lt_of_cell? w _ h3)).trans h3⟩,
   fun j hj => by
    obtain ⟨x, h1, h2⟩ := h.rd j hj
    exact ⟨x, h1, h2.below hb⟩⟩
theorem Snips.nil (w : World) (A : Option Addr) (vs : Nat → SNV) : Snips w A 0 vs [] := ⟨rfl, fun j h => absurd h (by omega), fun j h => absurd h (by omega)⟩
end
/-- May a row be? May a table? -/
def rowT (x : Snp) : Bool := decide (1 ≤ x.trig.length) && decide (x.trig.length ≤ 20) && mayS x.trig && decide (x.body.length ≤ 600) && mayS x.body
def tabT (l : List Snp) : Bool := decide (l.length ≤ 20) && l.all rowT

theorem below_drewN1 {B : Nat} {a w : World} (h : Below B a w) (n : Nat) : Below B a (w.drewN n) := ⟨h.os, h.tape, h.output, h.size, h.block⟩

set_option maxHeartbeats 2000000 in
theorem arow_any (v : SNV) (x : Snp) (w : World) (h : SRd w v x) :
    Calls Try.prog 46 #[.agg #[.slice v.T v.n v.c, .slice v.B v.m v.d]] w fun e w' => e = .returned (.bool (rowT x)) ∧ Below w.heap.size w w' := by
  have hcap := h.cap
  have hcapB := h.capB
  have hl1 := h.trig.len
  have hl2 := h.body.len
  have hbl : Below w.heap.size w (w.alloc (.cells #[.slice v.T v.n v.c, .slice v.B v.m v.d] 36)) := (Below.refl _ _).alloc (Nat.le_refl _) _
  have HM1 := hide (may_any v.T v.n v.c x.trig _ (h.trig.below hbl) (by omega))
  have HM2 := hide (may_any v.B v.m v.d x.body _ (h.body.below hbl) (by omega))
  have HBL := hide hbl
  obtain ⟨⟨l0, l1⟩, _⟩ := (Box.new w 36 #[.slice v.T v.n v.c, .slice v.B v.m v.d]).c2
  have hr : rowT x = (decide (1 ≤ v.n) && decide (v.n ≤ 20) && mayS x.trig && decide (v.m ≤ 600) && mayS x.body) := by unfold rowT; rw [hl1, hl2]
  rw [hr]
  clear hbl hr hl1 hl2 h
  generalize mayS x.trig = m1 at HM1 ⊢
  generalize mayS x.body = m2 at HM2 ⊢
  go_enter Try.func46, Try.ntmps46
  go_wp2_with (first
    | (go_at_call 68; (with_reducible refine HM1.out.mono ?_); rintro e w1 ⟨rfl, rfl⟩)
    | (go_at_call 68; (with_reducible refine HM2.out.mono ?_); rintro e w1 ⟨rfl, rfl⟩))
  all_goals go_ret
  all_goals refine ⟨retB ?_, HBL.out⟩
  all_goals simp [*]
  all_goals (intros; first | omega | (exfalso; omega))

set_option maxHeartbeats 1000000 in
theorem snipBad_any (v : SNV) (x : Snp) (w : World) (h : SRd w v x) :
    Calls Try.prog 45 #[.agg #[.slice v.T v.n v.c, .slice v.B v.m v.d]] w fun e w' => e = .returned (.bool (!rowT x)) ∧ Below w.heap.size w w' := by
  have hbl : Below w.heap.size w (w.alloc (.cells #[.slice v.T v.n v.c, .slice v.B v.m v.d] 36)) := (Below.refl _ _).alloc (Nat.le_refl _) _
  have HBL := hide hbl
  have HR := hide (h.below hbl)
  obtain ⟨⟨l0, l1⟩, _⟩ := (Box.new w 36 #[.slice v.T v.n v.c, .slice v.B v.m v.d]).c2
  clear hbl h
  go_enter Try.func45, Try.ntmps45
  go_wp2_with fail
  refine (arow_any v x _ HR.out).mono ?_
  rintro e w1 ⟨rfl, hb1⟩
  go_wp2_with fail
  go_ret
  exact ⟨rfl, HBL.out.trans (hb1.mono HBL.out.size)⟩

/-- The first row that a test takes; as many as there are, else. -/
def idxT (p : Snp → Bool) (l : List Snp) : Int :=
  match l.findIdx? p with
  | some i => (i : Int)
  | none => -1
theorem idxT_none {p : Snp → Bool} {l : List Snp} (h : ∀ (j : Nat) (x : Snp), l[j]? = some x → p x = false) : idxT p l = -1 := by
  unfold idxT
  rw [List.findIdx?_eq_none_iff.2]
  intro x hx
  obtain ⟨j, hj⟩ := List.mem_iff_getElem?.1 hx
  exact h j x hj
theorem idxT_some {p : Snp → Bool} {l : List Snp} {k : Nat} {x : Snp} (hx : l[k]? = some x) (hp : p x = true) (h : ∀ (j : Nat) (y : Snp), j < k → l[j]? = some y → p y = false) : idxT p l = (k : Int) := by
  unfold idxT
  obtain ⟨hk, rfl⟩ := List.getElem?_eq_some_iff.1 hx
  rw [List.findIdx?_eq_some_iff_getElem.2 ⟨hk, hp, fun j hj => by
    have := h j _ hj (List.getElem?_eq_getElem (by omega))
    simp [this]⟩]
theorem idxT_ge (p : Snp → Bool) (l : List Snp) : decide (0 ≤ idxT p l) = l.any p := by
  unfold idxT
  cases hf : l.findIdx? p with
  | none =>
    have : l.any p = false := by
      rw [List.findIdx?_eq_none_iff] at hf
      rw [List.any_eq_false]
      intro x hx
      simp [hf x hx]
    rw [this]
    rfl
  | some i =>
    have : l.any p = true := by
      rw [List.findIdx?_eq_some_iff_getElem] at hf
      obtain ⟨h1, h2, _⟩ := hf
      rw [List.any_eq_true]
      exact ⟨_, List.getElem_mem h1, h2⟩
    rw [this]
    simp
theorem snipBad_all (l : List Snp) : (!l.any fun x => !rowT x) = l.all rowT := by
  induction l with
  | nil => rfl
  | cons x l ih => simp only [List.any_cons, List.all_cons, ← ih, Bool.not_or, Bool.not_not]

set_option maxRecDepth 100000 in
set_option maxHeartbeats 2000000 in
theorem indexBad_any (A : Option Addr) (n c : Nat) (us : Nat → SNV) (l : List Snp) (w : World) (h : Snips w A n us l) (hn : n ≤ 9223372036854775807) :
    Calls Try.prog 49 #[.slice A n c, .func (.func 45) #[] #[]] w fun e w' => e = .returned (.int .i64 (idxT (fun x => !rowT x) l)) ∧ Below w.heap.size w w' := by
  have H := hide h
  have HL := hide h.len
  have eg := Try.call45
  clear h
  go_enter Try.func49, Try.ntmps49
  go_wp2_with fail
  go_loopw [5, 8] (fun _ i wx => ∃ k : Nat, k ≤ n ∧ i = .int .i64 k ∧ Below w.heap.size w wx ∧ Hid (∀ (j : Nat) (x : Snp), j < k → l[j]? = some x → (!rowT x) = false)) (fun _ i _ => n - (intOf i).toNat)
  case atStart => exact ⟨0, Nat.zero_le _, rfl, Below.refl _ _, fun j x hj => absurd hj (by omega)⟩
  case round =>
    obtain ⟨k, hk, rfl, hbel, hj⟩ := hrel
    have HW := hide hbel
    have H1 := hide (H.out.below hbel)
    clear hbel
    by_cases hlt : k < n
    · obtain ⟨ab, ao, rfl, c0, c1⟩ := H1.out.at_ k hlt
      obtain ⟨x, hx, hr⟩ := H1.out.rd k hlt
      have HX := hide hx
      have HR := hide hr
      clear hx hr
      cases hs : (!rowT x)
      · have HS := hide hs
        go_wp2_with fail
        refine (snipBad_any (us k) x _ HR.out).mono ?_
        rw [HS.out]
        rintro e w1 ⟨rfl, hb1⟩
        have HB1 := hide (HW.out.trans (hb1.mono HW.out.size))
        clear hb1 c0 c1
        go_wp2
        go_round
        case rel => exact ⟨k + 1, by omega, by go_num, HB1.out, fun j y h' hy => (by
          rcases Nat.lt_succ_iff_lt_or_eq.1 h' with h1 | h1
          · exact hj.out j y h1 hy
          · subst h1
            rw [HX.out] at hy
            rw [← Option.some.inj hy]; exact HS.out)⟩
        case measure => simp [intOf]; omega
      · have HS := hide hs
        go_wp2_with fail
        refine (snipBad_any (us k) x _ HR.out).mono ?_
        rw [HS.out]
        rintro e w1 ⟨rfl, hb1⟩
        have HB1 := hide (HW.out.trans (hb1.mono HW.out.size))
        clear hb1 c0 c1
        go_wp2
        go_ret
        exact ⟨retI (idxT_some HX.out HS.out fun j y hj' hy => hj.out j y hj' hy).symm, HB1.out⟩
    · have hk' : k = n := by omega
      go_wp2_with fail
      go_ret
      exact ⟨retI (idxT_none fun j y hy => hj.out j y (by have := (List.getElem?_eq_some_iff.1 hy).1; rw [HL.out] at this; omega) hy).symm, HW.out⟩

set_option maxHeartbeats 1000000 in
theorem containsBad_any (A : Option Addr) (n c : Nat) (us : Nat → SNV) (l : List Snp) (w : World) (h : Snips w A n us l) (hn : n ≤ 9223372036854775807) :
    Calls Try.prog 44 #[.slice A n c, .func (.func 45) #[] #[]] w fun e w' => e = .returned (.bool (l.any fun x => !rowT x)) ∧ Below w.heap.size w w' := by
  have H := hide h
  have HI := hide (idxT_ge (fun x => !rowT x) l)
  clear h
  go_enter Try.func44, Try.ntmps44
  go_wp2_with fail
  refine (indexBad_any A n c us l w H.out hn).mono ?_
  generalize idxT (fun x => !rowT x) l = i at HI
  rintro e w' ⟨rfl, hb⟩
  have HB := hide hb
  go_wp2
  all_goals go_ret
  all_goals first | exact ⟨retB HI.out, HB.out⟩ | exact ⟨retB (by rw [← HI.out]; simp; omega), HB.out⟩

set_option maxHeartbeats 2000000 in
theorem amay_any (A : Option Addr) (n c : Nat) (us : Nat → SNV) (l : List Snp) (w : World) (h : Snips w A n us l) (hn : n ≤ 9223372036854775807) :
    Calls Try.prog 18 #[.slice A n c] w fun e w' => e = .returned (.bool (tabT l)) ∧ Below w.heap.size w w' := by
  have H := hide h
  have hr : tabT l = (decide (n ≤ 20) && l.all rowT) := by unfold tabT; rw [h.len]
  rw [hr]
  clear h hr
  go_enter Try.func18, Try.ntmps18
  by_cases h20 : n ≤ 20
  · have d1 : (n : Int) ≤ 20 := by omega
    go_wp2_with fail
    refine (containsBad_any A n c us l w H.out hn).mono ?_
    rintro e w' ⟨rfl, hb⟩
    have HB := hide hb
    go_wp2_with fail
    go_ret
    exact ⟨retB (by rw [snipBad_all]; simp [h20]), HB.out⟩
  · have d1 : ¬ (n : Int) ≤ 20 := by omega
    go_wp2_with fail
    go_ret
    exact ⟨retB (by simp [h20]), Below.refl _ _⟩
end Go.Proofs.Ytkoieceifplphaa
