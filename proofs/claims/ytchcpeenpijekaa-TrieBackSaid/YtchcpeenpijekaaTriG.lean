/- What With hands to the walk: one more item. -/
import Derived.Test.YtchcpeenpijekaaTriF
namespace Go.Proofs.Ytchcpeenpijekaa
open Go.RowKit Go.Maps Go.MapKept Go.ChangeMaps Go.Shelf
set_option linter.unusedVariables false

theorem keys_le {D : DataW Value} {l : List Int} (h : KeysL D l) : l.length ≤ size D := by
  cases D with
  | map es =>
    have := nodup_sub (k := es.map fun p => match p.1 with | .int _ x => x | _ => 0) h.1 fun x hx => by
      obtain ⟨p, hp, hs⟩ := List.any_eq_true.1 ((h.2 x).1 hx).2
      exact List.mem_map.2 ⟨p, hp, by rw [WideAt.sameKey_eq hs]⟩
    rw [List.length_map] at this
    exact this
  | _ =>
    cases l with
    | nil => exact Nat.zero_le _
    | cons a l =>
      have := ((h.2 a).1 List.mem_cons_self).2
      simp [has] at this

/-- What one more item leaves. -/
def MoreR (w : World) (B bo : Nat) (Ao : Option Addr) (no : Nat) (us : List IV) (l : List Int) (k : Nat) (e : Ending) (w' : World) : Prop :=
  e = .returned (.tuple #[]) ∧ ∃ Ao' co' u, u.t = l ∧ u.k = k ∧ Box w' bo 26 #[.slice Ao' (no + 1) co'] ∧ ItemsO w' B Ao' (no + 1) co' (us ++ [u]) ∧ (∀ g, blk u.A = some g → w.heap.size ≤ g) ∧
    KeepS (fun g => g = bo ∨ blk Ao = some g) w w' ∧ ∀ g, blk Ao' = some g → blk Ao = some g ∨ w.heap.size ≤ g

theorem KeepS.grownO {S : Nat → Prop} {w w1 w2 : World} (h : KeepS S w w1) {row : Option Nat} (hg : ∀ g, row = some g → S g ∨ w.heap.size ≤ g) (h2 : w1.grownBy w2 row) : KeepS S w w2 :=
  ⟨h2.os.trans h.os, h2.tape.trans h.tape, h2.output.trans h.output, Nat.le_trans h.size h2.size, fun i hi hn => (h2.block i (Nat.lt_of_lt_of_le hi h.size) fun e => by
    rcases hg i e.symm with hg | hg
    · exact hn hg
    · omega).trans (h.block i hi hn)⟩
theorem own_ne_row {w : World} {B B' n c m d : Nat} {A C : Option Addr} {l : List Int} {vs : List (List Value)} {et : TypeId} {sz : Nat} (h : Own w B A n c l) (k : RowG w et sz B' C m d vs) (ht : et ≠ 21) : blk A = none ∨ blk A ≠ blk C := by
  cases hA : blk A with
  | none => exact .inl rfl
  | some g =>
    refine .inr fun e => ?_
    obtain ⟨c1, h1⟩ := h.obj hA
    obtain ⟨c2, h2⟩ := k.obj e.symm
    rw [h1] at h2
    injection h2 with h2
    injection h2 with _ h2
    exact ht h2.symm
theorem own_ne_box {w : World} {B n c g : Nat} {A : Option Addr} {l : List Int} {t : TypeId} {cs : Array Value} (h : Own w B A n c l) (k : Box w g t cs) (ht : t ≠ 21) : blk A ≠ some g := fun e => by
  obtain ⟨c1, h1⟩ := h.obj e
  unfold Box at k
  rw [h1] at k
  injection k with k
  injection k with _ k
  exact ht k.symm
theorem row_ne_box {w : World} {et : TypeId} {sz B n c g : Nat} {A : Option Addr} {vs : List (List Value)} {t : TypeId} {cs : Array Value} (h : RowG w et sz B A n c vs) (k : Box w g t cs) (ht : t ≠ et) : blk A ≠ some g := fun e => by
  obtain ⟨c1, h1⟩ := h.obj e
  unfold Box at k
  rw [h1] at k
  injection k with k
  injection k with _ k
  exact ht k.symm
theorem more_end {w w1 w2 : World} {B bo : Nat} {Ao : Option Addr} {no co : Nat} {us : List IV} {l : List Int} {k n1 c1 g2 c2 : Nat} {A1 : Option Addr} (hB : B ≤ w.heap.size) (hbo : Box w bo 26 #[.slice Ao no co]) (hit : ItemsO w B Ao no co us)
    (hb1 : Below w.heap.size w w1) (ho1 : Own w1 w.heap.size A1 n1 c1 l) (hrow : RowG w2 49 2 B (some ⟨g2, 0, none⟩) (no + 1) c2 (us.map IV.cells ++ [IV.cells ⟨A1, n1, c1, k, l⟩])) {ob : Obj} (hg2 : (w1.alloc ob).grownBy w2 (blk Ao))
    (hor : blk Ao = some g2 ∨ g2 = (w1.alloc ob).heap.size) : MoreR w B bo Ao no us l k (.returned (.tuple #[])) (w2.setCell ⟨bo, 0, none⟩ (.slice (some ⟨g2, 0, none⟩) (no + 1) c2)) := by
  have hne := row_ne_box hit.row hbo (by decide)
  have hba : Below w.heap.size w (w1.alloc ob) := hb1.alloc hb1.size ob
  have hit1 := hit.below hba
  have hbo2 := (hbo.below hba).grown hg2 (fun e => hne e.symm)
  have hg2b : blk (some (⟨g2, 0, none⟩ : Addr)) ≠ some bo := row_ne_box hrow hbo2 (by decide)
  have hk : ∀ v ∈ us, Own (w2.setCell ⟨bo, 0, none⟩ (.slice (some ⟨g2, 0, none⟩) (no + 1) c2)) B v.A v.n v.c v.t := fun v hv => by
    have h1 := (hit1.own v hv).kept hg2 (own_ne_row (hit1.own v hv) hit1.row (by decide))
    exact h1.far (p := ⟨bo, 0, none⟩) (own_ne_box h1 hbo2 (by decide)) _
  have hu : Own (w2.setCell ⟨bo, 0, none⟩ (.slice (some ⟨g2, 0, none⟩) (no + 1) c2)) w.heap.size A1 n1 c1 l := by
    have h0 := ho1.alloc ob
    have h1 := h0.kept hg2 (own_ne_row h0 hit1.row (by decide))
    exact h1.far (p := ⟨bo, 0, none⟩) (own_ne_box h1 hbo2 (by decide)) _
  refine ⟨rfl, some ⟨g2, 0, none⟩, c2, ⟨A1, n1, c1, k, l⟩, rfl, rfl, hbo2.set 0 _, ⟨?_, fun v hv => ?_, List.pairwise_append.2 ⟨hit.ap, List.pairwise_singleton _ _, fun v hv u hu => ?_⟩⟩, fun g hg => (ho1.blk_ge g hg).1, ?_, fun g hg => ?_⟩
  · rw [List.map_append]
    exact hrow.far (p := ⟨bo, 0, none⟩) hg2b _
  · rcases List.mem_append.1 hv with hv | hv
    · exact hk v hv
    · rw [List.mem_singleton.1 hv]
      exact hu.mono hB
  · rw [List.mem_singleton.1 hu]
    exact apart_of (fun g hg => ((hit.own v hv).blk_ge g hg).2) fun g hg => (ho1.blk_ge g hg).1
  · exact ((KeepS.of_below hba).grownO (fun g hg => .inl (.inr hg)) hg2).set (a := ⟨bo, 0, none⟩) (.inl (.inl rfl)) _
  · injection hg with hg
    have hg : g2 = g := hg
    subst hg
    rcases hor with h | h
    · exact .inl h
    · have := hba.size
      exact .inr (by omega)

set_option maxRecDepth 100000 in
set_option maxHeartbeats 2000000 in
theorem more_any (w : World) (B bo : Nat) (Ao : Option Addr) (no co : Nat) (us : List IV) (A : Option Addr) (n c : Nat) (l : List Int) (k : Nat) (hB : B ≤ w.heap.size) (hbo : Box w bo 26 #[.slice Ao no co]) (hit : ItemsO w B Ao no co us) (hA : Runes w A n l) (hn : n ≤ 1000000) (hno : no ≤ 1000000) :
    Calls Try.prog 51 #[.slice A n c, .int .i64 (k : Nat), .pointer (some ⟨bo, 0, none⟩)] w (MoreR w B bo Ao no us l k) := by
  have HC := hide (fun W hb => clone_any A n c l W (hA.below hb) (by omega))
  obtain ⟨c0, c0f⟩ := hbo.c1
  have HBO := hide hbo
  have HIT := hide hit
  have hne : blk Ao ≠ some bo := fun e => by
    obtain ⟨cur, hcur⟩ := hit.row.obj e
    unfold Box at hbo
    rw [hcur] at hbo
    injection hbo with hbo
    injection hbo with _ h2
    exact absurd h2 (by decide)
  have HNE := hide hne
  have HBS := hide hB
  clear hA hbo hit hne hB
  go_enter Try.func51, Try.ntmps51
  go_region_law (first
    | (refine step_appG itemT (by rfl) (.tmp 5) (.tmp 10) (by rfl) B (by rfl) (HIT1.out.row.alloc _) (m := 1) (d := 1) (by rfl) (us := [IV.cells ⟨A1, n1, c1, k, l⟩]) (news_box (cs := (IV.cells ⟨A1, n1, c1, k, l⟩).toArray) (Box.new _ _ _)) (Each.one (IV.one _).1 (IV.one _).2) rfl (by omega) (by omega) (by omega) (by have := HBS.out; have := HB1.out.size; simp; omega) ?_
       intro g2 c2 w2 hrow2 hg2 hb2 hor
       have hbo2 := (HBO1.out.alloc (.cells (IV.cells ⟨A1, n1, c1, k, l⟩).toArray 49)).grown hg2 (fun e => HNE.out e.symm)
       obtain ⟨e0, e0f⟩ := hbo2.c1)
    | (go_simp; go_at_call 50; (with_reducible refine (HC.out _ (Below.refl _ _).drew).mono ?_); rintro e w1 ⟨A1, n1, c1, rfl, ho1, hb1⟩
       have HB1 := hide ((Below.refl w.heap.size w).drew.trans hb1)
       have HO1 := hide ho1
       have HBO1 := hide (HBO.out.below HB1.out)
       have HIT1 := hide (HIT.out.below HB1.out)
       clear ho1 hb1
       obtain ⟨d0, d0f⟩ := HBO1.out.c1
       have d1 : ∀ o, (w1.alloc o).cell? ⟨bo, 0, none⟩ = some (.slice Ao no co) := fun o => (HBO1.out.alloc o).c1.1))
  all_goals go_end0
  all_goals exact more_end HBS.out HBO.out HIT.out HB1.out HO1.out hrow2 hg2 hor
end Go.Proofs.Ytchcpeenpijekaa
