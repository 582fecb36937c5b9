/- Go's slices.Sort, slices.Sorted of runes, as far as a sort of so many elements is known (SortsAt); short rows: by insertion. -/
import Derived.Test.YtchcpeenpijekaaSrtA
import Derived.Test.YtchcpeenpijekaaLen
import Derived.Test.YtchcpeenpijekaaKeysNod
namespace Go.Proofs.Ytchcpeenpijekaa
open Go.RowKit Go.Maps Go.Shelf
set_option linter.unusedVariables false

/-- slices.Sort sorts rows of n runes. -/
def SortR (w : World) (A : Option Addr) (B n c : Nat) (l : List Int) (e : Ending) (w' : World) : Prop := e = .returned (.tuple #[]) ∧ ∃ l', Own w' B A n c l' ∧ l'.Perm l ∧ l'.Pairwise (· ≤ ·) ∧ w.grownBy w' (blk A)
def SortsAt (n : Nat) : Prop := ∀ (A : Option Addr) (B c : Nat) (l : List Int) (w : World), Own w B A n c l → Calls Try.prog 79 #[.slice A n c] w (SortR w A B n c l)

set_option maxHeartbeats 400000 in
theorem insertion_none (w : World) :
    Calls Try.prog 88 #[.slice none 0 0, .int .i64 0, .int .i64 0] w fun e w' => e = .returned (.tuple #[]) ∧ w = w' := by
  go_enter Try.func88, Try.ntmps88
  go_wp2_with fail
  go_loop [6] (fun i => i = .int .i64 1) (fun i => 0)
  case atStart => rfl
  case round =>
    obtain rfl := hrel
    go_wp2_with fail
    go_end0
    exact ⟨rfl, rfl⟩

set_option maxHeartbeats 1000000 in
theorem pdq_small (A : Option Addr) (B n c : Nat) (l : List Int) (k : Int) (w : World) (h : Own w B A n c l) (hn : n ≤ 12) :
    Calls Try.prog 85 #[.slice A n c, .int .i64 0, .int .i64 (n : Int), .int .i64 k] w (SortR w A B n c l) := by
  have HI : Hid (∀ W, W = w → Calls Try.prog 88 #[.slice A n c, .int .i64 0, .int .i64 (n : Int)] W (SortR w A B n c l)) := hide (by
    rintro _ rfl
    rcases h.form with ⟨rfl, rfl, rfl⟩ | ⟨g, rfl, _⟩
    · refine (insertion_none _).mono ?_
      rintro e w' ⟨rfl, rfl⟩
      have hl : l = [] := List.eq_nil_of_length_eq_zero h.len
      subst hl
      exact ⟨rfl, [], h, List.Perm.refl _, List.Pairwise.nil, World.grownBy.refl _ _⟩
    · refine (insertion_any g B n c 0 n l _ h (Nat.zero_le _) (Nat.le_refl _) (by omega)).mono ?_
      rintro e w' ⟨rfl, l', hs, ha⟩
      have hl : l'.length = n := hs.own.len
      exact ⟨rfl, l', hs.own, hs.pm.perm, Asc.pairwise (by rw [hl]; exact ha), hs.grown⟩)
  have hd : decide ((n : Int) ≤ 12) = true := by simp; omega
  have e1 : IntKind.i64.wrap ((n : Int) - 0) = (n : Int) := by rw [IntWalk.i64_in _ (by omega)]; omega
  clear h
  go_enter Try.func85, Try.ntmps85
  go_wp2_with fail
  go_loopw [1, 2] (fun va vb wr => va = .int .i64 0 ∧ vb = .int .i64 (n : Int) ∧ wr = w) (fun _ _ _ => 0)
  case atStart => exact ⟨rfl, rfl, rfl⟩
  case round =>
    obtain ⟨rfl, rfl, rfl⟩ := hrel
    go_wp2_with fail
    refine (HI.out _ rfl).mono ?_
    rintro e w' ⟨rfl, hr⟩
    have HR := hide hr
    clear hr
    go_wp2_with fail
    go_end0
    exact ⟨rfl, HR.out⟩

set_option maxHeartbeats 1000000 in
theorem sort_of_pdq (A : Option Addr) (B n c : Nat) (l : List Int) (w : World) (hn : n ≤ 1000000)
    (hp : ∀ k : Int, Calls Try.prog 85 #[.slice A n c, .int .i64 0, .int .i64 (n : Int), .int .i64 k] w (SortR w A B n c l)) :
    Calls Try.prog 79 #[.slice A n c] w (SortR w A B n c l) := by
  have HP := hide hp
  have HB := hide (bits_Len (n : Int) w (by omega) (by omega))
  have hc : IntKind.u64.wrap (n : Int) = (n : Int) := by simp [IntKind.wrap_u64]; omega
  clear hp
  go_enter Try.func79, Try.ntmps79
  go_wp2_with fail
  refine HB.out.mono ?_
  rintro e w1 ⟨rfl, rfl⟩
  go_wp2_with fail
  refine (HP.out _).mono ?_
  rintro e w2 ⟨rfl, hr⟩
  have HR := hide hr
  clear hr
  go_wp2_with fail
  go_end0
  exact ⟨rfl, HR.out⟩

theorem sorts_small {n : Nat} (hn : n ≤ 12) : SortsAt n := fun A B c l w h => sort_of_pdq A B n c l w (by omega) fun k => pdq_small A B n c l k w h hn


/-- What slices.Sorted hands back of a map's keys. -/
def SortedR (D : DataW Value) (w : World) (e : Ending) (w' : World) : Prop := ∃ A n c l, e = .returned (.slice A n c) ∧ Own w' w.heap.size A n c l ∧ KeysL D l ∧ l.Pairwise (· ≤ ·) ∧ Below w.heap.size w w'
theorem KeysL.perm {D : DataW Value} {l l' : List Int} (h : KeysL D l) (hp : l'.Perm l) : KeysL D l' := ⟨hp.nodup_iff.2 h.1, fun x => by rw [hp.mem_iff]; exact h.2 x⟩

set_option maxHeartbeats 1000000 in
theorem sorted_any (Bm b nn : Nat) (D : DataW Value) (w : World) (hBm : Bm < w.heap.size) (hm : w.cell? ⟨Bm, 0, none⟩ = some (.map (some b))) (hown : w.ownsMap Try.prog 21 anyR b nn D) (hsz : size D ≤ 1000000)
    (hS : ∀ l, KeysL D l → SortsAt l.length) :
    Calls Try.prog 69 #[.func (.func 80) #[] #[.pointer (some ⟨Bm, 0, none⟩)]] w (SortedR D w) := by
  have HC := hide (callsIn_wide.1 (collect_in 4 (Nat.le_refl _) Bm b nn D w hBm hm hown hsz))
  clear hm hown
  go_enter Try.func69, Try.ntmps69
  go_wp2_with fail
  refine HC.out.mono ?_
  rintro e w1 ⟨A, n, c, l, rfl, ho, hk, hb⟩
  have HO := hide ho
  have HK := hide hk
  have HB := hide hb
  have hs := hS l hk
  rw [ho.len] at hs
  have HS := hide hs
  clear ho hk hb hs
  go_wp2_with fail
  refine (HS.out A w.heap.size c l w1 HO.out).mono ?_
  rintro e w2 ⟨rfl, l', ho2, hp2, ha2, hg2⟩
  have HO2 := hide ho2
  have HG2 := hide hg2
  clear ho2 hg2
  go_wp2_with fail
  go_ret
  exact ⟨A, n, c, l', rfl, HO2.out, HK.out.perm hp2, ha2, HB.out.grown HG2.out HB.out.size fun k e => (HO.out.blk_ge k e).1⟩
end Go.Proofs.Ytchcpeenpijekaa
