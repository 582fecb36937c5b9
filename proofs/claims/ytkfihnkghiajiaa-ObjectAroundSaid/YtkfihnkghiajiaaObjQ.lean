/- Contracts of layer 25's functions on quotes: Bounds, both quoted. -/
import Derived.Test.YtkfihnkghiajiaaObjZ
namespace Go.Proofs.Ytkfihnkghiajiaa
open Go.RowKit
set_option linter.unusedVariables false

/-- Where a place's line begins, and where it ends. -/
def lineB (s : List Int) (at_ : Nat) : Nat := at_ - colS (s.take at_)
def lineE (s : List Int) (at_ : Nat) : Nat := at_ + eolS (s.drop at_)
theorem eolS_drop {l : List Int} {k : Nat} (h : k < l.length) : eolS (l.drop k) = if nth l k = 10 then 0 else eolS (l.drop (k + 1)) + 1 := by
  rw [List.drop_eq_getElem_cons h, nth_eq h]
  rfl
theorem eolS_end {l : List Int} {k : Nat} (h : l.length ≤ k) : eolS (l.drop k) = 0 := by
  rw [List.drop_of_length_le h]
  rfl
theorem lineE_le (s : List Int) {at_ : Nat} (h : at_ ≤ s.length) : at_ ≤ lineE s at_ ∧ lineE s at_ ≤ s.length := by
  have := eolS_le (s.drop at_)
  rw [List.length_drop] at this
  unfold lineE
  omega
theorem eolS_split {s : List Int} {b : Nat} : ∀ {n : Nat}, (∀ j, b ≤ j → j < b + n → nth s j ≠ 10) → b + n ≤ s.length → eolS (s.drop b) = n + eolS (s.drop (b + n))
  | 0, _, _ => by simp
  | n + 1, h, hl => by
    rw [eolS_split (n := n) (fun j h1 h2 => h j h1 (by omega)) (by omega), eolS_drop (k := b + n) (by omega), if_neg (h _ (by omega) (by omega))]
    rw [show b + (n + 1) = b + n + 1 by omega]
    omega
/-- What lines.Place and lines.Width tell of a place's line. -/
theorem line_law {s : List Int} {at_ : Nat} (h : at_ ≤ s.length) : lineB s at_ + colS (s.take at_) = at_ ∧ widthS s (cntL (s.take at_) : Int) = (((lineE s at_ : Int) - (lineB s at_ : Int)), 0) ∧ lineB s at_ ≤ lineE s at_ := by
  obtain ⟨b, h1, h2, h3⟩ := place_law s at_ h
  have hb : lineB s at_ = b := by unfold lineB; omega
  have he : eolS (s.drop b) = (at_ - b) + eolS (s.drop at_) := by
    have := eolS_split (s := s) (b := b) (n := at_ - b) (fun j h4 h5 => h3 j h4 (by omega)) (by omega)
    rwa [show b + (at_ - b) = at_ by omega] at this
  refine ⟨by omega, ?_, by unfold lineE; omega⟩
  unfold widthS spanS
  rw [Int.toNat_natCast, h1]
  simp only [widS, he, hb, lineE]
  rw [if_pos (by simp)]
  congr 1
  omega

/-- The quotes: the first one yet, the place, what is left of the line. -/
def quoteL (m : Int) (at_ : Nat) : Option Nat → Nat → List Int → Option (Nat × Nat)
  | _, _, [] => none
  | f, i, x :: l => if x = m then (match f with | none => quoteL m at_ (some i) (i + 1) l | some a => if at_ ≤ i then some (a, i) else quoteL m at_ none (i + 1) l) else quoteL m at_ f (i + 1) l
def quoteS (s : List Int) (at_ : Nat) (m : Int) (around : Bool) : Option (Nat × Nat) :=
  match quoteL m at_ none (lineB s at_) ((s.drop (lineB s at_)).take (lineE s at_ - lineB s at_)) with
  | none => none
  | some p => if around then some (p.1, p.2 + 1) else some (p.1 + 1, p.2)
theorem quoteS_none {s : List Int} {at_ : Nat} {m : Int} {around : Bool} (h : quoteL m at_ none (lineB s at_) ((s.drop (lineB s at_)).take (lineE s at_ - lineB s at_)) = none) : quoteS s at_ m around = none := by
  unfold quoteS
  rw [h]
theorem quoteS_some {s : List Int} {at_ a i : Nat} {m : Int} {around : Bool} (h : quoteL m at_ none (lineB s at_) ((s.drop (lineB s at_)).take (lineE s at_ - lineB s at_)) = some (a, i)) :
    quoteS s at_ m around = if around then some (a, i + 1) else some (a + 1, i) := by
  unfold quoteS
  rw [h]
theorem quote_step {m : Int} {at_ : Nat} {f : Option Nat} {i e : Nat} {s : List Int} (h : i < e) (he : e ≤ s.length) : quoteL m at_ f i ((s.drop i).take (e - i)) =
    if nth s i = m then (match f with | none => quoteL m at_ (some i) (i + 1) ((s.drop (i + 1)).take (e - (i + 1))) | some a => if at_ ≤ i then some (a, i) else quoteL m at_ none (i + 1) ((s.drop (i + 1)).take (e - (i + 1)))) else quoteL m at_ f (i + 1) ((s.drop (i + 1)).take (e - (i + 1))) := by
  rw [List.drop_eq_getElem_cons (by omega), show e - i = (e - (i + 1)) + 1 by omega, List.take_succ_cons, nth_eq (by omega)]
  rfl
theorem quote_end {m : Int} {at_ : Nat} {f : Option Nat} {i e : Nat} {s : List Int} (h : e ≤ i) : quoteL m at_ f i ((s.drop i).take (e - i)) = none := by
  rw [show e - i = 0 by omega, List.take_zero]
  rfl

set_option maxRecDepth 100000 in
set_option maxHeartbeats 2000000 in
theorem bounds_any (S : Option Addr) (k d at_ : Nat) (s : List Int) (w : World) (B E : Nat) (hS : Runes w S k s) (hk : k ≤ 35184372088832) (ha : at_ ≤ k) (hB : B = lineB s at_) (hE : E = lineE s at_) :
    Calls Try.prog 73 #[.slice S k d, .int .i64 at_] w fun e w' => e = .returned (.tuple #[.int .i64 B, .int .i64 E]) ∧ w = w' := by
  have HS := hide hS
  have HL := hide hS.len
  have HB := hide hB
  have HE := hide hE
  clear hS hB hE
  go_enter Try.func73, Try.ntmps73
  go_upto_block 0 with fail
  go_cut [6] (fun f wx => f = .int .i64 B ∧ wx = w)
  case first =>
    go_wp2_with fail
    go_loop [6] (fun f => ∃ a : Nat, a ≤ at_ ∧ f = .int .i64 a ∧ Hid (a - colS (s.take a) = B)) (fun f => (intOf f).toNat)
    case atStart => exact ⟨at_, Nat.le_refl _, rfl, HB.out.symm⟩
    case round =>
      obtain ⟨a, hlea, rfl, hst⟩ := hrel
      rcases Nat.eq_zero_or_pos a with rfl | hpos
      · obtain rfl : B = 0 := hst.out.symm
        go_wp2_with fail
        go_meet
        exact ⟨rfl, rfl⟩
      · obtain ⟨b, rfl⟩ : ∃ b, a = b + 1 := ⟨a - 1, by omega⟩
        have e1 : (((b + 1 : Nat) : Int)) - 1 = (b : Int) := by omega
        obtain ⟨ab', ao', rfl, hc⟩ := HS.out.at_ b (by omega)
        have HBN := hide (show colS (s.take (b + 1)) = if nth s b = 10 then 0 else colS (s.take b) + 1 by rw [take_snoc (by rw [HL.out]; omega), colS_snoc])
        by_cases hs : nth s b = 10
        · have e2 : (nth s b != 10) = false := by simpa using hs
          obtain rfl : B = b + 1 := by
            have h1 := hst.out
            rw [HBN.out, if_pos hs] at h1
            simpa using h1.symm
          clear hs
          go_wp2_with fail
          go_meet
          exact ⟨rfl, rfl⟩
        · have e2 : (nth s b != 10) = true := by simpa using hs
          have HP := hide hs
          clear hs
          go_wp2_with fail
          go_round
          case rel => exact ⟨b, by omega, by go_num, by
            have h1 := hst.out
            rw [HBN.out, if_neg HP.out] at h1
            show b - colS (s.take b) = B
            omega⟩
          case measure => simp [intOf]
  case rest =>
    obtain ⟨rfl, rfl⟩ := hcut
    go_upto_block 2 with fail
    go_cut [7] (fun f wx => f = .int .i64 E ∧ wx = wc)
    case first =>
      go_wp2_with fail
      go_loop [7] (fun f => ∃ a : Nat, a ≤ k ∧ f = .int .i64 a ∧ Hid (a + eolS (s.drop a) = E)) (fun f => k - (intOf f).toNat)
      case atStart => exact ⟨at_, by omega, rfl, HE.out.symm⟩
      case round =>
        obtain ⟨a, hak, rfl, hst⟩ := hrel
        by_cases hlt : a < k
        · obtain ⟨ab', ao', rfl, hc⟩ := HS.out.at_ a hlt
          have h1 : (0 : Int) ≤ (a : Int) := by omega
          have h2 : (a : Int) < (k : Int) := by omega
          have HFW := hide (eolS_drop (l := s) (k := a) (by rw [HL.out]; exact hlt))
          by_cases hs : nth s a = 10
          · have e2 : (nth s a != 10) = false := by simpa using hs
            obtain rfl : E = a := by
              have h1 := hst.out
              rw [HFW.out, if_pos hs] at h1
              exact h1.symm
            clear hs
            go_wp2_with fail
            go_meet
            exact ⟨rfl, rfl⟩
          · have e2 : (nth s a != 10) = true := by simpa using hs
            have HP := hide hs
            clear hs
            go_wp2_with fail
            go_round
            case rel => exact ⟨a + 1, by omega, by go_num, by
              have h1 := hst.out
              rw [HFW.out, if_neg HP.out] at h1
              show a + 1 + eolS (s.drop (a + 1)) = E
              omega⟩
            case measure => simp [intOf]; omega
        · obtain rfl : E = a := by
            have h1 := hst.out
            rw [eolS_end (by rw [HL.out]; omega)] at h1
            omega
          go_wp2_with fail
          go_meet
          exact ⟨rfl, rfl⟩
    case rest =>
      obtain ⟨rfl, rfl⟩ := hcut
      go_wp2_with fail
      go_ret2
      exact ⟨rfl, rfl⟩
end Go.Proofs.Ytkfihnkghiajiaa
