/- Contracts of functions that make texts: Join, Clean. -/
import Derived.Test.YthmchmpicncgdaaTextA
namespace Go.Proofs.Ythmchmpicncgdaa
open Go.RowKit
set_option linter.unusedVariables false

set_option maxHeartbeats 400000 in
theorem join_any (A B : Option Addr) (n c m d : Nat) (a b : List Int) (w : World) (ha : Runes w A n a) (hb : Runes w B m b) (hn : n + m ≤ 35184372088832) :
    Calls Try.prog 19 #[.slice A n c, .slice B m d] w (NewR w (a ++ b)) := by
  go_enter Try.func19, Try.ntmps19
  go_wp2_with (first
    | (at_builtin
       refine wpList_app0 rfl (.const (.slice none 0 0)) (.tmp 5) rfl w.heap.size rfl rfl ha (by omega) (Nat.le_refl _) ?_
       intro A1 c1 w1 hown1 hb1 _ _)
    | (at_builtin
       refine wpList_app rfl (.tmp 6) (.tmp 7) rfl w.heap.size rfl hown1 rfl (hb.below hb1) (by omega) hb1.size ?_
       intro A2 c2 w2 hown2 hg2 hb2 _ _))
  go_ret
  exact ⟨A2, _, c2, rfl, hown2, hb1.trans hb2⟩

/-- Clean: signs in the place of what is none. -/
def cleanS (l : List Int) : List Int := l.map fun r => if isS r then r else 110
theorem cleanS_len (l : List Int) : (cleanS l).length = l.length := by simp [cleanS]
theorem cleanS_may (l : List Int) : mayS (cleanS l) = true := by
  unfold mayS cleanS
  rw [List.all_eq_true]
  intro x hx
  obtain ⟨y, _, rfl⟩ := List.mem_map.1 hx
  by_cases h : isS y = true
  · simp [h]
  · simp [h]; decide
theorem cleanS_of {l r : List Int} (hl : l.length = r.length) (h : ∀ j, j < l.length → nth r j = if isS (nth l j) then nth l j else 110) : r = cleanS l := by
  refine ext_nth (by rw [cleanS_len, hl]) fun j hj => ?_
  rw [h j (by omega), nth_eq (l := cleanS l) (by rw [cleanS_len]; omega), nth_eq (l := l) (by omega)]
  simp [cleanS]

set_option maxHeartbeats 400000 in
theorem clean_any (A : Option Addr) (n c : Nat) (a : List Int) (w : World) (ha : Runes w A n a) (hn : n ≤ 35184372088832) :
    Calls Try.prog 15 #[.slice A n c] w (NewR w (cleanS a)) := by
  have HL := hide ha.len
  go_enter Try.func15, Try.ntmps15
  go_wp2_with (first
    | (at_builtin
       refine wpList_app0 rfl (.const (.slice none 0 0)) (.tmp 5) rfl w.heap.size rfl rfl ha (by omega) (Nat.le_refl _) ?_
       intro A1 c1 w1 hown1 hb1 _ hsome))
  have HO := hide hown1
  have HB := hide hb1
  clear hown1 hb1
  go_loopw [4] (fun i wr => ∃ (k : Nat) (l : List Int), k ≤ n ∧ i = .int .i64 k ∧ Own wr w.heap.size A1 n c1 l ∧ Below w.heap.size w wr ∧ Hid (∀ j, (j < k → nth l j = if isS (nth a j) then nth a j else 110) ∧ (k ≤ j → nth l j = nth a j))) (fun i _ => n - (intOf i).toNat)
  case atStart => exact ⟨0, a, Nat.zero_le _, rfl, HO.out, HB.out, fun j => ⟨fun h => absurd h (by omega), fun _ => rfl⟩⟩
  case round =>
    obtain ⟨k, l, hk, rfl, hown, hbel, hj⟩ := hrel
    have HOW := hide hown
    have HBE := hide hbel
    clear hown hbel
    by_cases hlt : k < n
    · obtain ⟨g, rfl⟩ := hsome (by omega)
      have hc := HOW.out.cell hlt
      have hf := HOW.out.frozen k
      have hg := (HOW.out.blk_ge g rfl).1
      have hsame : nth l k = nth a k := (hj.out k).2 (Nat.le_refl _)
      rw [hsame] at hc
      clear hsame
      cases hs : isS (nth a k)
      · have HS := hide hs
        go_wp2_with (go_at_call 23; refine (sign_any _ _).mono ?_; rintro e w' ⟨rfl, rfl⟩)
        go_roundw
        case rel => exact ⟨k + 1, l.set k 110, by omega, by go_num, HOW.out.set hlt (by omega), HBE.out.setCell hg _, fun j => (by
          have hll := HOW.out.len
          have := hj.out j
          by_cases hkj : k = j
          · subst hkj
            rw [nth_set_self (by omega)]
            exact ⟨fun _ => by rw [HS.out]; rfl, fun h => absurd h (by omega)⟩
          · rw [nth_set_other hkj]
            exact ⟨fun h => this.1 (by omega), fun h => this.2 (by omega)⟩)⟩
        case measure => simp [intOf]; omega
      · have HS := hide hs
        go_wp2_with (go_at_call 23; refine (sign_any _ _).mono ?_; rintro e w' ⟨rfl, rfl⟩)
        go_roundw
        case rel => exact ⟨k + 1, l, by omega, by go_num, HOW.out, HBE.out, fun j => (by
          have := hj.out j
          by_cases hkj : k = j
          · subst hkj
            exact ⟨fun _ => by rw [HS.out, if_pos rfl]; exact this.2 (Nat.le_refl _), fun h => absurd h (by omega)⟩
          · exact ⟨fun h => this.1 (by omega), fun h => this.2 (by omega)⟩)⟩
        case measure => simp [intOf]; omega
    · go_wp2
      go_ret
      refine ⟨A1, n, c1, rfl, ?_, HBE.out⟩
      rw [← cleanS_of (l := a) (r := l) (by rw [HL.out, HOW.out.len]) (fun j h => (hj.out j).1 (by have := HL.out; omega))]
      exact HOW.out

end Go.Proofs.Ythmchmpicncgdaa
