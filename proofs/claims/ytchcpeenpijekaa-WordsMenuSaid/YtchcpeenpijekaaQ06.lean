/- Pieces, joined: WrdS. -/
import Derived.Test.YtchcpeenpijekaaQ04
import Derived.Test.YtchcpeenpijekaaQ05

/- The contracts of Spans and Touched, the program's and the reference's. -/
namespace Go.Proofs.Ytchcpeenpijekaa
open Go.RowKit
set_option linter.unusedVariables false

theorem spanT : RowT 58 61 2 16 := ⟨Try.underlying58, ⟨.agg #[.int .i64 0, .int .i64 0], by kernel_rfl, by kernel_rfl⟩, by omega⟩
def spc (p : Nat × Nat) : List Value := [.int .i64 (p.1 : Nat), .int .i64 (p.2 : Nat)]
/-- A row of spans of the call's own. -/
abbrev SpO (w : World) (B : Nat) (A : Option Addr) (n c : Nat) (L : List (Nat × Nat)) : Prop := RowG w 61 2 B A n c (L.map spc)
section
variable {w : World} {B n c : Nat} {A : Option Addr} {L : List (Nat × Nat)}
theorem SpO.len (h : SpO w B A n c L) : L.length = n := by have := h.cnt; simpa using this
theorem SpO.at_ (h : SpO w B A n c L) {j : Nat} {p : Nat × Nat} (hp : L[j]? = some p) : ∃ g, A = some ⟨g, 0, none⟩ ∧ w.cell? ⟨g, j * 2, none⟩ = some (.int .i64 (p.1 : Nat)) ∧ w.cell? ⟨g, j * 2 + 1, none⟩ = some (.int .i64 (p.2 : Nat)) := by
  have hv : (L.map spc)[j]? = some (spc p) := by rw [List.getElem?_map, hp]; rfl
  obtain ⟨g, e, h1, _⟩ := h.cell (i := 0) hv (by omega) rfl
  obtain ⟨g2, e2, h2, _⟩ := h.cell (i := 1) hv (by omega) rfl
  rw [e] at e2
  injection e2 with e2
  injection e2 with e2
  subst e2
  rw [Nat.add_zero] at h1
  exact ⟨g, e, h1, h2⟩
theorem SpO.one (p : Nat × Nat) : Each 2 [spc p] := Each.one rfl fun u hu => by
  unfold spc at hu
  simp at hu
  rcases hu with rfl | rfl <;> rfl
end

def SpansQ (s : List Int) (w : World) (e : Ending) (w' : World) : Prop := ∃ A n c, e = .returned (.slice A n c) ∧ SpO w' w.heap.size A n c (spansS s) ∧ Below w.heap.size w w'
set_option maxRecDepth 100000 in
set_option maxHeartbeats 2000000 in
theorem spans_any (S : Option Addr) (n c : Nat) (s : List Int) (w : World) (h : Runes w S n s) (hn : n ≤ 1000000) :
    Calls Try.prog 34 #[.slice S n c] w (SpansQ s w) := by
  have HS := hide h
  have HL := hide h.len
  clear h
  go_enter Try.func34, Try.ntmps34
  go_wp2_with fail
  go_loopw [3, 4] (fun s3 s4 wr => ∃ (a m d : Nat) (A : Option Addr) (L : List (Nat × Nat)), a ≤ n + 1 ∧ m ≤ a ∧ s4 = .int .i64 a ∧ s3 = .slice A m d ∧ Hid (SpO wr w.heap.size A m d L) ∧ Hid (spansS s = L ++ spG a none (s.drop a)) ∧ Hid (Below w.heap.size w wr)) (fun _ s4 _ => n + 1 - (intOf s4).toNat)
  case atStart => exact ⟨0, 0, 0, none, [], Nat.zero_le _, Nat.zero_le _, rfl, rfl, RowG.nil _ _ _ _, by rw [List.drop_zero]; rfl, Below.refl _ _⟩
  case round =>
    obtain ⟨a, m, d, A, L, ha, hm, rfl, rfl, HO, HE, HB⟩ := hrel
    by_cases hlt : a < n
    · have a0 : (0 : Int) ≤ (a : Int) := by omega
      have a1 : (a : Int) < (n : Int) := by omega
      have HR := hide (HS.out.below HB.out)
      go_wp2_with fail
      go_loop [4] (fun s4 => ∃ k : Nat, a ≤ k ∧ k ≤ n ∧ s4 = .int .i64 k ∧ Hid (spansS s = L ++ spG k (curW a k) (s.drop k))) (fun s4 => n - (intOf s4).toNat)
      case atStart => exact ⟨a, Nat.le_refl _, by omega, rfl, by rw [cur_self]; exact HE.out⟩
      case round =>
        obtain ⟨k, hak, hk, rfl, HK⟩ := hrel
        by_cases hgo : k < n ∧ wrdS (nth s k) = true
        · obtain ⟨hkn, hw⟩ := hgo
          obtain ⟨b, o, hS, hc⟩ := HR.out.at_ k hkn
          have k0 : (0 : Int) ≤ (k : Int) := by omega
          have k1 : (k : Int) < (n : Int) := by omega
          subst hS
          have HN := hide (show spansS s = L ++ spG (k + 1) (curW a (k + 1)) (s.drop (k + 1)) from by
            rw [HK.out, spG_on (by rw [HL.out]; exact hkn) hak hw])
          have hof := of_any (nth s k) wr
          rw [hw] at hof
          have HOF := hide hof
          clear hw HK hof
          go_wp2_with (go_at_call 54; (with_reducible refine HOF.out.mono ?_); rintro e w5 ⟨rfl, rfl⟩)
          go_round
          case rel => exact ⟨k + 1, by omega, by omega, by go_num, HN.out⟩
          case measure => simp [intOf]; omega
        · have hend : s.length ≤ k ∨ wrdS (nth s k) = false := by
            by_cases e : k < n
            · refine .inr ?_
              cases hw : wrdS (nth s k)
              · rfl
              · exact absurd ⟨e, hw⟩ hgo
            · exact .inl (by rw [HL.out]; omega)
          have HN := hide (show spansS s = (L ++ (if a < k then [(a, k)] else [])) ++ spG (k + 1) none (s.drop (k + 1)) from by
            rw [HK.out, spG_end hak hend, List.append_assoc])
          clear HK hgo
          have hway : (¬ k < n) ∨ (k < n ∧ ∃ (b o : Nat) (r : Int), S = some ⟨b, o, none⟩ ∧ wr.cell? ⟨b, o + k, none⟩ = some (.int .i32 r) ∧ Hid (Calls Try.prog 54 #[.int .i32 r] wr fun e w' => e = .returned (.bool false) ∧ wr = w')) := by
            by_cases e : k < n
            · obtain ⟨b, o, hS, hc⟩ := HR.out.at_ k e
              refine .inr ⟨e, b, o, nth s k, hS, hc, ?_⟩
              have h := of_any (nth s k) wr
              rcases hend with h1 | h1
              · rw [HL.out] at h1; omega
              · rw [h1] at h; exact h
            · exact .inl e
          clear hend
          have k0 : (0 : Int) ≤ (k : Int) := by omega
          rcases hway with hkn | ⟨hkn, b, o, r, rfl, hc, HOF⟩
          case' inr => have k1 : (k : Int) < (n : Int) := by omega
          all_goals
            by_cases hlt2 : a < k
            · have e2 : (a : Int) < (k : Int) := by omega
              have HN2 := hide (show spansS s = (L ++ [(a, k)]) ++ spG (k + 1) none (s.drop (k + 1)) from by have h := HN.out; rw [if_pos hlt2] at h; exact h)
              clear HN
              go_wp2_with (first
                | (go_at_call 54; (with_reducible refine HOF.out.mono ?_); rintro e w5 ⟨rfl, rfl⟩)
                | (at_builtin; refine wpList_appG spanT rfl (.tmp 29) (.tmp 33) rfl w.heap.size rfl (RowG.alloc HO.out _) (m := 1) (d := 1) rfl (us := [spc (a, k)]) (news_box (cs := (spc (a, k)).toArray) (Box.new _ _ _)) (SpO.one _) rfl (by omega) (by omega) (by omega) (by have := HB.out.size; simp; omega) ?_; intro g' c' w6 hr6 hg6 hb6 hor6))
              have HO6 := hide (show SpO w6 w.heap.size (some ⟨g', 0, none⟩) (m + 1) c' (L ++ [(a, k)]) from by rw [SpO, List.map_append]; exact hr6)
              have HB6 := hide (show Below w.heap.size w w6 from (HB.out.alloc HB.out.size _).trans hb6)
              clear hr6 hg6 hb6 hor6
              go_roundw
              case rel => exact ⟨k + 1, m + 1, c', some ⟨g', 0, none⟩, L ++ [(a, k)], by omega, by omega, by go_num, rfl, HO6.out, HN2.out, HB6.out⟩
              case measure => simp [intOf]; omega
            · first
              | (exfalso; omega)
              | (obtain rfl : a = k := by omega
                 have HN2 := hide (show spansS s = L ++ spG (a + 1) none (s.drop (a + 1)) from by have h := HN.out; rw [if_neg hlt2, List.append_nil] at h; exact h)
                 clear HN
                 go_wp2_with (go_at_call 54; (with_reducible refine HOF.out.mono ?_); rintro e w5 ⟨rfl, rfl⟩)
                 go_roundw
                 case rel => exact ⟨a + 1, m, d, A, L, by omega, by omega, by go_num, rfl, HO.out, HN2.out, HB.out⟩
                 case measure => simp [intOf]; omega)
    · have HF := hide (show SpansQ s w (.returned (.slice A m d)) wr from ⟨A, m, d, rfl, by
        have h1 := HE.out
        rw [List.drop_eq_nil_of_le (by rw [HL.out]; omega)] at h1
        have h2 : spG a none ([] : List Int) = [] := rfl
        rw [h2, List.append_nil] at h1
        rw [h1]
        exact HO.out, HB.out⟩)
      go_wp2_with fail
      go_ret
      exact HF.out

set_option maxRecDepth 100000 in
set_option maxHeartbeats 2000000 in
theorem rspans_any (S : Option Addr) (n c : Nat) (s : List Int) (w : World) (h : Runes w S n s) (hn : n ≤ 1000000) :
    Calls Try.prog 35 #[.slice S n c] w (SpansQ s w) := by
  have HS := hide h
  have HL := hide h.len
  clear h
  go_enter Try.func35, Try.ntmps35
  go_wp2_with fail
  go_loopw [3, 4] (fun s3 s4 wr => ∃ (a m d : Nat) (A : Option Addr) (L : List (Nat × Nat)), a ≤ n + 1 ∧ m ≤ a ∧ s4 = .int .i64 a ∧ s3 = .slice A m d ∧ Hid (SpO wr w.heap.size A m d L) ∧ Hid (spansS s = L ++ spG a none (s.drop a)) ∧ Hid (Below w.heap.size w wr)) (fun _ s4 _ => n + 1 - (intOf s4).toNat)
  case atStart => exact ⟨0, 0, 0, none, [], Nat.zero_le _, Nat.zero_le _, rfl, rfl, RowG.nil _ _ _ _, by rw [List.drop_zero]; rfl, Below.refl _ _⟩
  case round =>
    obtain ⟨a, m, d, A, L, ha, hm, rfl, rfl, HO, HE, HB⟩ := hrel
    by_cases hlt : a < n
    · have a0 : (0 : Int) ≤ (a : Int) := by omega
      have a1 : (a : Int) < (n : Int) := by omega
      have HR := hide (HS.out.below HB.out)
      obtain ⟨b, o, hS, hc⟩ := HR.out.at_ a hlt
      subst hS
      have hof := rword_any (nth s a) wr
      cases hw : wrdS (nth s a)
      · rw [hw] at hof
        have HOF := hide hof
        have HN := hide (show spansS s = L ++ spG (a + 1) none (s.drop (a + 1)) from by
          rw [HE.out]
          have h := spG_end (s := s) (a := a) (k := a) (Nat.le_refl _) (.inr hw)
          rw [cur_self, if_neg (Nat.lt_irrefl _), List.nil_append] at h
          rw [h])
        clear hof hw HE
        go_wp2_with (go_at_call 55; (with_reducible refine HOF.out.mono ?_); rintro e w5 ⟨rfl, rfl⟩)
        go_roundw
        case rel => exact ⟨a + 1, m, d, A, L, by omega, by omega, by go_num, rfl, HO.out, HN.out, HB.out⟩
        case measure => simp [intOf]; omega
      · rw [hw] at hof
        have HOF := hide hof
        have HE1 := hide (show spansS s = L ++ spG (a + 1) (curW a (a + 1)) (s.drop (a + 1)) from by
          rw [HE.out]
          have h := spG_on (s := s) (a := a) (k := a) (by rw [HL.out]; exact hlt) (Nat.le_refl _) hw
          rw [cur_self] at h
          rw [h])
        have HW := hide hw
        clear hof hw HE
        go_wp2_with (go_at_call 55; (with_reducible refine HOF.out.mono ?_); rintro e w5 ⟨rfl, rfl⟩)
        clear hc
        go_loop [5] (fun s5 => ∃ k : Nat, a ≤ k ∧ k ≤ n ∧ s5 = .int .i64 k ∧ Hid (spansS s = L ++ spG k (curW a k) (s.drop k))) (fun s5 => n - (intOf s5).toNat)
        case atStart => exact ⟨a, Nat.le_refl _, by omega, rfl, by
          rw [spG_on (by rw [HL.out]; exact hlt) (Nat.le_refl _) HW.out]
          exact HE1.out⟩
        case round =>
          obtain ⟨k, hak, hk, rfl, HK⟩ := hrel
          have k0 : (0 : Int) ≤ (k : Int) := by omega
          by_cases hgo : k < n ∧ wrdS (nth s k) = true
          · obtain ⟨hkn, hw⟩ := hgo
            obtain ⟨b2, o2, hS, hc⟩ := HR.out.at_ k hkn
            injection hS with hS
            injection hS with hS1 hS2
            subst hS1 hS2
            have k1 : (k : Int) < (n : Int) := by omega
            have HN := hide (show spansS s = L ++ spG (k + 1) (curW a (k + 1)) (s.drop (k + 1)) from by
              rw [HK.out, spG_on (by rw [HL.out]; exact hkn) hak hw])
            have hof := rword_any (nth s k) wr
            rw [hw] at hof
            have HOF2 := hide hof
            clear hw HK hof
            go_wp2_with (go_at_call 55; (with_reducible refine HOF2.out.mono ?_); rintro e w5 ⟨rfl, rfl⟩)
            go_round
            case rel => exact ⟨k + 1, by omega, by omega, by go_num, HN.out⟩
            case measure => simp [intOf]; omega
          · have hend : s.length ≤ k ∨ wrdS (nth s k) = false := by
              by_cases e : k < n
              · refine .inr ?_
                cases hw : wrdS (nth s k)
                · rfl
                · exact absurd ⟨e, hw⟩ hgo
              · exact .inl (by rw [HL.out]; omega)
            have hne : k ≠ a := fun e => by
              rcases hend with h1 | h1
              · rw [HL.out] at h1; omega
              · rw [e, HW.out] at h1; cases h1
            have HN2 := hide (show spansS s = (L ++ [(a, k)]) ++ spG (k + 1) none (s.drop (k + 1)) from by
              have h := HK.out
              rw [spG_end hak hend, if_pos (show a < k by omega), ← List.append_assoc] at h
              exact h)
            clear HK hgo
            have hway : (¬ k < n) ∨ (k < n ∧ ∃ (r : Int), wr.cell? ⟨b, o + k, none⟩ = some (.int .i32 r) ∧ Hid (Calls Try.prog 55 #[.int .i32 r] wr fun e w' => e = .returned (.bool false) ∧ wr = w')) := by
              by_cases e : k < n
              · obtain ⟨b2, o2, hS, hc⟩ := HR.out.at_ k e
                injection hS with hS
                injection hS with hS1 hS2
                subst hS1 hS2
                refine .inr ⟨e, nth s k, hc, ?_⟩
                have h := rword_any (nth s k) wr
                rcases hend with h1 | h1
                · rw [HL.out] at h1; omega
                · rw [h1] at h; exact h
              · exact .inl e
            clear hend
            rcases hway with hkn | ⟨hkn, r, hc, HOF2⟩
            case' inr => have k1 : (k : Int) < (n : Int) := by omega
            all_goals
              go_wp2_with (first
                | (go_at_call 55; (with_reducible refine HOF2.out.mono ?_); rintro e w5 ⟨rfl, rfl⟩)
                | (at_builtin; refine wpList_appG spanT rfl (.tmp 32) (.tmp 36) rfl w.heap.size rfl (RowG.alloc HO.out _) (m := 1) (d := 1) rfl (us := [spc (a, k)]) (news_box (cs := (spc (a, k)).toArray) (Box.new _ _ _)) (SpO.one _) rfl (by omega) (by omega) (by omega) (by have := HB.out.size; simp; omega) ?_; intro g' c' w6 hr6 hg6 hb6 hor6))
              have HO6 := hide (show SpO w6 w.heap.size (some ⟨g', 0, none⟩) (m + 1) c' (L ++ [(a, k)]) from by rw [SpO, List.map_append]; exact hr6)
              have HB6 := hide (show Below w.heap.size w w6 from (HB.out.alloc HB.out.size _).trans hb6)
              clear hr6 hg6 hb6 hor6
              go_roundw
              case rel => exact ⟨k + 1, m + 1, c', some ⟨g', 0, none⟩, L ++ [(a, k)], by omega, by omega, by go_num, rfl, HO6.out, HN2.out, HB6.out⟩
              case measure => simp [intOf]; omega
    · have HF := hide (show SpansQ s w (.returned (.slice A m d)) wr from ⟨A, m, d, rfl, by
        have h1 := HE.out
        rw [List.drop_eq_nil_of_le (by rw [HL.out]; omega)] at h1
        have h2 : spG a none ([] : List Int) = [] := rfl
        rw [h2, List.append_nil] at h1
        rw [h1]
        exact HO.out, HB.out⟩)
      go_wp2_with fail
      go_ret
      exact HF.out
end Go.Proofs.Ytchcpeenpijekaa
