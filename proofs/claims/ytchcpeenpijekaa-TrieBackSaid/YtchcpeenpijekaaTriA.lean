/- A trie: New, find, Count. -/
import Derived.Test.YtchcpeenpijekaaTriM
namespace Go.Proofs.Ytchcpeenpijekaa
open Go.RowKit Go.Maps Go.MapKept Go.ChangeMaps
set_option linter.unusedVariables false

theorem TrieN.start {w : World} {g b t : Nat} {B : Nat} (hg : Box w g 75 #[.int .i64 0, .map (some b)]) (hb : MapM w b 0 fun _ => none) (ht : Box w t 77 #[.pointer (some ⟨g, 0, none⟩), .int .i64 0, .int .i64 0, .int .i64 1]) (h1 : B ≤ g) (h2 : B ≤ b) (h3 : B ≤ t) :
    TrieN w B t 0 (addN (fun _ => none) [] (g, b)) (fun _ => 0) [[]] 0 0 := by
  have hN : ∀ p x, addN (fun _ => none) [] (g, b) p = some x → p = [] ∧ x = (g, b) := fun p x h => by
    unfold addN at h
    by_cases e : p = []
    · rw [if_pos e] at h
      injection h with h
      exact ⟨e, h.symm⟩
    · rw [if_neg e] at h; cases h
  refine ⟨⟨fun p x hx => ?_, fun p x hx => ?_, fun p q x y hx hy hne => ?_, fun p r hp => ?_, fun p x hx => ?_⟩, ⟨(g, b), rfl, ht⟩, List.nodup_cons.2 ⟨by simp, List.nodup_nil⟩, fun p => ?_, fun p hp => absurd hp (by omega), h3⟩
  · obtain ⟨rfl, rfl⟩ := hN p x hx
    exact hg
  · obtain ⟨rfl, rfl⟩ := hN p x hx
    refine ⟨0, Nat.le_refl _, ?_⟩
    have : kidV (addN (fun _ => none) [] (g, b)) [] = fun _ => none := by
      funext s
      unfold kidV addN
      rw [if_neg (by simp)]
      rfl
    rw [this]
    exact hb
  · exact absurd ((hN p x hx).1.trans (hN q y hy).1.symm) hne
  · unfold addN at hp
    rw [if_neg (by simp)] at hp
    cases hp
  · obtain ⟨rfl, rfl⟩ := hN p x hx
    exact ⟨h1, h2⟩
  · rw [List.mem_singleton]
    unfold addN
    by_cases e : p = []
    · rw [if_pos e]; simp [e]
    · rw [if_neg e]; simp [e]

set_option maxHeartbeats 400000 in
theorem tnew_any (w : World) : Calls Try.prog 11 #[] w fun e w' => ∃ t N, e = .returned (.pointer (some ⟨t, 0, none⟩)) ∧ TrieN w' w.heap.size t 0 N (fun _ => 0) [[]] 0 0 ∧ Below w.heap.size w w' := by
  obtain ⟨b, hb⟩ : ∃ b, w.heap.size = b := ⟨_, rfl⟩
  have HB := hide ((((Below.refl w.heap.size w).alloc (Nat.le_refl _) (.map #[] 0)).alloc (by simp) (.cells #[.int .i64 0, .map (some b)] 75)).alloc (by simp; omega) (.cells #[.pointer (some ⟨b + 1, 0, none⟩), .int .i64 0, .int .i64 0, .int .i64 1] 77))
  have HM := hide (((MapM.newAt hb).alloc (.cells #[.int .i64 0, .map (some b)] 75)).alloc (.cells #[.pointer (some ⟨b + 1, 0, none⟩), .int .i64 0, .int .i64 0, .int .i64 1] 77))
  have HG := hide ((Box.newAt (g := b + 1) (w := w.alloc (.map #[] 0)) (by simp [hb]) 75 #[.int .i64 0, .map (some b)]).alloc (.cells #[.pointer (some ⟨b + 1, 0, none⟩), .int .i64 0, .int .i64 0, .int .i64 1] 77))
  have HT := hide (Box.newAt (g := b + 2) (w := (w.alloc (.map #[] 0)).alloc (.cells #[.int .i64 0, .map (some b)] 75)) (by simp [hb]) 77 #[.pointer (some ⟨b + 1, 0, none⟩), .int .i64 0, .int .i64 0, .int .i64 1])
  have hmk := run_makeMap (P := Try.prog) 73 w
  rw [hb] at hmk ⊢
  have HBB := hide hb
  go_enter Try.func11, Try.ntmps11
  go_wp2_with fail
  go_ret
  exact ⟨b + 2, _, rfl, TrieN.start HG.out HM.out HT.out (by omega) (Nat.le_refl _) (by omega), HBB.out ▸ HB.out⟩

section
variable {w : World} {B t K words unlike : Nat} {N : List Int → Option Nd} {C : List Int → Nat} {Q : List (List Int)}
set_option maxHeartbeats 1000000 in
theorem find_any (A : Option Addr) (n c : Nat) (l : List Int) (h : TrieN w B t K N C Q words unlike) (hA : Runes w A n l) (hn : n ≤ 35184372088832) :
    Calls Try.prog 43 #[.pointer (some ⟨t, 0, none⟩), .slice A n c] w fun e w' => e = .returned (ptrN (N l)) ∧ w = w' := by
  obtain ⟨x0, hx0, hb⟩ := h.box
  have HT := hide h
  have HL := hide hA
  have c0 : w.cell? ⟨t, 0, none⟩ = some (.pointer (some ⟨x0.1, 0, none⟩)) := hb.cell 0
  have HX0 := hide hx0
  clear h hA hb hx0
  go_enter Try.func43, Try.ntmps43
  go_wp2_with fail
  clear c0
  go_loop [5, 14] (fun s5 s14 => ∃ (k : Nat) (x : Nd), k ≤ n ∧ s14 = .int .i64 k ∧ s5 = .pointer (some ⟨x.1, 0, none⟩) ∧ Hid (N (l.take k) = some x)) (fun _ s14 => n - (intOf s14).toNat)
  case atStart => exact ⟨0, x0, Nat.zero_le _, rfl, rfl, by rw [List.take_zero]; exact HX0.out⟩
  case round =>
    obtain ⟨k, x, hk, rfl, rfl, HX⟩ := hrel
    by_cases hlt : k < n
    · obtain ⟨ab, ao, rfl, hc⟩ := HL.out.at_ k hlt
      have hlk := HT.out.tree.look HX.out (HL.out.wf.bd k)
      have hl := HL.out.len
      rw [← take_snoc (by omega)] at hlk
      have hc1 : w.cell? ⟨x.1, 1, none⟩ = some (.map (some x.2)) := (HT.out.tree.node _ _ HX.out).cell 1
      have HPL := hide (show l.take (k + 1) <+: l from List.take_prefix _ _)
      clear hl
      cases hy : N (l.take (k + 1)) with
      | none =>
        rw [hy] at hlk
        have hN : N l = none := by
          cases hz : N l with
          | none => rfl
          | some z =>
            have := HT.out.tree.prefix_ HPL.out (by rw [hz]; rfl)
            rw [hy] at this
            cases this
        have hlk' : (Instr.lookup 73 (.map (some x.2)) (.int .i32 (nth l k)) false).run Try.prog w = .ok (.pointer none) w := hlk
        have HN := hide hN
        clear hy hlk hN
        go_wp2_with fail
        go_ret
        exact ⟨by rw [HN.out]; rfl, rfl⟩
      | some y =>
        rw [hy] at hlk
        have hlk' : (Instr.lookup 73 (.map (some x.2)) (.int .i32 (nth l k)) false).run Try.prog w = .ok (.pointer (some ⟨y.1, 0, none⟩)) w := hlk
        have HY := hide hy
        clear hy hlk
        go_wp2_with fail
        go_round
        case rel => exact ⟨k + 1, y, by omega, by go_num, rfl, HY.out⟩
        case measure => simp [intOf]; omega
    · obtain rfl : k = n := by omega
      have HN := hide (show N l = some x from by
        have := HX.out
        rwa [List.take_of_length_le (by have := HL.out.len; omega)] at this)
      clear HX
      go_wp2_with fail
      go_ret
      exact ⟨by rw [HN.out]; rfl, rfl⟩
set_option maxHeartbeats 1000000 in
theorem tcount_any (A : Option Addr) (n c : Nat) (l : List Int) (h : TrieN w B t K N C Q words unlike) (hA : Runes w A n l) (hn : n ≤ 35184372088832) :
    Calls Try.prog 16 #[.pointer (some ⟨t, 0, none⟩), .slice A n c] w fun e w' => e = .returned (.int .i64 (C l : Nat)) ∧ w = w' := by
  have HF := hide (find_any A n c l h hA hn)
  cases hN : N l with
  | none =>
    rw [hN] at HF
    have HC := hide (show C l = 0 from by
      by_cases h0 : 0 < C l
      · have := h.live l h0
        rw [hN] at this
        cases this
      · omega)
    clear hN h hA
    go_enter Try.func16, Try.ntmps16
    go_wp2_with (go_at_call 43; refine HF.out.mono ?_; rintro e w' ⟨rfl, rfl⟩; unfold ptrN)
    go_ret
    exact ⟨by rw [HC.out]; rfl, rfl⟩
  | some x =>
    rw [hN] at HF
    have c0 : w.cell? ⟨x.1, 0, none⟩ = some (.int .i64 (C l : Nat)) := (h.tree.node l x hN).cell 0
    clear hN h hA
    go_enter Try.func16, Try.ntmps16
    go_wp2_with (go_at_call 43; refine HF.out.mono ?_; rintro e w' ⟨rfl, rfl⟩; unfold ptrN)
    go_ret
    exact ⟨rfl, rfl⟩
end
end Go.Proofs.Ytchcpeenpijekaa
