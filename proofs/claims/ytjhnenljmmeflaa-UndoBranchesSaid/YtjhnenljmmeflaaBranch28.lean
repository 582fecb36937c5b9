/- The walk of standishlaw28.UndoBranches: it answers true. -/
import Derived.Test.YtjhnenljmmeflaaFull28
namespace Go.Proofs.Ytjhnenljmmeflaa
open Go.RowKit
set_option linter.unusedVariables false

def brF (i : Nat) : List Chg := [litC (i : Int) 97]
set_option maxRecDepth 100000 in
set_option maxHeartbeats 8000000 in
theorem branch28_any (n k : Int) (w : World) : Calls Try.prog 5 #[.int .i64 n, .int .i64 k] w fun e w' => e = .returned (.bool true) ∧ Below w.heap.size w w' := by
  have hM := idxN_lt (k := n) (n := 20) (by omega)
  generalize hMM : idxN n 20 = M at hM
  have HMM := hide hMM
  clear hMM
  obtain ⟨N, hN⟩ : ∃ N, N = M + 1 := ⟨_, rfl⟩
  have HN := hide hN
  have hK := idxN_lt (k := k) (n := N) (by omega)
  generalize hKK : idxN k N = K at hK
  have HKK := hide hKK
  have hN20 : N ≤ 20 := by omega
  have hN1 : 1 ≤ N := by omega
  clear hKK
  have v0 : IntKind.i64.wrap (1 + (M : Int)) = (N : Int) := by rw [IntWalk.i64_in _ (by omega)]; omega
  clear hN
  go_enter Try.func5, Try.ntmps5
  go_wp2_with fail
  refine (index_any n 20 w (by omega) (by omega)).mono ?_
  rw [show (20 : Int).toNat = 20 from rfl, HMM.out]
  rintro e w0 ⟨rfl, rfl⟩
  go_wp2_with fail
  refine (index_any k (N : Int) w (by omega) (by omega)).mono ?_
  rw [show ((N : Nat) : Int).toNat = N from rfl, HKK.out]
  rintro e w0 ⟨rfl, rfl⟩
  clear v0
  go_wp2_with fail
  refine (new_any _).mono ?_
  rintro e w1 ⟨t, rfl, h1, hb1⟩
  obtain ⟨hT1, -⟩ := Tr.start h1 hb1 (Below.refl w.heap.size w) (Nat.le_refl _)
  generalize (fun g => w.heap.size ≤ g ∧ g < w1.heap.size) = P1 at hT1
  have HT1 := hide hT1
  clear h1 hb1 hT1
  go_wp2_with fail
  go_loopw [6] (fun i wx => ∃ (j : Nat) (P : Nat → Prop), j ≤ N ∧ i = .int .i64 j ∧ Tr w.heap.size w wx P t (starG brF j) 0) (fun i _ => N - (intOf i).toNat)
  case atStart => exact ⟨0, P1, by omega, rfl, HT1.out⟩
  case round =>
    obtain ⟨j, P, hj, rfl, hT⟩ := hrel
    have HT := hide hT
    clear hT
    obtain ⟨hlen, ⟨x0, hx0, hx0k, hx0p⟩, hget⟩ := star_get brF j
    by_cases hjN : j < N
    · clear hx0 hx0k hx0p hget HT1
      obtain ⟨g, hg⟩ : ∃ g, wr.heap.size = g := ⟨_, rfl⟩
      have hX0 := Box.newAt hg 21 #[.int .i32 97]
      have hs2 : (wr.alloc (.cells #[.int .i32 97] 21)).heap.size = g + 1 := by simp [hg]
      have hY0 := Box.newAt hs2 31 #[.int .i64 (j : Int), .slice none 0 0, .slice (some ⟨g, 0, none⟩) 1 1]
      have hbl : Below wr.heap.size wr ((wr.alloc (.cells #[.int .i32 97] 21)).alloc (.cells #[.int .i64 (j : Int), .slice none 0 0, .slice (some ⟨g, 0, none⟩) 1 1] 31)) := ((Below.refl _ _).alloc (Nat.le_refl _) _).alloc (by simp) _
      have hX1 := hX0.alloc (.cells #[.int .i64 (j : Int), .slice none 0 0, .slice (some ⟨g, 0, none⟩) 1 1] 31)
      have HL2 := hide (show LitO P _ g (g + 1) (j : Int) 97 from ⟨hX1, hY0, Tr.off HT.out.tree hbl (b := g) (by omega) hX1.lt, Tr.off HT.out.tree hbl (b := g + 1) (by omega) hY0.lt⟩)
      have HT2 := hide (HT.out.next (Nat.le_refl _) hbl).1
      have v1 : IntKind.i64.wrap (100 + (j : Int)) = 100 + (j : Int) := by rw [IntWalk.i64_in _ (by omega)]
      have v2 : IntKind.i64.wrap ((j : Int) + 1) = (j : Int) + 1 := by rw [IntWalk.i64_in _ (by omega)]
      clear hX0 hY0 hX1 hbl
      go_wp2_with fail
      generalize ((wr.alloc (.cells #[.int .i32 97] 21)).alloc (.cells #[.int .i64 (j : Int), .slice none 0 0, .slice (some ⟨g, 0, none⟩) 1 1] 31)) = W2 at HT2 HL2 ⊢
      clear hs2 hg HT
      refine (add_any W2 P t (starG brF j) (starG brF j) 0 0 _ 1 1 _ (brF j) (100 + (j : Int)) HT2.out.tree (HL2.out.keeps (by omega) (by omega)) (by omega) (by omega) (by omega) (.inl ⟨by omega, rfl, rfl⟩)).mono ?_
      intro e w3 ha3
      obtain ⟨rfl, Q, hT3, -⟩ := HT2.out.add (Nat.le_refl _) ha3
      rw [hlen] at hT3
      have HT3 := hide (show Tr w.heap.size w w3 Q t (starG brF (j + 1)) (j + 1) from hT3)
      clear hT3 ha3 HT2 HL2 hlen
      obtain ⟨hlen, ⟨x0, hx0, hx0k, hx0p⟩, hget⟩ := star_get brF (j + 1)
      have HG := hide (hget j (by omega))
      have HX0 := hide hx0
      have hk0 : x0.kids.length = j + 1 := by rw [hx0k]; simp
      clear hget hx0 hx0k hx0p hlen
      have i1 : (0 : Int) ≤ (j : Int) := by omega
      go_wp2_with fail
      refine (kids_any w3 Q t _ (j + 1) _ HT3.out.tree HG.out).mono ?_
      rintro e w4 ⟨rfl, q, rfl⟩
      have HT4 := hide (HT3.out.next (Nat.le_refl _) (below_drewN (Below.refl _ _) q)).1
      generalize w3.drewN q = w4 at HT4 ⊢
      clear HT3
      go_wp2_with fail
      refine (undo_any w4 Q t _ (j + 1) _ HT4.out.tree HG.out (by omega)).mono ?_
      intro e w5 hm5
      obtain ⟨A5, n5, c5, vs5, rfl, -, -, -, hT5, -, -, -⟩ := HT4.out.move (Nat.le_refl _) hm5
      have HT5 := hide hT5
      clear hm5 hT5 HT4
      go_wp2_with fail
      refine (kids_any w5 Q t _ 0 _ HT5.out.tree HX0.out).mono ?_
      rw [hk0]
      rintro e w6 ⟨rfl, q', rfl⟩
      have HT6 := hide (HT5.out.next (Nat.le_refl _) (below_drewN (Below.refl _ _) q')).1
      generalize w5.drewN q' = w6 at HT6 ⊢
      clear HT5
      go_wp2_with fail
      refine (undos_any w6 Q t _ 0 HT6.out.tree).mono ?_
      rw [undosG_zero]
      rintro e w7 ⟨rfl, rfl⟩
      go_wp2_with fail
      go_round
      case rel => exact ⟨j + 1, Q, by omega, by first | rfl | go_num, HT6.out⟩
      case measure => simp [intOf]; omega
    · have e : j = N := by omega
      rw [e] at hx0 hx0k hx0p hget
      have HT1 := hide (show Tr w.heap.size w wr P t (starG brF N) 0 from by rw [← e]; exact HT.out)
      have hk0 : x0.kids.length = N := by rw [hx0k]; simp
      have hkat : ∀ i, i < N → x0.kids[i]? = some (i + 1) := fun i hi => by rw [hx0k]; simp [hi]
      have HX0 := hide hx0
      have HG := hide hget
      have HKA := hide hkat
      have HP := hide hx0p
      have v3 : IntKind.i64.wrap (99 + (N : Int)) = 100 + (M : Int) := by rw [IntWalk.i64_in _ (by omega)]; have := HN.out; omega
      have v4 : IntKind.i64.wrap (100 + (K : Int)) = 100 + (K : Int) := by rw [IntWalk.i64_in _ (by omega)]
      clear hlen hx0 hx0k hx0p hget hkat HT
      go_wp2_with fail
      refine (redo_any wr P t _ 0 N x0 ⟨brF M, 100 + (M : Int), 0, [], 0⟩ HT1.out.tree HX0.out (by rw [HP.out, HKA.out (N - 1) (by omega)]; congr 1; omega) (by have := HG.out M (by have := HN.out; omega); rw [← HN.out] at this; exact this)).mono ?_
      intro e2 w3 hm3
      obtain ⟨A3, n3, c3, vs3, rfl, -, -, -, hT3, -, -, -⟩ := HT1.out.move (Nat.le_refl _) hm3
      have HT3 := hide hT3
      clear hm3 hT3 HT1
      go_wp2_with fail
      refine (undo_any w3 P t _ N ⟨brF M, 100 + (M : Int), 0, [], 0⟩ HT3.out.tree (by have := HG.out M (by have := HN.out; omega); rw [← HN.out] at this; exact this) (by omega)).mono ?_
      intro e2 w4 hm4
      obtain ⟨A4, n4, c4, vs4, rfl, -, -, -, hT4, -, -, -⟩ := HT3.out.move (Nat.le_refl _) hm4
      have HT4 := hide hT4
      clear hm4 hT4 HT3
      go_wp2_with fail
      refine (pick_any w4 P t _ 0 x0 (N : Int) HT4.out.tree HX0.out).mono ?_
      intro e2 w5 hp5
      rcases HT4.out.pick (Nat.le_refl _) hp5 with ⟨rfl, -, hT5, -⟩ | ⟨_, _, h2, _⟩
      case inr => rw [hk0] at h2; omega
      have HT5 := hide hT5
      clear hT5 hp5 HT4
      go_wp2_with fail
      refine (pick_any w5 P t _ 0 x0 (-1) HT5.out.tree HX0.out).mono ?_
      intro e2 w6 hp6
      rcases HT5.out.pick (Nat.le_refl _) hp6 with ⟨rfl, -, hT6, -⟩ | ⟨_, h1, _, _⟩
      case inr => omega
      have HT6 := hide hT6
      clear hT6 hp6 HT5
      go_wp2_with fail
      refine (pick_any w6 P t _ 0 x0 (K : Int) HT6.out.tree HX0.out).mono ?_
      intro e2 w7 hp7
      rcases HT6.out.pick (Nat.le_refl _) hp7 with ⟨_, h1, _⟩ | ⟨rfl, _, _, hT7, -⟩
      case inl => exact absurd ⟨by omega, by rw [hk0]; omega⟩ h1
      rw [show ((K : Nat) : Int).toNat = K from rfl, pickG_at HX0.out] at hT7
      have hgl : 0 < (starG brF N).length := by rw [(star_get brF N).1]; omega
      have HG0 := hide (show ((starG brF N).set 0 { x0 with picked := K })[0]? = some { x0 with picked := K } from List.getElem?_set_self hgl)
      have HG1 := hide (show ((starG brF N).set 0 { x0 with picked := K })[K + 1]? = some ⟨brF K, 100 + (K : Int), 0, [], 0⟩ from by rw [List.getElem?_set_ne (by omega)]; exact HG.out K hK)
      have HT7 := hide hT7
      clear hT7 hp7 HT6 HG HX0 hgl
      generalize (starG brF N).set 0 { x0 with picked := K } = gs at HG0 HG1 HT7 ⊢
      go_wp2_with fail
      refine (redo_any w7 P t gs 0 (K + 1) { x0 with picked := K } ⟨brF K, 100 + (K : Int), 0, [], 0⟩ HT7.out.tree HG0.out (HKA.out K hK) HG1.out).mono ?_
      intro e2 w8 hm8
      obtain ⟨A8, n8, c8, vs8, rfl, hr8, he8, -, hT8, -, -, hn8⟩ := HT7.out.move (Nat.le_refl _) hm8
      obtain rfl : n8 = 1 := hn8
      have hL : ∃ a : Nat, A8 = some ⟨a, 0, none⟩ ∧ w8.cell? ⟨a, 0, none⟩ = some (.int .i64 (K : Int)) := by
        obtain ⟨a, rfl, h1, -⟩ := hr8.cells_at (j := 0) (by omega)
        obtain ⟨x, hx, ho⟩ := he8.at_ 0 (vget vs8 0) (by
          have := hr8.len
          match vs8, this with
          | [v], _ => rfl)
        obtain rfl : litC (K : Int) 97 = x := by simpa [brF] using hx
        rw [ho.at_] at h1
        exact ⟨a, rfl, h1⟩
      obtain ⟨a, rfl, hla⟩ := hL
      have hcap8 := hr8.cap
      have HT8 := hide hT8
      clear hm8 hT8 HT7 hr8 he8
      have i0 : (0 : Int) < ((1 : Nat) : Int) := by omega
      go_wp2_with fail
      refine (pick_any w8 P t gs (K + 1) _ 0 HT8.out.tree HG1.out).mono ?_
      intro e2 w9 hp9
      rcases HT8.out.pick (Nat.le_refl _) hp9 with ⟨rfl, -, hT9, -⟩ | ⟨_, _, h2, _⟩
      case inr => exact absurd h2 (by simp)
      have HT9 := hide hT9
      clear hT9 hp9 HT8
      go_wp2_with fail
      refine (known28_any w9).mono ?_
      rintro e2 w12 ⟨rfl, hb12⟩
      go_wp2_with fail
      go_ret
      exact ⟨rfl, HT9.out.below.trans (hb12.mono HT9.out.below.size)⟩
end Go.Proofs.Ytjhnenljmmeflaa
