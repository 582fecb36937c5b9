/- The reference's tree: NewTree. -/
import Derived.Test.YtjhnenljmmeflaaRefC
namespace Go.Proofs.Ytjhnenljmmeflaa
open Go.RowKit
set_option linter.unusedVariables false

theorem rnewtree_any (w : World) : Calls Try.prog 28 #[] w fun e w' => ∃ t', e = .returned (.pointer (some ⟨t', 0, none⟩)) ∧ TreeR w' (fun b => w.heap.size ≤ b ∧ b < w'.heap.size) t' [root0] 0 ∧ Below w.heap.size w w' := by
  obtain ⟨q, hq⟩ : ∃ q, w.heap.size = q := ⟨_, rfl⟩
  have HX0 := hide (Box.newAt hq 78 (cellsR (GV0, root0)).toArray)
  have HB0 := hide ((Below.refl w.heap.size w).alloc (Nat.le_refl _) (.cells (cellsR (GV0, root0)).toArray 78))
  have HS := hide (show (w.alloc (.cells (cellsR (GV0, root0)).toArray 78)).heap.size = q + 1 by simp [hq])
  have HQ := hide hq
  go_enter Try.func28, Try.ntmps28
  go_wp2_with fail
  go_ret
  have hT := Box.new (w.alloc (.cells (cellsR (GV0, root0)).toArray 78)) 81 #[.slice (some ⟨q, 0, none⟩) 1 1, .int .i64 0]
  have hG := HX0.out.alloc (.cells #[.slice (some ⟨q, 0, none⟩) 1 1, .int .i64 0] 81)
  have hs := HS.out
  have hq' := HQ.out
  rw [hs] at hT
  refine ⟨q + 1, ?_, ⟨WF.root, q, 1, 1, [(GV0, root0)], rfl, hT, RowG.ofBox hG (Nat.zero_le _) (each_R _) rfl rfl (by decide), fun p hp => ?_, KAp.root _, fun b hb => hb.2, ⟨by omega, by simp; omega⟩, ⟨by omega, by simp; omega⟩⟩, HB0.out.alloc HB0.out.size _⟩
  · first | rfl | (rw [← hs]; rfl) | simp [hq']
  · obtain rfl := List.mem_singleton.1 hp
    exact GrpM.root _ _
end Go.Proofs.Ytjhnenljmmeflaa
