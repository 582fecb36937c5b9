/- slices.Sort sorts rows of runes. -/
import Derived.Test.YtchcpeenpijekaaSrtJ
import Derived.Test.YtchcpeenpijekaaSrtSN
namespace Go.Proofs.Ytchcpeenpijekaa
open Go.RowKit
set_option linter.unusedVariables false

theorem sorts_all {n : Nat} (hn : n ≤ 1000000) : SortsAt n := by
  by_cases h12 : n ≤ 12
  · exact sorts_small h12
  · intro A B c l w h
    rcases h.form with ⟨rfl, rfl, rfl⟩ | ⟨g, rfl, _⟩
    · exact absurd (Nat.zero_le 12) h12
    · refine sort_of_pdq _ B n c l w hn fun k => ?_
      refine (pdq_N g B n c hn (n + 1) 0 n l k w (by omega) h (Nat.zero_le _) (Nat.le_refl _) (.inl rfl)).mono ?_
      rintro e w' ⟨rfl, l', hs, ha⟩
      exact ⟨rfl, l', hs.own, hs.pm.perm, Asc.pairwise (by rw [hs.own.len]; exact ha), hs.grown⟩
end Go.Proofs.Ytchcpeenpijekaa
