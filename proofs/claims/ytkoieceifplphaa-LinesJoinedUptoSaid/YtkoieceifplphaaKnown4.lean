/- What every program answers (law 4's known); the two answers are the same (law 4's same). -/
import Derived.Test.YtkoieceifplphaaLinS
import Derived.Test.YtkoieceifplphaaTape
namespace Go.Proofs.Ytkoieceifplphaa
open Go.RowKit
set_option linter.unusedVariables false

theorem Runes.lentA {w : World} {A : Option Addr} {n : Nat} {a : List Int} (h : Runes w A (n + 2) (a ++ [-77, -78])) (ha : a.length = n) : Runes w A n a := by
  have := h.take (m := n) (by omega)
  rwa [List.take_append_of_le_length (by omega), List.take_of_length_le (by omega)] at this
def I64 (x : Int) : Prop := -9223372036854775808 ≤ x ∧ x ≤ 9223372036854775807

set_option maxRecDepth 100000 in
set_option maxHeartbeats 4000000 in
theorem same4_any (S : Option Addr) (k d : Nat) (at_ line col : Int) (s : List Int) (w : World) (hS : Runes w S k s) (hk : k + 2 ≤ 35184372088832) (hd : k ≤ d) (hd2 : d ≤ 9223372036854775807) (ha : I64 at_) (hl : I64 line) :
    Calls Try.prog 25 #[.slice S k d, .int .i64 at_, .int .i64 line, .int .i64 col] w fun e w' => e = .returned (.bool true) ∧ Below w.heap.size w w' := by
  have HS := hide hS
  have HL := hide hS.len
  have HAT := hide ha
  have HLI := hide hl
  clear hS ha hl
  go_enter Try.func25, Try.ntmps25
  go_wp2_with fail
  refine (lend_any S k d s _ HS.out hk).mono ?_
  rintro e w1 ⟨g1, c1, rfl, ho1, hb1⟩
  have HX := hide ho1.runes
  have HXL := hide (ho1.runes.lentA HL.out)
  have hc1 := ho1.cap
  have HB := hide hb1
  have HS1 := hide (HS.out.below hb1)
  clear ho1 hb1
  have hcc : k ≤ c1 := by omega
  have P1 := hide (place_any (some ⟨g1, 0, none⟩) k c1 at_ s w1 HXL.out (by omega) hcc hc1.2 HAT.out)
  have P2 := hide (rplace_any S k d at_ s w1 HS1.out (by omega) hd hd2 HAT.out)
  have C1 := hide (count_any (some ⟨g1, 0, none⟩) k c1 s w1 HXL.out (by omega))
  have C2 := hide (rcount_any S k d s w1 HS1.out (by omega))
  have S1 := hide (start_any (some ⟨g1, 0, none⟩) k c1 line s w1 HXL.out (by omega) hcc hc1.2 HLI.out)
  have S2 := hide (rstart_any S k d line s w1 HS1.out (by omega) HLI.out)
  have W1 := hide (width_any (some ⟨g1, 0, none⟩) k c1 line s w1 HXL.out (by omega) hcc hc1.2 HLI.out)
  have W2 := hide (rwidth_any S k d line s w1 HS1.out (by omega) HLI.out)
  have O1 := hide (offset_any (some ⟨g1, 0, none⟩) k c1 line col s w1 HXL.out (by omega) hcc hc1.2 HLI.out)
  have O2 := hide (roffset_any S k d line col s w1 HS1.out (by omega) HLI.out)
  have I1 := hide (indent_any (some ⟨g1, 0, none⟩) k c1 line s w1 HXL.out (by omega) hcc hc1.2 HLI.out)
  have I2 := hide (fun W (hb : Below w1.heap.size w1 W) => rindent_any S k d line s W (HS1.out.below hb) (by omega) hd hd2 HLI.out)
  generalize (placeS s at_).1 = p1 at P1 P2
  generalize (placeS s at_).2.1 = p2 at P1 P2
  generalize (placeS s at_).2.2 = p3 at P1 P2
  generalize (cntL s : Int) + 1 = cc at C1 C2
  generalize (startE s line).1 = s1 at S1 S2
  generalize (startE s line).2 = s2 at S1 S2
  generalize (widthS s line).1 = q1 at W1 W2
  generalize (widthS s line).2 = q2 at W1 W2
  generalize (offsetS s line col).1 = o1 at O1 O2
  generalize (offsetS s line col).2 = o2 at O1 O2
  have hil : (indentS s line).length ≤ 40 := by
    unfold indentS
    split
    · rw [List.length_take]
      have := (blankN_le isBl 40 (s.drop (spanS s line).1.toNat)).1
      unfold indN
      omega
    · simp
  generalize indentS s line = il at I1 I2 hil
  generalize indentE s line = ie at I1 I2
  go_wp2_with fail
  refine P1.out.mono ?_
  rintro e w' ⟨rfl, rfl⟩
  go_wp2_with fail
  refine P2.out.mono ?_
  rintro e w' ⟨rfl, rfl⟩
  go_wp2_with fail
  refine C1.out.mono ?_
  rintro e w' ⟨rfl, rfl⟩
  go_wp2_with fail
  refine C2.out.mono ?_
  rintro e w' ⟨rfl, rfl⟩
  go_wp2_with fail
  refine S1.out.mono ?_
  rintro e w' ⟨rfl, rfl⟩
  go_wp2_with fail
  refine S2.out.mono ?_
  rintro e w' ⟨rfl, rfl⟩
  go_wp2_with fail
  refine W1.out.mono ?_
  rintro e w' ⟨rfl, rfl⟩
  go_wp2_with fail
  refine W2.out.mono ?_
  rintro e w' ⟨rfl, rfl⟩
  go_wp2_with fail
  refine O1.out.mono ?_
  rintro e w' ⟨rfl, rfl⟩
  go_wp2_with fail
  refine O2.out.mono ?_
  rintro e w' ⟨rfl, rfl⟩
  go_wp2_with fail
  refine I1.out.mono ?_
  rintro e w2 ⟨A1, n1, d1, rfl, ho1, hb1⟩
  have HO1 := hide ho1
  have hn1 : n1 ≤ 40 := by rw [← ho1.len]; exact hil
  have HB1 := hide hb1
  clear ho1 hb1
  go_wp2_with fail
  refine (I2.out _ HB1.out).mono ?_
  rintro e w3 ⟨A2, n2, d2, rfl, ho2, hb2⟩
  obtain rfl : n2 = n1 := by rw [← ho2.len, HO1.out.len]
  have HO2 := hide ho2.runes
  have HO12 := hide (HO1.out.below hb2)
  have HB2 := hide (HB1.out.trans (hb2.mono HB1.out.size))
  clear ho2 hb2
  go_wp2_with fail
  refine (refSame_any A1 A2 n2 d1 n2 d2 il il _ HO12.out.runes HO2.out (by omega) (by omega)).mono ?_
  rintro e w4 ⟨rfl, q, rfl⟩
  rw [show sameS il il = true by simp [sameS]]
  go_wp2_with fail
  refine (spoil_any w1.heap.size A1 n2 d1 _ _ (HO12.out.drewN q)).mono ?_
  rintro e w5 ⟨rfl, _, hg5⟩
  have HB5 := hide ((belowD HB2.out q).grown hg5 (by have := HB2.out.size; simpa using this) (fun g hg => (HO12.out.blk_ge g hg).1))
  clear hg5
  go_wp2_with fail
  refine (kept_yes _ S k c1 d s _ (HX.out.below HB5.out) (HS1.out.below HB5.out) hc1.1 hc1.2).mono ?_
  rintro e w6 ⟨rfl, q6, rfl⟩
  have HB6 := hide (belowD HB5.out q6)
  go_wp2_with fail
  go_ret
  exact ⟨rfl, HB.out.trans (HB6.out.mono HB.out.size)⟩

def known4L : List Int := [97, 10, 32, 98]
set_option maxRecDepth 100000 in
set_option maxHeartbeats 4000000 in
theorem known4_any (w : World) : Calls Try.prog 26 #[] w fun e w' => e = .returned (.bool true) ∧ Below w.heap.size w w' := by
  have hr := Runes.news w #[.int .i32 97, .int .i32 10, .int .i32 32, .int .i32 98] 21 known4L rfl (fun x hx => by simp [known4L] at hx; omega)
  have hb := (Below.refl w.heap.size w).alloc (Nat.le_refl _) (.cells #[.int .i32 97, .int .i32 10, .int .i32 32, .int .i32 98] 21)
  have HR := hide hr
  have HB := hide hb
  clear hr hb
  go_enter Try.func26, Try.ntmps26
  go_wp2_with fail
  generalize hW : World.alloc w _ = W0 at HR HB ⊢
  clear hW
  refine (place_any _ 4 4 3 known4L _ HR.out (by omega) (by omega) (by omega) (by omega)).mono ?_
  rw [show placeS known4L 3 = (1, 1, 0) by decide +kernel]
  rintro e w' ⟨rfl, rfl⟩
  go_wp2_with fail
  refine (width_any _ 4 4 1 known4L _ HR.out (by omega) (by omega) (by omega) (by omega)).mono ?_
  rw [show widthS known4L 1 = (2, 0) by decide +kernel]
  rintro e w' ⟨rfl, rfl⟩
  go_wp2_with fail
  refine (offset_any _ 4 4 1 2 known4L _ HR.out (by omega) (by omega) (by omega) (by omega)).mono ?_
  rw [show offsetS known4L 1 2 = (4, 0) by decide +kernel]
  rintro e w' ⟨rfl, rfl⟩
  go_wp2_with fail
  refine (indent_any _ 4 4 1 known4L _ HR.out (by omega) (by omega) (by omega) (by omega)).mono ?_
  rw [show indentS known4L 1 = [32] by decide +kernel, show indentE known4L 1 = 0 by decide +kernel]
  rintro e w1 ⟨A1, n1, d1, rfl, ho1, hb1⟩
  obtain rfl : n1 = 1 := by rw [← ho1.len]; rfl
  obtain ⟨ab, ao, rfl, hc⟩ := ho1.runes.at_ 0 (by omega)
  have hc' : w1.cell? ⟨ab, ao, none⟩ = some (.int .i32 32) := hc
  have HR1 := hide (HR.out.below hb1)
  have HB1 := hide (HB.out.trans (hb1.mono HB.out.size))
  clear ho1 hb1 hc
  go_wp2_with fail
  refine (start_any _ 4 4 2 known4L _ HR1.out (by omega) (by omega) (by omega) (by omega)).mono ?_
  rw [show startE known4L 2 = (0, 2) by decide +kernel]
  rintro e w' ⟨rfl, rfl⟩
  go_wp2_with fail
  refine (count_any _ 4 4 known4L _ HR1.out (by omega)).mono ?_
  rw [show cntL known4L = 1 by decide +kernel]
  rintro e w' ⟨rfl, rfl⟩
  go_wp2_with fail
  refine (count_any none 0 0 [] _ (Runes.nil _ _) (by omega)).mono ?_
  rw [show cntL [] = 0 by decide +kernel]
  rintro e w' ⟨rfl, rfl⟩
  go_wp2_with fail
  go_ret
  exact ⟨rfl, HB1.out⟩
end Go.Proofs.Ytkoieceifplphaa
