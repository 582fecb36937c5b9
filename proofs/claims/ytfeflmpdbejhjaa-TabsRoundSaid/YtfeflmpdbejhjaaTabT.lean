/- The law TabsTells: its function answers true. -/
import Derived.Test.YtfeflmpdbejhjaaTabL
namespace Go.Proofs.Ytfeflmpdbejhjaa
open Go.RowKit
set_option linter.unusedVariables false

theorem Flds.take {w : World} {A : Option Addr} {n m : Nat} {us : Nat → FV} (h : Flds w A n us) (hm : m ≤ n) : Flds w A m us := ⟨fun j hj => h.at_ j (by omega), fun j hj => h.wf j (by omega)⟩
/-- l[: m] of fields -/
theorem run_subF_h (A : Option Addr) (n c m : Nat) (h1 : m ≤ c) (W : World) :
    (Instr.slice 22 (.slice A n c) none (some (.int .i64 (m : Int))) none).run Try.prog W = .ok (.slice A m c) W := by
  have hz : (sizeOf (Try.prog.elem 22)).run Try.prog W = .ok 11 W := by kernel_rfl
  rw [run_slice_h (P := Try.prog) (t := 22) (ht := by kernel_rfl) (h0 := by omega) (h2 := by omega), hz]
  cases A <;> simp [Result.andThen, sliced, Addr.add]

set_option maxRecDepth 100000 in
set_option maxHeartbeats 8000000 in
theorem tabsTells_any (A : Option Addr) (n c : Nat) (us : Nat → FV) (a : Int) (w : World) (h : Flds w A n us) (hnc : n ≤ c) (hc : c ≤ 9223372036854775807) :
    Calls Try.prog 3 #[.slice A n c, .int .i64 a] w fun e w' => e = .returned (.bool true) ∧ Below w.heap.size w w' := by
  have HF := hide h
  clear h
  go_enter Try.func3, Try.ntmps3
  go_upto_if 9 with fail
  go_cut [0] (fun v wx => ∃ m : Nat, v = .slice A m c ∧ m ≤ n ∧ m ≤ 60 ∧ wx = w)
  case first =>
    by_cases h60 : 60 < n
    · have d0 : (60 : Int) < (n : Int) := by omega
      have hsl : (Instr.slice 22 (.slice A n c) none (some (.int .i64 60)) none).run Try.prog w = .ok (.slice A 60 c) w := run_subF_h A n c 60 (by omega) w
      go_wp2_with fail
      go_meet
      exact ⟨60, rfl, by omega, by omega, rfl⟩
    · have d0 : ¬ (60 : Int) < (n : Int) := by omega
      go_wp2_with fail
      go_meet
      exact ⟨n, rfl, by omega, by omega, rfl⟩
  case rest =>
    obtain ⟨m, rfl, hmn, hm60, rfl⟩ := hcut
    have HF0 := hide (HF.out.take hmn)
    have HS := hide (fun (x : Int) (W : World) (hb : Below wc.heap.size wc W) => same18_any A m c us x W (HF0.out.below hb) (by omega))
    clear HF
    go_wp2_with fail
    refine (few_any A m c us _ HF0.out (by omega)).mono ?_
    rintro e w1 ⟨A1, m1, c1, rfl, hm1, hr1, hb1⟩
    have B1 := hide hb1
    have HF1 := hide (RowF.read hr1 fun j hj => fewV_wf (us j))
    have hm2 : m1 ≤ 40 := by omega
    clear hr1 hb1 hm1
    have HT := hide (fun (x : Int) (W : World) (hb : Below w1.heap.size w1 W) => same18_any A1 m1 c1 (fewU us) x W (HF1.out.below hb) (by omega))
    go_wp2_with fail
    refine (HS.out a _ B1.out).mono ?_
    rintro e w2 ⟨rfl, hb2⟩
    have B2 := hide (B1.out.trans (hb2.mono B1.out.size))
    have C2 := hide hb2
    clear hb2
    have v1 : IntKind.i64.wrap ((m : Int) + 1) = (m : Int) + 1 := by rw [IntWalk.i64_in _ (by omega)]
    go_wp2_with fail
    refine (index_any a _ w2 (by omega) (by omega)).mono ?_
    rintro e w3 ⟨rfl, rfl⟩
    go_wp2_with fail
    refine (HS.out _ _ B2.out).mono ?_
    rintro e w3 ⟨rfl, hb3⟩
    have B3 := hide (B2.out.trans (hb3.mono B2.out.size))
    have C3 := hide (C2.out.trans (hb3.mono C2.out.size))
    clear hb3
    go_wp2_with fail
    go_loopw [6] (fun i wr => ∃ k : Int, -1 ≤ k ∧ k ≤ (m1 : Int) + 1 ∧ i = .int .i64 k ∧ Below wc.heap.size wc wr ∧ Below w1.heap.size w1 wr) (fun i _ => ((m1 : Int) + 1 - intOf i).toNat)
    case atStart => exact ⟨-1, by omega, by omega, rfl, B3.out, C3.out⟩
    case round =>
      obtain ⟨k, hk1, hk2, rfl, hb, hb'⟩ := hrel
      have HB := hide hb
      have HC := hide hb'
      clear hb hb'
      by_cases hlt : k ≤ (m1 : Int)
      · have v2 : IntKind.i64.wrap (k + 1) = k + 1 := by rw [IntWalk.i64_in _ (by omega)]
        go_wp2_with fail
        refine (HT.out k _ HC.out).mono ?_
        rintro e w5 ⟨rfl, hb5⟩
        have B5 := hide (HB.out.trans (hb5.mono HB.out.size))
        have C5 := hide (HC.out.trans (hb5.mono HC.out.size))
        clear hb5
        go_wp2_with fail
        go_roundw
        case rel => exact ⟨k + 1, by omega, by omega, rfl, B5.out, C5.out⟩
        case measure => simp [intOf]; omega
      · go_wp2_with fail
        refine (known18_any _).mono ?_
        rintro e w5 ⟨rfl, hb5⟩
        have B5 := hide (HB.out.trans (hb5.mono HB.out.size))
        clear hb5
        go_wp2_with fail
        go_ret
        exact ⟨rfl, B5.out⟩
end Go.Proofs.Ytfeflmpdbejhjaa
