/- vars.drawn, and the function that it draws by. -/
import Derived.Test.YtfeflmpdbejhjaaDoorDrwP
import Derived.BigQuiet
namespace Go.Proofs.YtfeflmpdbejhjaaDoor
open Go.RowKit
set_option linter.unusedVariables false

set_option maxRecDepth 100000 in
set_option maxHeartbeats 2000000 in
theorem closure_any (e : EnvH) (v : EnvV) (gU gE used i : Nat) (hu : used + i ≤ 1000000) (w : World) (h : EnvR w e v) (hd : DrOk v.d) (hU : w.cell? ⟨gU, 0, none⟩ = some (.int .i64 ((used : Nat) : Int))) (hE : w.cell? ⟨gE, 14, none⟩ = some (.slice e.d.A e.d.n e.d.c)) :
    Calls Tryd.prog 23 #[.int .i64 ((i : Nat) : Int), .pointer (some ⟨gU, 0, none⟩), .pointer (some ⟨gE, 0, none⟩)] w fun r w' => r = .returned (.int .i64 ((dN v.d (used + i) : Nat) : Int)) ∧ w = w' := by
  have HL := hide h.dr.len
  have HDR := hide h.dr
  have hn := h.dn
  have HV := hide (dN_eq hd (used + i))
  have e1 : ((used : Nat) : Int) + ((i : Nat) : Int) = ((used + i : Nat) : Int) := by omega
  clear h hd
  generalize dN v.d (used + i) = V at HV ⊢
  generalize hk : used + i = k at HV e1 hu
  clear hk
  go_enter Tryd.func23, Tryd.ntmps23
  by_cases hlt : k < e.d.n
  · have i0 : (0 : Int) ≤ (k : Int) := by omega
    have i1 : (k : Int) < (e.d.n : Int) := by omega
    have i2 : ((used : Nat) : Int) + ((i : Nat) : Int) < (e.d.n : Int) := by omega
    have i3 : (0 : Int) ≤ ((used : Nat) : Int) + ((i : Nat) : Int) := by omega
    obtain ⟨b, o, hA, hc⟩ := HDR.out.at_ k hlt
    have hV2 : nth v.d k = ((V : Nat) : Int) := by
      have := HV.out
      unfold drawS at this
      rwa [if_pos (by rw [HL.out]; exact hlt)] at this
    have e2 : o + (((used : Nat) : Int) + ((i : Nat) : Int)).toNat = o + k := by omega
    rw [hV2] at hc
    rw [hA] at hE
    clear hV2 hA
    go_wp2_with fail
    go_ret
    exact ⟨rfl, rfl⟩
  · have i2 : ¬ ((used : Nat) : Int) + ((i : Nat) : Int) < (e.d.n : Int) := by omega
    have hV2 : V = 0 := by
      have := HV.out
      unfold drawS at this
      rw [if_neg (by rw [HL.out]; exact hlt)] at this
      omega
    subst hV2
    go_wp2_with fail
    go_ret
    exact ⟨rfl, rfl⟩

theorem ba_app (l r : List UInt8) : (⟨l.toArray⟩ : ByteArray) ++ ⟨r.toArray⟩ = ⟨(l ++ r).toArray⟩ := by
  apply ByteArray.ext
  simp [ByteArray.data_append]
theorem ba_cut (l : List UInt8) (a b : Nat) : (⟨l.toArray⟩ : ByteArray).extract a b = ⟨((l.take b).drop a).toArray⟩ := by
  apply ByteArray.ext
  simp [List.drop_take]

/-- Cuts of a string of thirty bytes. -/
theorem cut_h (h : List UInt8) (hl : h.length = 30) (m : Nat) (hm : m ≤ 30) (W : World) : (Instr.slice 9 (.string ⟨h.toArray⟩) none (some (.int .i64 ((m : Nat) : Int))) none).run Tryd.prog W = .ok (.string ⟨(h.take m).toArray⟩) W := by
  rw [run_slice_string_h W 9 _ Tryd.underlying9 .i64 _ (by omega) (by rw [ba_size, hl]; omega), ba_cut]
  rfl
theorem cut_l (h : List UInt8) (hl : h.length = 30) (m : Nat) (hm : m ≤ 30) (W : World) : (Instr.slice 9 (.string ⟨h.toArray⟩) (some (.int .i64 ((m : Nat) : Int))) none none).run Tryd.prog W = .ok (.string ⟨(h.drop m).toArray⟩) W := by
  rw [run_slice_string_l W 9 _ Tryd.underlying9 .i64 _ (by omega) (by rw [ba_size, hl]; omega), ba_cut, ba_size, List.take_length]
  rfl
theorem cut_lh (h : List UInt8) (hl : h.length = 30) (a m : Nat) (hm : a + m ≤ 30) (W : World) : (Instr.slice 9 (.string ⟨h.toArray⟩) (some (.int .i64 ((a : Nat) : Int))) (some (.int .i64 ((a + m : Nat) : Int))) none).run Tryd.prog W = .ok (.string ⟨((h.drop a).take m).toArray⟩) W := by
  rw [run_slice_string W 9 _ .i64 .i64 _ _ Tryd.underlying9 (by omega) (by omega) (by rw [ba_size, hl]; omega), ba_cut]
  have e : ((a + m : Nat) : Int).toNat = a + m := by omega
  have e2 : ((a : Nat) : Int).toNat = a := by omega
  rw [e, e2, List.drop_take, Nat.add_sub_cancel_left]

theorem uuid_ba (h : List UInt8) : (((((((((⟨(h.take 8).toArray⟩ : ByteArray) ++ ⟨#[45]⟩) ++ ⟨((h.drop 8).take 4).toArray⟩) ++ ⟨#[45, 52]⟩) ++ ⟨((h.drop 12).take 3).toArray⟩) ++ ⟨#[45, 56]⟩) ++ ⟨((h.drop 15).take 3).toArray⟩) ++ ⟨#[45]⟩) ++ ⟨(h.drop 18).toArray⟩) = ⟨(uuidB h).toArray⟩ := by
  unfold uuidB
  rw [← ba_app, ← ba_app, ← ba_app, ← ba_app, ← ba_app, ← ba_app, ← ba_app, ← ba_app]

set_option maxRecDepth 100000 in
set_option maxHeartbeats 4000000 in
theorem drawn_any (e : EnvH) (v : EnvV) (gU gE used : Nat) (hu : used ≤ 1000) (S : ByteArray) (w : World) (h : EnvR w e v) (hd : DrOk v.d) (hT : Tabs w) (hU : w.cell? ⟨gU, 0, none⟩ = some (.int .i64 ((used : Nat) : Int))) (hE : w.cell? ⟨gE, 14, none⟩ = some (.slice e.d.A e.d.n e.d.c)) :
    Calls Tryd.prog 24 #[.func (.func 23) #[] #[.pointer (some ⟨gU, 0, none⟩), .pointer (some ⟨gE, 0, none⟩)], .string S] w fun r w' => r = .returned (.tuple #[.string ⟨(drawnB v.d used S.toList).1.toArray⟩, .int .i64 (((drawnB v.d used S.toList).2 : Nat) : Int)]) ∧ Below w.heap.size w w' := by
  have HC := hide (fun (W : World) (hb : Below w.heap.size w W) (i : Nat) (hi : i ≤ 10) => closure_any e v gU gE used i (by omega) W (h.below hb) hd ((hb.cell (World.block_lt_of_cell? w _ hU)).trans hU) ((hb.cell (World.block_lt_of_cell? w _ hE)).trans hE))
  have HT := hide (fun (W : World) (hb : Below w.heap.size w W) => hT.below hb)
  have HV := hide (fun i => dN_lt hd (used + i))
  have HLN := hide (hexs_len v.d used)
  obtain ⟨o, ho⟩ : ∃ o, drawnB v.d used S.toList = o := ⟨_, rfl⟩
  rw [ho]
  unfold drawnB at ho
  clear h hd hT hU hE
  go_enter Tryd.func24, Tryd.ntmps24
  cases h0 : (S.toList == [82, 65, 78, 68, 79, 77])
  case true =>
    have HO := hide (show o = (padD (dN v.d used % 1000000) 6, 1) from by rw [← ho]; simp only [h0]; rfl)
    clear ho
    have HC0 := hide (show Calls Tryd.prog 23 #[.int .i64 0, .pointer (some ⟨gU, 0, none⟩), .pointer (some ⟨gE, 0, none⟩)] w fun r w' => r = .returned (.int .i64 ((dN v.d used : Nat) : Int)) ∧ w = w' from HC.out w (Below.refl _ _) 0 (by omega))
    have hv0 := HV.out 0
    rw [Nat.add_zero] at hv0
    generalize dN v.d used = V at HO HC0 hv0
    have HP := hide (show Calls Tryd.prog 41 #[.int .i64 (((V : Nat) : Int) % 1000000), .int .i64 10, .int .i64 6] w fun e w' => e = .returned (.string ⟨(padD (V % 1000000) 6).toArray⟩) ∧ Below w.heap.size w w' from by
      have h := padded10_any (V % 1000000) 6 (by omega) (by omega) w (HT.out w (Below.refl _ _))
      rw [show ((V % 1000000 : Nat) : Int) = ((V : Nat) : Int) % 1000000 by omega] at h
      exact h)
    go_wp2_with (first
      | (go_at_call 23; (with_reducible refine HC0.out.mono ?_); rintro e w' ⟨rfl, rfl⟩)
      | (go_at_call 41; (with_reducible refine HP.out.mono ?_); rintro e w2 ⟨rfl, hb⟩))
    go_ret2
    rw [HO.out]
    exact ⟨rfl, hb⟩
  case false =>
  cases h1 : (S.toList == [82, 65, 78, 68, 79, 77, 95, 72, 69, 88])
  case true =>
    have HO := hide (show o = (rowH (dN v.d used) 6, 1) from by rw [← ho]; simp only [h0, h1]; rfl)
    clear ho
    have HC0 := hide (show Calls Tryd.prog 23 #[.int .i64 0, .pointer (some ⟨gU, 0, none⟩), .pointer (some ⟨gE, 0, none⟩)] w fun r w' => r = .returned (.int .i64 ((dN v.d used : Nat) : Int)) ∧ w = w' from HC.out w (Below.refl _ _) 0 (by omega))
    have hv0 := HV.out 0
    rw [Nat.add_zero] at hv0
    generalize dN v.d used = V at HO HC0 hv0
    have HP := hide (padded16_any V (by omega) w (HT.out w (Below.refl _ _)))
    go_wp2_with (first
      | (go_at_call 23; (with_reducible refine HC0.out.mono ?_); rintro e w' ⟨rfl, rfl⟩)
      | (go_at_call 41; (with_reducible refine HP.out.mono ?_); rintro e w2 ⟨rfl, hb⟩))
    go_ret2
    rw [HO.out]
    exact ⟨rfl, hb⟩
  case false =>
  cases h2 : (S.toList == [85, 85, 73, 68])
  case true =>
    have HO := hide (show o = (uuidB (hexs v.d used 5), 5) from by rw [← ho]; simp only [h0, h1, h2]; rfl)
    clear ho
    go_wp2_with fail
    go_loopw [6, 7, 22] (fun s _ i wr => ∃ k : Nat, k ≤ 5 ∧ i = .int .i64 ((k : Nat) : Int) ∧ s = .string ⟨(hexs v.d used k).toArray⟩ ∧ Hid (Below w.heap.size w wr)) (fun _ _ i _ => 5 - (intOf i).toNat)
    case atStart => exact ⟨0, by omega, rfl, rfl, Below.refl _ _⟩
    case round =>
      obtain ⟨k, hk, rfl, rfl, HB⟩ := hrel
      by_cases hlt : k < 5
      · have hlt2 : (k : Int) < 5 := by omega
        have HC0 := hide (HC.out wr HB.out k (by omega))
        have HS := hide (show (⟨(hexs v.d used k).toArray⟩ : ByteArray) ++ ⟨(rowH (dN v.d (used + k)) 6).toArray⟩ = ⟨(hexs v.d used (k + 1)).toArray⟩ from ba_app _ _)
        have hv0 := HV.out k
        generalize dN v.d (used + k) = V at HC0 hv0 HS
        have HP := hide (padded16_any V (by omega) wr (HT.out wr HB.out))
        clear hv0
        have hno : ¬ 9223372036854775807 < (⟨(hexs v.d used k).toArray⟩ : ByteArray).size + (⟨(rowH V 6).toArray⟩ : ByteArray).size := by
          rw [ba_size, ba_size, HLN.out, rowH_len]
          omega
        generalize (⟨(rowH V 6).toArray⟩ : ByteArray) = R at HS HP hno
        generalize (⟨(hexs v.d used k).toArray⟩ : ByteArray) = P at HS hno ⊢
        go_wp2_with (first
          | (go_at_call 23; (with_reducible refine HC0.out.mono ?_); rintro e w' ⟨rfl, rfl⟩)
          | (go_at_call 41; (with_reducible refine HP.out.mono ?_); rintro e w2 ⟨rfl, hb⟩))
        go_roundw
        case rel => exact ⟨k + 1, by omega, by go_num, by rw [HS.out], HB.out.trans (hb.mono HB.out.size)⟩
        case measure => simp [intOf]; omega
      · have hk5 : k = 5 := by omega
        subst hk5
        have hl : (hexs v.d used 5).length = 30 := HLN.out 5
        generalize hexs v.d used 5 = H at hl HO
        have s1 : ∀ W, (Instr.slice 9 (.string ⟨H.toArray⟩) none (some (.int .i64 8)) none).run Tryd.prog W = .ok (.string ⟨(H.take 8).toArray⟩) W := fun W => cut_h H hl 8 (by omega) W
        have s2 : ∀ W, (Instr.slice 9 (.string ⟨H.toArray⟩) (some (.int .i64 8)) (some (.int .i64 12)) none).run Tryd.prog W = .ok (.string ⟨((H.drop 8).take 4).toArray⟩) W := fun W => cut_lh H hl 8 4 (by omega) W
        have s3 : ∀ W, (Instr.slice 9 (.string ⟨H.toArray⟩) (some (.int .i64 12)) (some (.int .i64 15)) none).run Tryd.prog W = .ok (.string ⟨((H.drop 12).take 3).toArray⟩) W := fun W => cut_lh H hl 12 3 (by omega) W
        have s4 : ∀ W, (Instr.slice 9 (.string ⟨H.toArray⟩) (some (.int .i64 15)) (some (.int .i64 18)) none).run Tryd.prog W = .ok (.string ⟨((H.drop 15).take 3).toArray⟩) W := fun W => cut_lh H hl 15 3 (by omega) W
        have s5 : ∀ W, (Instr.slice 9 (.string ⟨H.toArray⟩) (some (.int .i64 18)) none none).run Tryd.prog W = .ok (.string ⟨(H.drop 18).toArray⟩) W := fun W => cut_l H hl 18 (by omega) W
        have HU := hide (uuid_ba H)
        have z1 : (⟨(H.take 8).toArray⟩ : ByteArray).size = 8 := by rw [ba_size]; simp [hl]
        have z2 : (⟨((H.drop 8).take 4).toArray⟩ : ByteArray).size = 4 := by rw [ba_size]; simp [hl]
        have z3 : (⟨((H.drop 12).take 3).toArray⟩ : ByteArray).size = 3 := by rw [ba_size]; simp [hl]
        have z4 : (⟨((H.drop 15).take 3).toArray⟩ : ByteArray).size = 3 := by rw [ba_size]; simp [hl]
        have z5 : (⟨(H.drop 18).toArray⟩ : ByteArray).size = 12 := by rw [ba_size]; simp [hl]
        generalize (⟨(H.take 8).toArray⟩ : ByteArray) = P1 at s1 z1 HU
        generalize (⟨((H.drop 8).take 4).toArray⟩ : ByteArray) = P2 at s2 z2 HU
        generalize (⟨((H.drop 12).take 3).toArray⟩ : ByteArray) = P3 at s3 z3 HU
        generalize (⟨((H.drop 15).take 3).toArray⟩ : ByteArray) = P4 at s4 z4 HU
        generalize (⟨(H.drop 18).toArray⟩ : ByteArray) = P5 at s5 z5 HU
        generalize (⟨H.toArray⟩ : ByteArray) = P at s1 s2 s3 s4 s5 ⊢
        clear hl
        go_wp2_with fail
        go_quiet (fail)
        go_wp2
        go_ret2
        rw [HO.out, ← HU.out]
        exact ⟨rfl, belowD HB.out _⟩
  case false =>
  have HO := hide (show o = ([], 0) from by rw [← ho]; simp only [h0, h1, h2]; rfl)
  clear ho
  go_wp2_with fail
  go_ret2
  rw [HO.out]
  exact ⟨rfl, Below.refl _ _⟩
end Go.Proofs.YtfeflmpdbejhjaaDoor
