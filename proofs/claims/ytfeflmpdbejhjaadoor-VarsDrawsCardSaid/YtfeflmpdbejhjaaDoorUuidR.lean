/- standishref13.uuid: five draws' digits with dashes between. -/
import Derived.Test.YtfeflmpdbejhjaaDoorDrwn
namespace Go.Proofs.YtfeflmpdbejhjaaDoor
open Go.RowKit
set_option linter.unusedVariables false

theorem outI_len (h : List Int) : ∀ i, (outI h i).length ≤ 3 * i
  | 0 => by simp [outI]
  | i + 1 => by
    have ih := outI_len h i
    have hd : (dashI i).length ≤ 2 := by
      unfold dashI
      split
      · simp
      · split
        · simp
        · split <;> simp
    unfold outI
    simp only [List.length_append, List.length_cons, List.length_nil]
    omega
theorem w32_out {h : List Int} (hw : W32 h) (i : Nat) : W32 (outI h i) := by
  induction i with
  | zero => exact W32.nil
  | succ i ih =>
    unfold outI
    refine (ih.app ?_).app (W32.one (hw.bd i))
    unfold dashI
    intro x hx
    split at hx
    · simp at hx; omega
    · split at hx
      · simp at hx; omega
      · split at hx
        · simp at hx; omega
        · cases hx

set_option maxRecDepth 100000 in
set_option maxHeartbeats 8000000 in
theorem ruuid_any (e : EnvH) (v : EnvV) (used : Nat) (hu : used ≤ 1000) (w : World) (h : EnvR w e v) (hd : DrOk v.d) :
    Calls Tryd.prog 31 #[e.v, .int .i64 ((used : Nat) : Int)] w (NewR w (uuidI (ru (hexs v.d used 5)))) := by
  obtain ⟨g, hg⟩ : ∃ g, w.heap.size = g := ⟨_, rfl⟩
  have hba := (Below.refl w.heap.size w).alloc (Nat.le_refl _) (.cells e.cells 26)
  have HB := hide hba
  have HX := hide (Box.newAt hg 26 e.cells)
  have HDRAW := hide (fun (W : World) (hb : Below (w.alloc (.cells e.cells 26)).heap.size (w.alloc (.cells e.cells 26)) W) (k : Nat) (hk : k ≤ 10) => show Calls Tryd.prog 29 #[e.v, .int .i64 (((used : Nat) : Int) + ((k : Nat) : Int))] W fun r w' => r = .returned (.int .i64 ((dN v.d (used + k) : Nat) : Int)) ∧ Below W.heap.size W w' from by
    have h := draw_any e v (used + k) (by omega) W ((h.below hba).below hb)
    rw [dN_eq hd, show ((used + k : Nat) : Int) = ((used : Nat) : Int) + ((k : Nat) : Int) by omega] at h
    exact h)
  have HV := hide (fun i => dN_lt hd (used + i))
  have HLN := hide (hexs_len v.d used)
  clear h hba hd
  unfold EnvH.v EnvH.cells at HDRAW
  unfold EnvH.v EnvH.cells
  unfold EnvH.cells at HB HX
  go_enter Tryd.func31, Tryd.ntmps31
  go_upto_region 1 with fail
  generalize w.alloc (.cells #[.slice (e.t 0).A (e.t 0).n (e.t 0).c, .slice (e.t 1).A (e.t 1).n (e.t 1).c, .slice (e.t 2).A (e.t 2).n (e.t 2).c, .slice (e.t 3).A (e.t 3).n (e.t 3).c, .slice (e.t 4).A (e.t 4).n (e.t 4).c, .slice (e.t 5).A (e.t 5).n (e.t 5).c, .int .i64 e.ix, .int .i64 (e.ck 0), .int .i64 (e.ck 1), .int .i64 (e.ck 2), .int .i64 (e.ck 3), .int .i64 (e.ck 4), .int .i64 (e.ck 5), .int .i64 (e.ck 6), .slice e.d.A e.d.n e.d.c] 26) = w1 at HB HX HDRAW ⊢
  have hgs : g ≤ w1.heap.size := by have := HB.out.size; omega
  go_wp2_with fail
  go_loopw [5, 7] (fun s5 s7 wr => ∃ (k : Nat) (A : Option Addr) (c : Nat), k ≤ 5 ∧ s7 = .int .i64 ((k : Nat) : Int) ∧ s5 = .slice A (6 * k) c ∧ Hid (Own wr w1.heap.size A (6 * k) c (ru (hexs v.d used k))) ∧ Hid (Below w1.heap.size w1 wr)) (fun _ s7 _ => 5 - (intOf s7).toNat)
  case atStart => exact ⟨0, none, 0, by omega, rfl, rfl, Own.nil _ _, Below.refl _ _⟩
  case round =>
    obtain ⟨k, A, c, hk, rfl, rfl, HO, HB1⟩ := hrel
    by_cases hlt : k < 5
    · have hlt2 : (k : Int) < 5 := by omega
      obtain ⟨x0, x1, x2, x3, x4, x5, x6, x7, x8, x9, x10, x11, x12, x13, x14⟩ := EnvH.at_ (HX.out.below HB1.out)
      have HC0 := hide (HDRAW.out wr HB1.out k (by omega))
      have HS := hide (show ru (hexs v.d used k) ++ ru (rowH (dN v.d (used + k)) 6) = ru (hexs v.d used (k + 1)) from by
        rw [show hexs v.d used (k + 1) = hexs v.d used k ++ rowH (dN v.d (used + k)) 6 from rfl]
        unfold ru
        rw [List.map_append])
      have hv0 := HV.out k
      generalize dN v.d (used + k) = V at HC0 hv0 HS
      have HH := hide (fun W => hex_any V (by omega) W)
      clear hv0
      have hsz1 := HB1.out.size
      have hs6 : 6 * k + 6 ≤ 1000 := by omega
      go_wp2_with (first
        | (go_at_call 29; (with_reducible refine HC0.out.mono ?_); rintro e w2 ⟨rfl, hb2⟩)
        | (go_at_call 30; (with_reducible refine (HH.out _).mono ?_); rintro e w3 ⟨A3, n3, c3, rfl, ho3, hb3⟩; (have hn3 : n3 = 6 := by have := ho3.len; rw [ru_len, rowH_len] at this; omega); subst hn3; have H3 := hide ho3.runes; have HB3 := hide ((HB1.out.trans (hb2.mono hsz1)).trans (hb3.mono (Nat.le_trans hsz1 hb2.size))); have HO3 := hide ((HO.out.below hb2).below hb3); clear ho3 hb3)
        | (at_builtin
           refine wpList_app rfl (.tmp 13) (.tmp 19) rfl w1.heap.size rfl HO3.out rfl H3.out (by omega) HB3.out.size ?_
           intro A4 c4 w4 ho4 hg4 hb4 hbk4 _))
      have HO4 := hide ho4
      have HB4 := hide (HB3.out.trans hb4)
      clear ho4 hg4 hb4 hbk4
      go_roundw
      case rel => exact ⟨k + 1, A4, c4, by omega, by go_num, by rw [show 6 * (k + 1) = 6 * k + 6 by omega], by rw [← HS.out, show 6 * (k + 1) = 6 * k + 6 by omega]; exact HO4.out, HB4.out⟩
      case measure => simp [intOf]; omega
    · have hk5 : k = 5 := by omega
      have hl : (ru (hexs v.d used k)).length = 30 := by rw [ru_len, HLN.out]; omega
      have HL := hide hl
      have hlt5 : ¬ (k : Int) < 5 := by omega
      have HH5 := hide (show ru (hexs v.d used 5) = ru (hexs v.d used k) from by rw [hk5])
      generalize ru (hexs v.d used k) = H at HO HL HH5
      have hN30 : 6 * k = 30 := by omega
      generalize 6 * k = N at HO hN30 ⊢
      obtain ⟨b, rfl, _, _⟩ : ∃ b, A = some ⟨b, 0, none⟩ ∧ w1.heap.size ≤ b ∧ b < wr.heap.size := by
        rcases HO.out.form with ⟨_, h0, _⟩ | ⟨b, h1, h2, h3⟩
        · omega
        · exact ⟨b, h1, h2, h3⟩
      have HR := hide HO.out.runes
      have HN30 := hide hN30
      clear hk5 hlt hN30
      clear hl HO
      go_wp2_with fail
      generalize wr = w5 at HB1 HR ⊢
      have hw5 := HB1.out.size
      go_loopw [6, 8] (fun s6 s8 wr => ∃ (i : Nat) (A : Option Addr) (n c : Nat), i ≤ N ∧ s8 = .int .i64 ((i : Nat) : Int) ∧ s6 = .slice A n c ∧ Hid (Own wr w5.heap.size A n c (outI H i)) ∧ Hid (Below w5.heap.size w5 wr)) (fun _ s8 _ => N - (intOf s8).toNat)
      case atStart => exact ⟨0, none, 0, 0, by omega, rfl, rfl, Own.nil _ _, Below.refl _ _⟩
      case round =>
        obtain ⟨i, A, n, c, hi, rfl, rfl, HO, HB2⟩ := hrel
        have hsz2 := HB2.out.size
        have hn : n ≤ 90 := by have h1 := HO.out.len; have h2 := outI_len H i; have h3 := HN30.out; omega
        have hn3 : i ≤ 30 := by have := HN30.out; omega
        by_cases hlt : i < N
        · have hlt2 : (i : Int) < (N : Int) := by omega
          have i0 : (0 : Int) ≤ (i : Int) := by omega
          obtain ⟨b', o', hA, hcell⟩ := (HR.out.below HB2.out).at_ i hlt
          obtain ⟨rfl, rfl⟩ : b = b' ∧ 0 = o' := by
            injection hA with h1
            injection h1 with h1 h2
            exact ⟨h1, h2⟩
          clear hA
          rw [Nat.zero_add] at hcell
          have hbx := (HR.out.below HB2.out).wf.bd i
          have HBX := hide hbx
          have hblt : b < wr.heap.size := World.block_lt_of_cell? wr _ hcell
          have HOUT := hide (show outI H (i + 1) = outI H i ++ dashI i ++ [nth H i] from rfl)
          have HCELL := hide (fun (W : World) (hb : Below w5.heap.size w5 W) => show W.cell? ⟨b, i, none⟩ = some (.int .i32 (nth H i)) from by
            obtain ⟨b2, o2, h1, h2⟩ := (HR.out.below hb).at_ i hlt
            injection h1 with h1
            injection h1 with h1 h3
            subst h1
            subst h3
            rw [Nat.zero_add] at h2
            exact h2)
          clear hbx
          generalize nth H i = x at hcell HBX HOUT HCELL
          by_cases h8 : i = 8
          case pos =>
            have d8 : decide ((i : Int) = 8) = true := by simp; omega
            have b8 : ((i : Int) == 8) = true := by simp; omega
            rw [show dashI i = [45] from by rw [h8]; decide] at HOUT
            clear h8
            go_wp2_with (first
              | (at_builtin
                 refine wpList_app rfl (.tmp 31) (.tmp 32) rfl w5.heap.size rfl (HO.out.alloc _) rfl (Runes.news _ _ _ [45] rfl (w32_of (by decide))) (by simp; omega) (by first | omega | (simp; omega)) ?_
                 intro A3 c3 w3 ho3 hg3 hb3 hbk3 _
                 have HO3 := hide ho3
                 have HB3 := hide ((HB2.out.alloc hsz2 (.cells #[.int .i32 45] 21)).trans hb3)
                 have hsz3 := HB3.out.size
                 have hcell3 := HCELL.out w3 HB3.out
                 clear ho3 hg3 hb3 hbk3)
              | (at_builtin
                 refine wpList_app rfl (.tmp 44) (.tmp 49) rfl w5.heap.size rfl (HO3.out.alloc _) rfl (Runes.news _ _ _ [x] rfl (W32.one HBX.out)) (by simp; omega) (by first | omega | (simp; omega)) ?_
                 intro A4 c4 w4 ho4 hg4 hb4 hbk4 _
                 have HO4 := hide ho4
                 have HB4 := hide ((HB3.out.alloc hsz3 (.cells #[.int .i32 x] 21)).trans hb4)
                 clear ho4 hg4 hb4 hbk4))
            go_roundw
            case rel => exact ⟨i + 1, A4, _, c4, by omega, by first | rfl | go_num, rfl, by rw [HOUT.out]; exact HO4.out, HB4.out⟩
            case measure => simp [intOf]; omega
          case neg =>
          by_cases h18 : i = 18
          case pos =>
            have n8 : ¬ (i : Int) = 8 := by omega
            have b8 : ((i : Int) == 8) = false := by simpa using n8
            have d18 : decide ((i : Int) = 18) = true := by simp; omega
            have b18 : ((i : Int) == 18) = true := by simp; omega
            rw [show dashI i = [45] from by rw [h18]; decide] at HOUT
            clear h18
            go_wp2_with (first
              | (at_builtin
                 refine wpList_app rfl (.tmp 31) (.tmp 32) rfl w5.heap.size rfl (HO.out.alloc _) rfl (Runes.news _ _ _ [45] rfl (w32_of (by decide))) (by simp; omega) (by first | omega | (simp; omega)) ?_
                 intro A3 c3 w3 ho3 hg3 hb3 hbk3 _
                 have HO3 := hide ho3
                 have HB3 := hide ((HB2.out.alloc hsz2 (.cells #[.int .i32 45] 21)).trans hb3)
                 have hsz3 := HB3.out.size
                 have hcell3 := HCELL.out w3 HB3.out
                 clear ho3 hg3 hb3 hbk3)
              | (at_builtin
                 refine wpList_app rfl (.tmp 44) (.tmp 49) rfl w5.heap.size rfl (HO3.out.alloc _) rfl (Runes.news _ _ _ [x] rfl (W32.one HBX.out)) (by simp; omega) (by first | omega | (simp; omega)) ?_
                 intro A4 c4 w4 ho4 hg4 hb4 hbk4 _
                 have HO4 := hide ho4
                 have HB4 := hide ((HB3.out.alloc hsz3 (.cells #[.int .i32 x] 21)).trans hb4)
                 clear ho4 hg4 hb4 hbk4))
            go_roundw
            case rel => exact ⟨i + 1, A4, _, c4, by omega, by first | rfl | go_num, rfl, by rw [HOUT.out]; exact HO4.out, HB4.out⟩
            case measure => simp [intOf]; omega
          case neg =>
          by_cases h12 : i = 12
          case pos =>
            have n8 : ¬ (i : Int) = 8 := by omega
            have b8 : ((i : Int) == 8) = false := by simpa using n8
            have n18 : ¬ (i : Int) = 18 := by omega
            have b18 : ((i : Int) == 18) = false := by simpa using n18
            have d12 : decide ((i : Int) = 12) = true := by simp; omega
            have b12 : ((i : Int) == 12) = true := by simp; omega
            rw [show dashI i = [45, 52] from by rw [h12]; decide] at HOUT
            clear h12
            go_wp2_with (first
              | (at_builtin
                 refine wpList_app rfl (.tmp 36) (.tmp 37) rfl w5.heap.size rfl (HO.out.alloc _) rfl (Runes.news _ _ _ [45, 52] rfl (w32_of (by decide))) (by simp; omega) (by first | omega | (simp; omega)) ?_
                 intro A3 c3 w3 ho3 hg3 hb3 hbk3 _
                 have HO3 := hide ho3
                 have HB3 := hide ((HB2.out.alloc hsz2 (.cells #[.int .i32 45, .int .i32 52] 21)).trans hb3)
                 have hsz3 := HB3.out.size
                 have hcell3 := HCELL.out w3 HB3.out
                 clear ho3 hg3 hb3 hbk3)
              | (at_builtin
                 refine wpList_app rfl (.tmp 44) (.tmp 49) rfl w5.heap.size rfl (HO3.out.alloc _) rfl (Runes.news _ _ _ [x] rfl (W32.one HBX.out)) (by simp; omega) (by first | omega | (simp; omega)) ?_
                 intro A4 c4 w4 ho4 hg4 hb4 hbk4 _
                 have HO4 := hide ho4
                 have HB4 := hide ((HB3.out.alloc hsz3 (.cells #[.int .i32 x] 21)).trans hb4)
                 clear ho4 hg4 hb4 hbk4))
            go_roundw
            case rel => exact ⟨i + 1, A4, _, c4, by omega, by first | rfl | go_num, rfl, by rw [HOUT.out]; exact HO4.out, HB4.out⟩
            case measure => simp [intOf]; omega
          case neg =>
          by_cases h15 : i = 15
          case pos =>
            have n8 : ¬ (i : Int) = 8 := by omega
            have b8 : ((i : Int) == 8) = false := by simpa using n8
            have n18 : ¬ (i : Int) = 18 := by omega
            have b18 : ((i : Int) == 18) = false := by simpa using n18
            have n12 : ¬ (i : Int) = 12 := by omega
            have b12 : ((i : Int) == 12) = false := by simpa using n12
            have d15 : decide ((i : Int) = 15) = true := by simp; omega
            have b15 : ((i : Int) == 15) = true := by simp; omega
            rw [show dashI i = [45, 56] from by rw [h15]; decide] at HOUT
            clear h15
            go_wp2_with (first
              | (at_builtin
                 refine wpList_app rfl (.tmp 41) (.tmp 42) rfl w5.heap.size rfl (HO.out.alloc _) rfl (Runes.news _ _ _ [45, 56] rfl (w32_of (by decide))) (by simp; omega) (by first | omega | (simp; omega)) ?_
                 intro A3 c3 w3 ho3 hg3 hb3 hbk3 _
                 have HO3 := hide ho3
                 have HB3 := hide ((HB2.out.alloc hsz2 (.cells #[.int .i32 45, .int .i32 56] 21)).trans hb3)
                 have hsz3 := HB3.out.size
                 have hcell3 := HCELL.out w3 HB3.out
                 clear ho3 hg3 hb3 hbk3)
              | (at_builtin
                 refine wpList_app rfl (.tmp 44) (.tmp 49) rfl w5.heap.size rfl (HO3.out.alloc _) rfl (Runes.news _ _ _ [x] rfl (W32.one HBX.out)) (by simp; omega) (by first | omega | (simp; omega)) ?_
                 intro A4 c4 w4 ho4 hg4 hb4 hbk4 _
                 have HO4 := hide ho4
                 have HB4 := hide ((HB3.out.alloc hsz3 (.cells #[.int .i32 x] 21)).trans hb4)
                 clear ho4 hg4 hb4 hbk4))
            go_roundw
            case rel => exact ⟨i + 1, A4, _, c4, by omega, by first | rfl | go_num, rfl, by rw [HOUT.out]; exact HO4.out, HB4.out⟩
            case measure => simp [intOf]; omega
          case neg =>
          have n8 : ¬ (i : Int) = 8 := by omega
          have b8 : ((i : Int) == 8) = false := by simpa using n8
          have n18 : ¬ (i : Int) = 18 := by omega
          have b18 : ((i : Int) == 18) = false := by simpa using n18
          have n12 : ¬ (i : Int) = 12 := by omega
          have b12 : ((i : Int) == 12) = false := by simpa using n12
          have n15 : ¬ (i : Int) = 15 := by omega
          have b15 : ((i : Int) == 15) = false := by simpa using n15
          rw [show dashI i = [] from by unfold dashI; rw [if_neg (by omega), if_neg (by omega), if_neg (by omega)], List.append_nil] at HOUT
          go_wp2_with (at_builtin
                       refine wpList_app rfl (.tmp 44) (.tmp 49) rfl w5.heap.size rfl (HO.out.alloc _) rfl (Runes.news _ _ _ [x] rfl (W32.one HBX.out)) (by simp; omega) (by first | omega | (simp; omega)) ?_
                       intro A4 c4 w4 ho4 hg4 hb4 hbk4 _
                       have HO4 := hide ho4
                       have HB4 := hide ((HB2.out.alloc hsz2 (.cells #[.int .i32 x] 21)).trans hb4)
                       clear ho4 hg4 hb4 hbk4)
          go_roundw
          case rel => exact ⟨i + 1, A4, _, c4, by omega, by first | rfl | go_num, rfl, by rw [HOUT.out]; exact HO4.out, HB4.out⟩
          case measure => simp [intOf]; omega
        · have hi30 : i = 30 := by have := HN30.out; omega
          have HE := hide (show outI H i = uuidI H from by rw [hi30]; exact outI_all HL.out)
          have hlt2 : ¬ (i : Int) < (N : Int) := by omega
          clear hi30
          go_wp2_with fail
          go_ret
          refine ⟨A, n, c, rfl, ?_, HB.out.trans ((HB1.out.trans (HB2.out.mono hw5)).mono HB.out.size)⟩
          rw [HH5.out, ← HE.out]
          exact HO.out.mono (by have := HB.out.size; omega)
        end Go.Proofs.YtfeflmpdbejhjaaDoor
