/- standishref13.Value: what a variable tells. -/
import Derived.Test.YtfeflmpdbejhjaaDoorValV
import Derived.Deep.LoopGhost
import Derived.Laws.Runes
namespace Go.Proofs.YtfeflmpdbejhjaaDoor
open Go.RowKit
set_option linter.unusedVariables false

theorem valS_rnd {v : EnvV} {S : List UInt8} {u : Nat} (h : (S == [82, 65, 78, 68, 79, 77]) = true) : valS v S u = (some (ru (padD (dN v.d u % 1000000) 6)), u + 1) := by
  unfold valS drawnB
  rw [h]
  rfl
theorem valS_hex {v : EnvV} {S : List UInt8} {u : Nat} (h0 : (S == [82, 65, 78, 68, 79, 77]) = false) (h : (S == [82, 65, 78, 68, 79, 77, 95, 72, 69, 88]) = true) : valS v S u = (some (ru (rowH (dN v.d u) 6)), u + 1) := by
  unfold valS drawnB
  rw [h0, h]
  rfl
theorem valS_uid {v : EnvV} {S : List UInt8} {u : Nat} (h0 : (S == [82, 65, 78, 68, 79, 77]) = false) (h1 : (S == [82, 65, 78, 68, 79, 77, 95, 72, 69, 88]) = false) (h : (S == [85, 85, 73, 68]) = true) : valS v S u = (some (uuidI (ru (hexs v.d u 5))), u + 5) := by
  unfold valS drawnB
  rw [h0, h1, h, ← ru_uuid]
  rfl
theorem valS_txt {v : EnvV} {S : List UInt8} {u : Nat} (h0 : (S == [82, 65, 78, 68, 79, 77]) = false) (h1 : (S == [82, 65, 78, 68, 79, 77, 95, 72, 69, 88]) = false) (h : (S == [85, 85, 73, 68]) = false) : valS v S u = (sel (toldL v (uN v) (cN v)) S, u) := by
  unfold valS drawnB
  rw [h0, h1, h]
  rfl
theorem bytes_size (l : List Int) : (runesBytes l).size ≤ 4 * l.length := by
  unfold runesBytes
  have h := Go.foldl_size_le l ByteArray.empty
  have h0 : ByteArray.empty.size = 0 := rfl
  omega
theorem bytes_take {l : List Int} {i : Nat} (h : i < l.length) : runesBytes (l.take i) ++ Utf8.encode (nth l i) = runesBytes (l.take (i + 1)) := by
  rw [take_snoc h, runesBytes_snoc]
theorem name_bad {l : List Int} {j : Nat} (hj : j < l.length) (h : nameR (nth l j) = false ∨ 40 < j) : nameS l = false := by
  unfold nameS
  rcases h with h | h
  · have : l.all nameR = false := by
      rw [Bool.eq_false_iff]
      intro hh
      rw [List.all_eq_true] at hh
      rw [hh _ (nth_mem hj)] at h
      cases h
    rw [this, Bool.false_and]
  · rw [decide_eq_false (by omega), Bool.and_false]
theorem name_good {l : List Int} (h : ∀ j, j < l.length → nameR (nth l j) = true ∧ j ≤ 40) : nameS l = true := by
  unfold nameS
  rw [Bool.and_eq_true, decide_eq_true_eq, List.all_eq_true]
  refine ⟨fun x hx => ?_, ?_⟩
  · obtain ⟨j, hj, rfl⟩ := mem_nth hx
    exact (h j hj).1
  · rcases Nat.lt_or_ge 41 l.length with h1 | h1
    · have := (h 41 h1).2
      omega
    · exact h1
theorem val_new {w w5 w6 : World} {A : Option Addr} {n c : Nat} {l : List Int} (hb : Below w.heap.size w w5) (hb6 : Below w5.heap.size w5 w6) (ho : Own w6 w5.heap.size A n c l) {x : Option (List Int) × Int} {u : Int} (e : x = (some l, u)) : ValR w x.1 x.2 (.returned (.tuple #[.slice A n c, .bool true, .int .i64 u])) w6 := by
  subst e
  exact ⟨_, _, _, rfl, ho.mono hb.size, hb.trans (hb6.mono hb.size)⟩

set_option maxRecDepth 100000 in
set_option maxHeartbeats 8000000 in
theorem rvalue_any (e : EnvH) (v : EnvV) (A : Option Addr) (n c : Nat) (l : List Int) (used : Int) (w : World) (hE : EnvR w e v) (hl : Runes w A n l) (hn : n ≤ 35184372088832) (hT : Tabs w) :
    Calls Tryd.prog 18 #[e.v, .slice A n c, .int .i64 used] w (ValR w (valE v l used).1 (valE v l used).2) := by
  obtain ⟨g, hg⟩ : ∃ g, w.heap.size = g := ⟨_, rfl⟩
  have hb1 := (Below.refl w.heap.size w).alloc (Nat.le_refl _) (.cells e.cells 26)
  have HB := hide hb1
  have HX := hide (Box.newAt hg 26 e.cells)
  have HE := hide (hE.below hb1)
  have HL := hide (hl.below hb1)
  have HLN := hide hl.len
  have HT := hide (hT.below hb1)
  clear hb1 hE hl hT
  unfold EnvH.v EnvH.cells
  unfold EnvH.cells at HB HX HE HL HT
  go_enter Tryd.func18, Tryd.ntmps18
  go_upto_region 1 with fail
  generalize w.alloc (.cells #[.slice (e.t 0).A (e.t 0).n (e.t 0).c, .slice (e.t 1).A (e.t 1).n (e.t 1).c, .slice (e.t 2).A (e.t 2).n (e.t 2).c, .slice (e.t 3).A (e.t 3).n (e.t 3).c, .slice (e.t 4).A (e.t 4).n (e.t 4).c, .slice (e.t 5).A (e.t 5).n (e.t 5).c, .int .i64 e.ix, .int .i64 (e.ck 0), .int .i64 (e.ck 1), .int .i64 (e.ck 2), .int .i64 (e.ck 3), .int .i64 (e.ck 4), .int .i64 (e.ck 5), .int .i64 (e.ck 6), .slice e.d.A e.d.n e.d.c] 26) = w2 at HB HX HE HL HT ⊢
  have HP := hide (mayEnv_any e v w2 HE.out)
  unfold EnvH.v EnvH.cells at HP
  go_wp2_with fail
  go_loop [9, 10] (fun s9 s10 => ∃ i : Nat, i ≤ n ∧ s10 = .int .i64 ((i : Nat) : Int) ∧ s9 = .string (runesBytes (l.take i)) ∧ Hid (∀ j, j < i → nameR (nth l j) = true ∧ j ≤ 40)) (fun _ s10 => n - (intOf s10).toNat)
  case atStart => exact ⟨0, by omega, rfl, rfl, fun j hj => absurd hj (by omega)⟩
  case round =>
    obtain ⟨i, hi, rfl, rfl, HJ⟩ := hrel
    by_cases hlt : i < n
    · have hi40 : i ≤ 41 := by
        rcases Nat.lt_or_ge 41 i with h | h
        · have := (HJ.out 41 h).2
          omega
        · exact h
      have hlt2 : (i : Int) < (n : Int) := by omega
      have i0 : (0 : Int) ≤ (i : Int) := by omega
      obtain ⟨b, o, rfl, hc⟩ := HL.out.at_ i hlt
      have HBX := hide (HL.out.wf.bd i)
      have HSZ := hide (bytes_size (l.take i))
      have HNX := hide (bytes_take (l := l) (i := i) (by rw [HLN.out]; exact hlt))
      have hsz : (runesBytes (l.take i)).size ≤ 164 := by have h1 := HSZ.out; rw [List.length_take] at h1; omega
      have hez := Go.encode_size_le (nth l i)
      have HBAD := hide (fun (h : nameR (nth l i) = false ∨ 40 < i) => valE_bad (v := v) (name_bad (l := l) (j := i) (by rw [HLN.out]; exact hlt) h) used)
      have HJ2 := hide (fun (h : nameR (nth l i) = true ∧ i ≤ 40) => show ∀ j, j < i + 1 → nameR (nth l j) = true ∧ j ≤ 40 from fun j hj => by
        rcases Nat.lt_succ_iff_lt_or_eq.1 hj with h1 | h1
        · exact HJ.out j h1
        · rw [h1]; exact h)
      unfold nameR at HBAD HJ2
      generalize nth l i = x at hc HBX HNX hez HBAD HJ2
      have hno : ¬ 9223372036854775807 < (runesBytes (l.take i)).size + (Utf8.encode x).size := by omega
      generalize runesBytes (l.take i) = P at HNX hno ⊢
      clear hsz hez HSZ HJ
      by_cases h40 : 40 < i
      case pos =>
        have k40 : (40 : Int) < (i : Int) := by omega
        by_cases x95 : x = 95
        case pos =>
          subst x95
          have HA := hide (HBAD.out (by right; omega))
          clear HBAD HJ2
          go_wp2_with fail
          go_ret3
          exact val_none HB.out HA.out
        case neg =>
          by_cases xl : x < 65
          case pos =>

            have HA := hide (HBAD.out (by right; omega))
            clear HBAD HJ2
            go_wp2_with fail
            go_ret3
            exact val_none HB.out HA.out
          case neg =>
            by_cases xh : 90 < x
            case pos =>

              have HA := hide (HBAD.out (by right; omega))
              clear HBAD HJ2
              go_wp2_with fail
              go_ret3
              exact val_none HB.out HA.out
            case neg =>

              have HA := hide (HBAD.out (by right; omega))
              clear HBAD HJ2
              go_wp2_with fail
              go_ret3
              exact val_none HB.out HA.out
      case neg =>
        have k40 : ¬ (40 : Int) < (i : Int) := by omega
        by_cases x95 : x = 95
        case pos =>
          subst x95
          have hcvx : ∀ W, (convert 21 9 (.int .i32 95)).run Tryd.prog W = .ok (.string (Utf8.encode 95)) W := fun W => run_convert_int_string W 21 9 .i32 95 (by rw [Tryd.underlying21]; rfl) Tryd.underlying9
          have HJ3 := hide (HJ2.out (by simp; omega))
          clear HBAD HJ2
          generalize Utf8.encode 95 = E at HNX hno hcvx
          go_wp2_with fail
          go_round
          case rel => exact ⟨i + 1, by omega, by go_num, by rw [HNX.out], HJ3.out⟩
          case measure => simp [intOf]; omega
        case neg =>
          by_cases xl : x < 65
          case pos =>

            have HA := hide (HBAD.out (by left; simp; omega))
            clear HBAD HJ2
            go_wp2_with fail
            go_ret3
            exact val_none HB.out HA.out
          case neg =>
            by_cases xh : 90 < x
            case pos =>

              have HA := hide (HBAD.out (by left; simp; omega))
              clear HBAD HJ2
              go_wp2_with fail
              go_ret3
              exact val_none HB.out HA.out
            case neg =>

              have hcvx : ∀ W, (convert 21 9 (.int .i32 x)).run Tryd.prog W = .ok (.string (Utf8.encode x)) W := fun W => run_convert_int_string W 21 9 .i32 x (by rw [Tryd.underlying21]; rfl) Tryd.underlying9
              have HJ3 := hide (HJ2.out (by simp; omega))
              clear HBAD HJ2
              generalize Utf8.encode x = E at HNX hno hcvx
              go_wp2_with fail
              go_round
              case rel => exact ⟨i + 1, by omega, by go_num, by rw [HNX.out], HJ3.out⟩
              case measure => simp [intOf]; omega
    · obtain rfl : i = n := by omega
      have HNM := hide (name_good (l := l) (fun j hj => HJ.out j (by rw [← HLN.out]; exact hj)))
      rw [List.take_of_length_le (by rw [HLN.out]; exact Nat.le_refl _)]
      clear hi HJ
      obtain ⟨z0, z1, z2, z3, z4, z5, z6, z7, z8, z9, z10, z11, z12, z13, z14⟩ := EnvH.at_ HX.out
      cases hm : mayE v
      case false =>
        have HA := hide (valE_no (v := v) (l := l) (used := used) (fun h => by rw [hm] at h; cases h.1))
        rw [hm] at HP
        go_wp2_with (go_at_call 20; (with_reducible refine HP.out.mono ?_); rintro r w3 ⟨rfl, hb3⟩)
        go_ret3
        exact val_none (HB.out.trans (hb3.mono HB.out.size)) HA.out
      case true =>
      rw [hm] at HP
      by_cases hu1 : used < 0
      case pos =>
        have HA := hide (valE_no (v := v) (l := l) (used := used) (fun h => by omega))
        go_wp2_with (go_at_call 20; (with_reducible refine HP.out.mono ?_); rintro r w3 ⟨rfl, hb3⟩)
        go_ret3
        exact val_none (HB.out.trans (hb3.mono HB.out.size)) HA.out
      case neg =>
      by_cases hu2 : 1000 < used
      case pos =>
        have HA := hide (valE_no (v := v) (l := l) (used := used) (fun h => by omega))
        go_wp2_with (go_at_call 20; (with_reducible refine HP.out.mono ?_); rintro r w3 ⟨rfl, hb3⟩)
        go_ret3
        exact val_none (HB.out.trans (hb3.mono HB.out.size)) HA.out
      case neg =>
      obtain ⟨u, rfl⟩ : ∃ u : Nat, used = (u : Int) := ⟨used.toNat, by omega⟩
      have hu : u ≤ 1000 := by omega
      obtain ⟨hN, hd⟩ := envN_of HE.out hm
      have HA := hide (valE_yes (v := v) (l := l) hm hu (name_may HNM.out))
      have HEB := hide (fun W (hb : Below w2.heap.size w2 W) => HE.out.below hb)
      have HXB := hide (fun W (hb : Below w2.heap.size w2 W) => EnvH.at_ (HX.out.below hb))
      have HDW := hide (fun W (hb : Below w2.heap.size w2 W) => show Calls Tryd.prog 29 #[e.v, .int .i64 ((u : Nat) : Int)] W fun r w' => r = .returned (.int .i64 ((dN v.d u : Nat) : Int)) ∧ Below W.heap.size W w' from by
        have h := draw_any e v u (by omega) W (HE.out.below hb)
        rw [dN_eq hd] at h
        exact h)
      have HUU := hide (fun W (hb : Below w2.heap.size w2 W) => ruuid_any e v u hu W (HE.out.below hb) hd)
      have HTX := hide (fun W (hb : Below w2.heap.size w2 W) => show Calls Tryd.prog 32 #[e.v, .string (runesBytes l)] W (AnsR W (sel (toldL v (uN v) (cN v)) (runesBytes l).toList)) from by
        have h := texts_any e v (uN v) (cN v) (runesBytes l) W (HE.out.below hb) hN (HT.out.below hb)
        rw [told_same] at h
        exact h)
      unfold EnvH.v EnvH.cells at HDW HUU HTX
      have HV := hide (dN_lt hd u)
      clear hN hd hm HNM
      generalize runesBytes l = S at HA HTX ⊢
      cases h0 : (S.toList == [82, 65, 78, 68, 79, 77])
      case true =>
        rw [valS_rnd h0] at HA
        have hv := HV.out
        dsimp only at HA
        rw [Int.natCast_add] at HA
        generalize dN v.d u = V at HA HDW hv
        have HDG := hide (fun W => show Calls Tryd.prog 28 #[.int .i64 (((V : Nat) : Int) % 1000000), .int .i64 6] W (NewR W (ru (padD (V % 1000000) 6))) from by
          have h := digits_any (V % 1000000) 6 (by omega) (by omega) (by omega) W
          rw [show ((V % 1000000 : Nat) : Int) = ((V : Nat) : Int) % 1000000 by omega] at h
          exact h)
        go_wp2_with (first
          | (go_at_call 20; (with_reducible refine HP.out.mono ?_); rintro r w3 ⟨rfl, hb3⟩
             obtain ⟨y0, y1, y2, y3, y4, y5, y6, y7, y8, y9, y10, y11, y12, y13, y14⟩ := HXB.out w3 hb3)
          | (go_at_call 29; (with_reducible refine (HDW.out w3 hb3).mono ?_); rintro r w4 ⟨rfl, hb4⟩)
          | (go_at_call 28; (with_reducible refine (HDG.out _).mono ?_); rintro r w5 ⟨A5, n5, c5, rfl, ho5, hb5⟩))
        go_ret3
        exact val_new (HB.out.trans ((hb3.trans (hb4.mono hb3.size)).mono HB.out.size)) hb5 ho5 HA.out
      case false =>
      cases h1 : (S.toList == [82, 65, 78, 68, 79, 77, 95, 72, 69, 88])
      case true =>
        rw [valS_hex h0 h1] at HA
        have hv := HV.out
        dsimp only at HA
        rw [Int.natCast_add] at HA
        generalize dN v.d u = V at HA HDW hv
        have HDG := hide (fun W => hex_any V hv W)
        go_wp2_with (first
          | (go_at_call 20; (with_reducible refine HP.out.mono ?_); rintro r w3 ⟨rfl, hb3⟩
             obtain ⟨y0, y1, y2, y3, y4, y5, y6, y7, y8, y9, y10, y11, y12, y13, y14⟩ := HXB.out w3 hb3)
          | (go_at_call 29; (with_reducible refine (HDW.out w3 hb3).mono ?_); rintro r w4 ⟨rfl, hb4⟩)
          | (go_at_call 30; (with_reducible refine (HDG.out _).mono ?_); rintro r w5 ⟨A5, n5, c5, rfl, ho5, hb5⟩))
        go_ret3
        exact val_new (HB.out.trans ((hb3.trans (hb4.mono hb3.size)).mono HB.out.size)) hb5 ho5 HA.out
      case false =>
      cases h2 : (S.toList == [85, 85, 73, 68])
      case true =>
        rw [valS_uid h0 h1 h2] at HA
        dsimp only at HA
        rw [Int.natCast_add] at HA
        go_wp2_with (first
          | (go_at_call 20; (with_reducible refine HP.out.mono ?_); rintro r w3 ⟨rfl, hb3⟩
             obtain ⟨y0, y1, y2, y3, y4, y5, y6, y7, y8, y9, y10, y11, y12, y13, y14⟩ := HXB.out w3 hb3)
          | (go_at_call 31; (with_reducible refine (HUU.out w3 hb3).mono ?_); rintro r w5 ⟨A5, n5, c5, rfl, ho5, hb5⟩))
        go_ret3
        exact val_new (HB.out.trans (hb3.mono HB.out.size)) hb5 ho5 HA.out
      case false =>
      rw [valS_txt h0 h1 h2] at HA
      dsimp only at HA
      generalize sel (toldL v (uN v) (cN v)) S.toList = o at HA HTX
      go_wp2_with (first
        | (go_at_call 20; (with_reducible refine HP.out.mono ?_); rintro r w3 ⟨rfl, hb3⟩
           obtain ⟨y0, y1, y2, y3, y4, y5, y6, y7, y8, y9, y10, y11, y12, y13, y14⟩ := HXB.out w3 hb3)
        | (go_at_call 32; (with_reducible refine (HTX.out w3 hb3).mono ?_); rintro r w5 ⟨A5, n5, c5, rfl, hr5, hn5, hb5⟩)
        | (at_builtin
           refine wpList_app0 rfl (.const (.slice none 0 0)) (.tmp 93) rfl w5.heap.size rfl rfl hr5 hn5 (Nat.le_refl _) ?_
           intro A6 c6 w6 ho6 hb6 hbk6 _))
      go_ret3
      exact val_own (HB.out.trans ((hb3.trans (hb5.mono hb3.size)).mono HB.out.size)) hb6 ho6 HA.out rfl rfl rfl
end Go.Proofs.YtfeflmpdbejhjaaDoor
