/- Texts that a tape makes: standishkeep's formed, Body. -/
import Derived.Test.YtkoieceifplphaaTapeQ
import Derived.Deep.CutBlock
import Derived.Deep.DeepCutAuto
namespace Go.Proofs.Ytkoieceifplphaa
open Go.RowKit
set_option linter.unusedVariables false

theorem Out.lit {g : Nat} {Z : Option Addr} {m c : Nat} {z : List Int} {w : World} (h : Tap w g Z m c z) (cs : Array Value) (l : List Int) (e : cs = (cells32 l).toArray) (hw : W32 l) (hl : l.length ≤ 1000) (hmy : mayS l = true) : Out g Z m c z w (w.alloc (.cells cs 21)) (some ⟨w.heap.size, 0, none⟩) l.length l.length :=
  ⟨⟨l, Own.news w cs l e hw (by omega), hmy⟩, h.grown (World.grownBy_alloc w _ none) (fun j hj => by cases hj), World.grownBy_alloc w _ _, h.lt⟩
theorem wpList_out2 {g : Nat} {Z : Option Addr} {m c : Nat} {z : List Int} {w0 w : World} {A : Option Addr} {cap : Nat} {ops : Array Oper} {rest : List Oper} {o : Oper} {a : Act} {Q : Exit → Act → World → Prop} (hgd : o.guard = none) (s x : Operand)
    (ho : o.op = .call { callee := .builtin .append, args := #[s, x], argTypes := #[23, 23] })
    {n : Nat} (hs : a.eval s = .slice A n cap) (h : Out g Z m c z w0 w A n cap) {X : Option Addr} {e d : Nat} {r : List Int} (hx : a.eval x = .slice X e d) (hr : Runes w X e r) (hmr : mayS r = true) (hsz : n + e ≤ 35184372088832)
    (hk : ∀ A' c' w', Out g Z m c z w0 w' A' (n + e) c' → w.grownBy w' (blk A) → (blk A' = blk A ∨ blk A' = some w.heap.size) → wpList Try.prog ops Q rest (a.put o.dst (.slice A' (n + e) c')) w') : wpList Try.prog ops Q (o :: rest) a w := by
  obtain ⟨l, how, hmy⟩ := h.own
  refine wpList_app hgd s x ho w0.heap.size hs how hx hr hsz h.size fun A' c' w' h2 h3 h4 h5 h6 => hk A' c' w' ?_ h3 h5
  refine Out.mk ⟨_, h2, mayS_app hmy hmr⟩ (h.tap.grown h3 (fun j hj => by have := (how.blk_ge j hj).1; have := h.lt; omega)) (h.gr.andThen h3 (fun j hj => .inl (how.blk_ge j hj).1)) h.lt

set_option maxRecDepth 100000 in
set_option maxHeartbeats 4000000 in
theorem tformed_any (g : Nat) (Z : Option Addr) (m c : Nat) (z : List Int) (w : World) (h : Tap w g Z m c z) (hm : m ≤ 35184372088832) : Calls Try.prog 75 #[.pointer (some ⟨g, 0, none⟩)] w (TextR 2900 g Z m c z w) := by
  have HT := hide h
  have HL := hide (Out.lit h #[.int .i32 47] [47] rfl (w32_of (by decide)) (by decide) (by decide))
  clear h
  go_enter Try.func75, Try.ntmps75
  go_upto_block 0 with (first
    | (go_at_call 79; refine (tpat_any g Z m c z 1 (by omega) _ HL.out.tap hm).mono ?_; rintro e w1 ⟨X, kp, xp, rfl, hkp, ho1⟩; have H1 := hide (HL.out.call ho1); have HX := hide ho1; clear ho1))
  have hkp2 : kp ≤ 2600 := Nat.le_trans hkp (by decide)
  obtain ⟨lx, how, hmx⟩ := HX.out.own
  have hmx2 : ∀ j, j < kp → isS (nth lx j) = true := fun j hj => by
    unfold mayS at hmx
    exact List.all_eq_true.1 hmx _ (nth_mem (by rw [how.len]; exact hj))
  have HMX := hide hmx2
  have hrx := how.runes
  have hap : ∀ b, blk X = some b → blk (some ⟨w.heap.size, 0, none⟩) ≠ some b := fun b hb e => by
    have h1 := (how.blk_ge b hb).1
    have h2 : w.heap.size = b := by simpa [blk] using e
    simp at h1
    omega
  have HRX := hide hrx
  have HAP := hide hap
  clear how hrx hap hkp hmx hmx2
  go_cut [3] (fun o wx => ∃ (A : Option Addr) (k cap : Nat), o = .slice A k cap ∧ k ≤ 2601 ∧ Hid (Out g Z m c z w wx A k cap))
  case first =>
    go_wp2_with fail
    go_loopw [3, 10] (fun o i wr => ∃ (A : Option Addr) (cap j : Nat), o = .slice A (1 + j) cap ∧ i = .int .i64 j ∧ j ≤ kp ∧ Hid (Out g Z m c z w wr A (1 + j) cap) ∧ Hid (Runes wr X kp lx) ∧ Hid (∀ b, blk X = some b → blk A ≠ some b)) (fun _ i _ => kp - (intOf i).toNat)
    case atStart => exact ⟨_, _, 0, rfl, rfl, Nat.zero_le _, H1.out, HRX.out, HAP.out⟩
    case round =>
      obtain ⟨A, cap, j, rfl, rfl, hj, HO, HR, HA⟩ := hrel
      by_cases hlt : j < kp
      · obtain ⟨b, o, hXe, hc⟩ := HR.out.at_ j hlt
        have hw32 := HR.out.wf.bd j
        have hms := HMX.out j hlt
        generalize nth lx j = x at hc hw32 hms
        have HMS := hide (show mayS [x] = true by simp [mayS, hms])
        clear hms
        have i0 : (0 : Int) ≤ (j : Int) := by omega
        have i1 : (j : Int) < (kp : Int) := by omega
        subst hXe
        go_wp2_with (at_builtin; refine wpList_out2 rfl (.tmp 14) (.tmp 16) rfl rfl (HO.out.alloc _) rfl (Runes.news _ _ _ [x] rfl (W32.one hw32)) HMS.out (by simp; omega) ?_; intro P q v ho hgr hor)
        have hbw := HR.out.lt (by omega) rfl
        have HO2 := hide ho
        have HR2 := hide ((HR.out.alloc (.cells #[.int .i32 x] 21)).keep (w' := v) fun b' o' e _ => hgr.block b' (by injection e with e; injection e with e; subst e; simp; omega) (fun e2 => by
          injection e with e
          injection e with e e3
          exact HA.out b rfl (by rw [← e2, e])))
        have HA2 := hide (show ∀ b', blk (some ⟨b, o, none⟩) = some b' → blk P ≠ some b' from fun b' e1 e2 => by
          rcases hor with h1 | h1
          · exact HA.out b' e1 (by rw [← h1, e2])
          · rw [h1] at e2
            injection e1 with e1
            injection e2 with e2
            simp at e2
            have e3 : b = b' := e1
            omega)
        clear ho hgr hor hbw
        go_roundw
        case rel => exact ⟨P, q, j + 1, by first | rfl | (rw [Nat.add_assoc]), by go_num, by omega, by have := HO2.out; rwa [Nat.add_assoc] at this, HR2.out, HA2.out⟩
        case measure => simp [intOf]; omega
      · go_wp2_with fail
        go_meet
        exact ⟨A, _, cap, rfl, by omega, HO.out⟩
  case rest =>
    obtain ⟨A, k, cap, rfl, hk, HC⟩ := hcut
    clear H1 HX HRX HAP HMX
    go_wp2_with (first
      | (at_builtin; refine wpList_out rfl (.tmp 19) (.tmp 20) rfl rfl (HC.out.alloc _) rfl (Runes.news _ _ _ [47] rfl (w32_of (by decide))) (by decide) (by simp; omega) ?_; intro P1 q1 v1 o1))
    have H1 := hide o1
    clear o1
    refine (tformat_any g Z m c z _ H1.out.tap hm).mono ?_
    rintro e w2 ⟨X2, k2, x2, rfl, hk2, ho2⟩
    have H2 := hide (H1.out.call ho2)
    have T2 := hide ho2.rd
    clear ho2
    go_wp2_with (first
      | (at_builtin; refine wpList_out rfl (.tmp 21) (.tmp 23) rfl rfl H2.out rfl T2.out.snd T2.out.may (by omega) ?_; intro P3 q3 v3 o3)
      | (at_builtin; refine wpList_out rfl (.tmp 25) (.tmp 26) rfl rfl (o3.alloc _) rfl (Runes.news _ _ _ [47] rfl (w32_of (by decide))) (by decide) (by simp; omega) ?_; intro P4 q4 v4 o4))
    have H4 := hide o4
    clear o3 o4
    refine (one_lit g Z m c z _ _ _ (by rfl) (by decide +kernel) (by omega) _ (H4.out.alloc _).tap hm).mono ?_
    rintro e w5 ⟨X5, k5, x5, rfl, hk5, ho5⟩
    have H5 := hide ((H4.out.alloc _).call ho5)
    have T5 := hide ho5.rd
    clear ho5
    go_wp2_with (first
      | (at_builtin; refine wpList_out rfl (.tmp 28) (.tmp 31) rfl rfl H5.out rfl T5.out.snd T5.out.may (by omega) ?_; intro P6 q6 v6 o6))
    have H6 := hide o6
    clear o6
    go_ret
    exact ⟨_, _, _, rfl, by omega, H6.out⟩

/-- How long a body is at most. -/
def bodB : Nat → Nat
  | 0 => 4 * 3000
  | d + 1 => 4 * (3000 + bodB d)
theorem bodB_le : ∀ d, d ≤ 2 → bodB d ≤ 300000 := fun d h => by
  have : d = 0 ∨ d = 1 ∨ d = 2 := by omega
  rcases this with rfl | rfl | rfl <;> decide

set_option maxRecDepth 100000 in
set_option maxHeartbeats 4000000 in
theorem tbody0 (g : Nat) (Z : Option Addr) (m c : Nat) (z : List Int) (w : World) (h : Tap w g Z m c z) (hm : m ≤ 35184372088832) : Calls Try.prog 63 #[.pointer (some ⟨g, 0, none⟩), .int .i64 ((0 : Nat) : Int)] w (TextR 12000 g Z m c z w) := by
  have HT := hide h
  clear h
  go_enter Try.func63, Try.ntmps63
  go_wp2_with fail
  refine (next_any 4 g Z m c z w HT.out (by omega) (by omega) hm).mono ?_
  rintro e w0 ⟨r, rfl, hr, ht, hg, -⟩
  have HO0 := hide ((Out.start HT.out).next ht hg)
  clear ht hg
  go_wp2_with fail
  go_loopw [5, 6] (fun o i wr => ∃ (A : Option Addr) (k cap j : Nat), o = .slice A k cap ∧ i = .int .i64 j ∧ k + j * 3000 ≤ 4 * 3000 ∧ j ≤ 4 ∧ Hid (Out g Z m c z w wr A k cap)) (fun _ i _ => (intOf i).toNat)
  case atStart => exact ⟨none, 0, 0, r + 1, rfl, by first | rfl | go_num, by omega, by omega, HO0.out⟩
  case round =>
    obtain ⟨A, k, cap, j, rfl, rfl, hkj, hj3, HO⟩ := hrel
    rcases Nat.eq_zero_or_pos j with rfl | hpos
    · go_wp2_with fail
      go_ret
      exact ⟨A, k, cap, rfl, by omega, HO.out⟩
    · obtain ⟨b, rfl⟩ : ∃ b, j = b + 1 := ⟨j - 1, by omega⟩
      have e1 : (((b + 1 : Nat) : Int)) - 1 = (b : Int) := by omega
      have hkj2 : k + 3000 + b * 3000 ≤ 4 * 3000 := by rw [Nat.add_mul] at hkj; omega
      clear hkj
      go_wp2_with fail
      refine (next_any 12 g Z m c z _ HO.out.tap (by omega) (by omega) hm).mono ?_
      rintro e wk ⟨x, rfl, hx, ht, hg, -⟩
      have HK := hide (HO.out.next ht hg)
      clear ht hg
      have hx12 : x = 0 ∨ x = 1 ∨ x = 2 ∨ x = 3 ∨ x = 4 ∨ x = 5 ∨ x = 6 ∨ x = 7 ∨ x = 8 ∨ x = 9 ∨ x = 10 ∨ x = 11 := by omega
      clear hx
      rcases hx12 with rfl | rfl | rfl | rfl | rfl | rfl | rfl | rfl | rfl | rfl | rfl | rfl
      · rw [show (((0 : Nat)) : Int) = 0 from rfl]
        go_wp2_with fail
        refine (one_lit g Z m c z _ _ _ (by rfl) (by decide +kernel) (by omega) _ (HK.out.alloc _).tap hm).mono ?_
        rintro e w1 ⟨X1, k1, x1, rfl, hk1, ho1⟩
        have H1 := hide ((HK.out.alloc _).call ho1)
        have T1 := hide ho1.rd
        clear ho1
        go_wp2_with (first
          | (at_builtin; refine wpList_out rfl (.tmp 38) (.tmp 41) rfl rfl H1.out rfl T1.out.snd T1.out.may (by omega) ?_; intro P2 q2 v2 o2))
        have H2 := hide o2
        clear o2
        go_roundw
        case rel => exact ⟨_, _, _, b, rfl, rfl, by omega, by omega, H2.out⟩
        case measure => simp [intOf]
      · rw [show (((1 : Nat)) : Int) = 1 from rfl]
        go_wp2_with fail
        refine (one_lit g Z m c z _ _ _ (by rfl) (by decide +kernel) (by omega) _ (HK.out.alloc _).tap hm).mono ?_
        rintro e w1 ⟨X1, k1, x1, rfl, hk1, ho1⟩
        have H1 := hide ((HK.out.alloc _).call ho1)
        have T1 := hide ho1.rd
        clear ho1
        go_wp2_with (first
          | (at_builtin; refine wpList_out rfl (.tmp 38) (.tmp 41) rfl rfl H1.out rfl T1.out.snd T1.out.may (by omega) ?_; intro P2 q2 v2 o2))
        have H2 := hide o2
        clear o2
        go_roundw
        case rel => exact ⟨_, _, _, b, rfl, rfl, by omega, by omega, H2.out⟩
        case measure => simp [intOf]
      · rw [show (((2 : Nat)) : Int) = 2 from rfl]
        go_wp2_with (first
          | (at_builtin; refine wpList_out rfl (.tmp 45) (.tmp 46) rfl rfl (HK.out.alloc _) rfl (Runes.news _ _ _ [36] rfl (w32_of (by decide))) (by decide) (by simp; omega) ?_; intro P1 q1 v1 o1))
        have H1 := hide o1
        clear o1
        refine (tnum_any g Z m c z _ H1.out.tap hm).mono ?_
        rintro e w2 ⟨X2, k2, x2, rfl, hk2, ho2⟩
        have H2 := hide (H1.out.call ho2)
        have T2 := hide ho2.rd
        clear ho2
        go_wp2_with (first
          | (at_builtin; refine wpList_out rfl (.tmp 47) (.tmp 49) rfl rfl H2.out rfl T2.out.snd T2.out.may (by omega) ?_; intro P3 q3 v3 o3))
        have H3 := hide o3
        clear o3
        go_roundw
        case rel => exact ⟨_, _, _, b, rfl, rfl, by omega, by omega, H3.out⟩
        case measure => simp [intOf]
      · rw [show (((3 : Nat)) : Int) = 3 from rfl]
        go_wp2_with (first
          | (at_builtin; refine wpList_out rfl (.tmp 53) (.tmp 54) rfl rfl (HK.out.alloc _) rfl (Runes.news _ _ _ [36, 123] rfl (w32_of (by decide))) (by decide) (by simp; omega) ?_; intro P1 q1 v1 o1))
        have H1 := hide o1
        clear o1
        refine (tnum_any g Z m c z _ H1.out.tap hm).mono ?_
        rintro e w2 ⟨X2, k2, x2, rfl, hk2, ho2⟩
        have H2 := hide (H1.out.call ho2)
        have T2 := hide ho2.rd
        clear ho2
        go_wp2_with (first
          | (at_builtin; refine wpList_out rfl (.tmp 55) (.tmp 57) rfl rfl H2.out rfl T2.out.snd T2.out.may (by omega) ?_; intro P3 q3 v3 o3)
          | (at_builtin; refine wpList_out rfl (.tmp 58) (.tmp 59) rfl rfl (o3.alloc _) rfl (Runes.news _ _ _ [125] rfl (w32_of (by decide))) (by decide) (by simp; omega) ?_; intro P4 q4 v4 o4))
        have H4 := hide o4
        clear o3 o4
        go_roundw
        case rel => exact ⟨_, _, _, b, rfl, rfl, by omega, by omega, H4.out⟩
        case measure => simp [intOf]
      · rw [show (((4 : Nat)) : Int) = 4 from rfl]
        have fd : ¬ ((0 : Int) < ((0 : Nat) : Int)) := by omega
        go_wp2_with (first
          | (at_builtin; refine wpList_out rfl (.tmp 65) (.tmp 66) rfl rfl (HK.out.alloc _) rfl (Runes.news _ _ _ [36, 123] rfl (w32_of (by decide))) (by decide) (by simp; omega) ?_; intro P1 q1 v1 o1))
        have H1 := hide o1
        clear o1
        refine (tnum_any g Z m c z _ H1.out.tap hm).mono ?_
        rintro e w2 ⟨X2, k2, x2, rfl, hk2, ho2⟩
        have H2 := hide (H1.out.call ho2)
        have T2 := hide ho2.rd
        clear ho2
        go_wp2_with (first
          | (at_builtin; refine wpList_out rfl (.tmp 67) (.tmp 69) rfl rfl H2.out rfl T2.out.snd T2.out.may (by omega) ?_; intro P3 q3 v3 o3)
          | (at_builtin; refine wpList_out rfl (.tmp 70) (.tmp 71) rfl rfl (o3.alloc _) rfl (Runes.news _ _ _ [58] rfl (w32_of (by decide))) (by decide) (by simp; omega) ?_; intro P4 q4 v4 o4))
        have H4 := hide o4
        clear o3 o4
        refine (one_lit g Z m c z _ _ _ (by rfl) (by decide +kernel) (by omega) _ (H4.out.alloc _).tap hm).mono ?_
        rintro e w5 ⟨X5, k5, x5, rfl, hk5, ho5⟩
        have H5 := hide ((H4.out.alloc _).call ho5)
        have T5 := hide ho5.rd
        clear ho5
        go_wp2_with (first
          | (at_builtin; refine wpList_out rfl (.tmp 81) (.tmp 84) rfl rfl H5.out rfl T5.out.snd T5.out.may (by omega) ?_; intro P6 q6 v6 o6))
        have H6 := hide o6
        clear o6
        go_roundw
        case rel => exact ⟨_, _, _, b, rfl, rfl, by omega, by omega, H6.out⟩
        case measure => simp [intOf]
      · rw [show (((5 : Nat)) : Int) = 5 from rfl]
        have fd : ¬ ((0 : Int) < ((0 : Nat) : Int)) := by omega
        go_wp2_with (first
          | (at_builtin; refine wpList_out rfl (.tmp 65) (.tmp 66) rfl rfl (HK.out.alloc _) rfl (Runes.news _ _ _ [36, 123] rfl (w32_of (by decide))) (by decide) (by simp; omega) ?_; intro P1 q1 v1 o1))
        have H1 := hide o1
        clear o1
        refine (tnum_any g Z m c z _ H1.out.tap hm).mono ?_
        rintro e w2 ⟨X2, k2, x2, rfl, hk2, ho2⟩
        have H2 := hide (H1.out.call ho2)
        have T2 := hide ho2.rd
        clear ho2
        go_wp2_with (first
          | (at_builtin; refine wpList_out rfl (.tmp 67) (.tmp 69) rfl rfl H2.out rfl T2.out.snd T2.out.may (by omega) ?_; intro P3 q3 v3 o3)
          | (at_builtin; refine wpList_out rfl (.tmp 70) (.tmp 71) rfl rfl (o3.alloc _) rfl (Runes.news _ _ _ [58] rfl (w32_of (by decide))) (by decide) (by simp; omega) ?_; intro P4 q4 v4 o4))
        have H4 := hide o4
        clear o3 o4
        refine (one_lit g Z m c z _ _ _ (by rfl) (by decide +kernel) (by omega) _ (H4.out.alloc _).tap hm).mono ?_
        rintro e w5 ⟨X5, k5, x5, rfl, hk5, ho5⟩
        have H5 := hide ((H4.out.alloc _).call ho5)
        have T5 := hide ho5.rd
        clear ho5
        go_wp2_with (first
          | (at_builtin; refine wpList_out rfl (.tmp 81) (.tmp 84) rfl rfl H5.out rfl T5.out.snd T5.out.may (by omega) ?_; intro P6 q6 v6 o6))
        have H6 := hide o6
        clear o6
        go_roundw
        case rel => exact ⟨_, _, _, b, rfl, rfl, by omega, by omega, H6.out⟩
        case measure => simp [intOf]
      · rw [show (((6 : Nat)) : Int) = 6 from rfl]
        have fd : ¬ ((0 : Int) < ((0 : Nat) : Int)) := by omega
        go_wp2_with (first
          | (at_builtin; refine wpList_out rfl (.tmp 65) (.tmp 66) rfl rfl (HK.out.alloc _) rfl (Runes.news _ _ _ [36, 123] rfl (w32_of (by decide))) (by decide) (by simp; omega) ?_; intro P1 q1 v1 o1))
        have H1 := hide o1
        clear o1
        refine (tnum_any g Z m c z _ H1.out.tap hm).mono ?_
        rintro e w2 ⟨X2, k2, x2, rfl, hk2, ho2⟩
        have H2 := hide (H1.out.call ho2)
        have T2 := hide ho2.rd
        clear ho2
        go_wp2_with (first
          | (at_builtin; refine wpList_out rfl (.tmp 67) (.tmp 69) rfl rfl H2.out rfl T2.out.snd T2.out.may (by omega) ?_; intro P3 q3 v3 o3)
          | (at_builtin; refine wpList_out rfl (.tmp 70) (.tmp 71) rfl rfl (o3.alloc _) rfl (Runes.news _ _ _ [58] rfl (w32_of (by decide))) (by decide) (by simp; omega) ?_; intro P4 q4 v4 o4))
        have H4 := hide o4
        clear o3 o4
        refine (one_lit g Z m c z _ _ _ (by rfl) (by decide +kernel) (by omega) _ (H4.out.alloc _).tap hm).mono ?_
        rintro e w5 ⟨X5, k5, x5, rfl, hk5, ho5⟩
        have H5 := hide ((H4.out.alloc _).call ho5)
        have T5 := hide ho5.rd
        clear ho5
        go_wp2_with (first
          | (at_builtin; refine wpList_out rfl (.tmp 81) (.tmp 84) rfl rfl H5.out rfl T5.out.snd T5.out.may (by omega) ?_; intro P6 q6 v6 o6))
        have H6 := hide o6
        clear o6
        go_roundw
        case rel => exact ⟨_, _, _, b, rfl, rfl, by omega, by omega, H6.out⟩
        case measure => simp [intOf]
      · rw [show (((7 : Nat)) : Int) = 7 from rfl]
        go_wp2_with (first
          | (at_builtin; refine wpList_out rfl (.tmp 88) (.tmp 89) rfl rfl (HK.out.alloc _) rfl (Runes.news _ _ _ [36, 123] rfl (w32_of (by decide))) (by decide) (by simp; omega) ?_; intro P1 q1 v1 o1))
        have H1 := hide o1
        clear o1
        refine (tnum_any g Z m c z _ H1.out.tap hm).mono ?_
        rintro e w2 ⟨X2, k2, x2, rfl, hk2, ho2⟩
        have H2 := hide (H1.out.call ho2)
        have T2 := hide ho2.rd
        clear ho2
        go_wp2_with (first
          | (at_builtin; refine wpList_out rfl (.tmp 90) (.tmp 92) rfl rfl H2.out rfl T2.out.snd T2.out.may (by omega) ?_; intro P3 q3 v3 o3))
        have H3 := hide o3
        clear o3
        refine (one_lit g Z m c z _ _ _ (by rfl) (by decide +kernel) (by omega) _ (H3.out.alloc _).tap hm).mono ?_
        rintro e w4 ⟨X4, k4, x4, rfl, hk4, ho4⟩
        have H4 := hide ((H3.out.alloc _).call ho4)
        have T4 := hide ho4.rd
        clear ho4
        go_wp2_with (first
          | (at_builtin; refine wpList_out rfl (.tmp 93) (.tmp 96) rfl rfl H4.out rfl T4.out.snd T4.out.may (by omega) ?_; intro P5 q5 v5 o5))
        have H5 := hide o5
        clear o5
        go_roundw
        case rel => exact ⟨_, _, _, b, rfl, rfl, by omega, by omega, H5.out⟩
        case measure => simp [intOf]
      · rw [show (((8 : Nat)) : Int) = 8 from rfl]
        go_wp2_with (first
          | (at_builtin; refine wpList_out rfl (.tmp 100) (.tmp 101) rfl rfl (HK.out.alloc _) rfl (Runes.news _ _ _ [36, 123] rfl (w32_of (by decide))) (by decide) (by simp; omega) ?_; intro P1 q1 v1 o1))
        have H1 := hide o1
        clear o1
        refine (tnum_any g Z m c z _ H1.out.tap hm).mono ?_
        rintro e w2 ⟨X2, k2, x2, rfl, hk2, ho2⟩
        have H2 := hide (H1.out.call ho2)
        have T2 := hide ho2.rd
        clear ho2
        go_wp2_with (first
          | (at_builtin; refine wpList_out rfl (.tmp 102) (.tmp 104) rfl rfl H2.out rfl T2.out.snd T2.out.may (by omega) ?_; intro P3 q3 v3 o3))
        have H3 := hide o3
        clear o3
        refine (tformed_any g Z m c z _ H3.out.tap hm).mono ?_
        rintro e w4 ⟨X4, k4, x4, rfl, hk4, ho4⟩
        have H4 := hide (H3.out.call ho4)
        have T4 := hide ho4.rd
        clear ho4
        go_wp2_with (first
          | (at_builtin; refine wpList_out rfl (.tmp 105) (.tmp 107) rfl rfl H4.out rfl T4.out.snd T4.out.may (by omega) ?_; intro P5 q5 v5 o5)
          | (at_builtin; refine wpList_out rfl (.tmp 108) (.tmp 109) rfl rfl (o5.alloc _) rfl (Runes.news _ _ _ [125] rfl (w32_of (by decide))) (by decide) (by simp; omega) ?_; intro P6 q6 v6 o6))
        have H6 := hide o6
        clear o5 o6
        go_roundw
        case rel => exact ⟨_, _, _, b, rfl, rfl, by omega, by omega, H6.out⟩
        case measure => simp [intOf]
      · rw [show (((9 : Nat)) : Int) = 9 from rfl]
        go_wp2_with (first
          | (at_builtin; refine wpList_out rfl (.tmp 113) (.tmp 114) rfl rfl (HK.out.alloc _) rfl (Runes.news _ _ _ [36] rfl (w32_of (by decide))) (by decide) (by simp; omega) ?_; intro P1 q1 v1 o1))
        have H1 := hide o1
        clear o1
        refine (tname_any g Z m c z _ H1.out.tap hm).mono ?_
        rintro e w2 ⟨X2, k2, x2, rfl, hk2, ho2⟩
        have H2 := hide (H1.out.call ho2)
        have T2 := hide ho2.rd
        clear ho2
        go_wp2_with (first
          | (at_builtin; refine wpList_out rfl (.tmp 115) (.tmp 117) rfl rfl H2.out rfl T2.out.snd T2.out.may (by omega) ?_; intro P3 q3 v3 o3))
        have H3 := hide o3
        clear o3
        go_roundw
        case rel => exact ⟨_, _, _, b, rfl, rfl, by omega, by omega, H3.out⟩
        case measure => simp [intOf]
      · rw [show (((10 : Nat)) : Int) = 10 from rfl]
        have fd : ¬ ((0 : Int) < ((0 : Nat) : Int)) := by omega
        go_wp2_with (first
          | (at_builtin; refine wpList_out rfl (.tmp 121) (.tmp 122) rfl rfl (HK.out.alloc _) rfl (Runes.news _ _ _ [36, 123] rfl (w32_of (by decide))) (by decide) (by simp; omega) ?_; intro P1 q1 v1 o1))
        have H1 := hide o1
        clear o1
        refine (tname_any g Z m c z _ H1.out.tap hm).mono ?_
        rintro e w2 ⟨X2, k2, x2, rfl, hk2, ho2⟩
        have H2 := hide (H1.out.call ho2)
        have T2 := hide ho2.rd
        clear ho2
        go_wp2_with (first
          | (at_builtin; refine wpList_out rfl (.tmp 123) (.tmp 125) rfl rfl H2.out rfl T2.out.snd T2.out.may (by omega) ?_; intro P3 q3 v3 o3)
          | (at_builtin; refine wpList_out rfl (.tmp 126) (.tmp 127) rfl rfl (o3.alloc _) rfl (Runes.news _ _ _ [58] rfl (w32_of (by decide))) (by decide) (by simp; omega) ?_; intro P4 q4 v4 o4)
          | (at_builtin; refine wpList_out rfl (.tmp 137) (.tmp 138) rfl rfl (o4.alloc _) rfl (Runes.news _ _ _ [125] rfl (w32_of (by decide))) (by decide) (by simp; omega) ?_; intro P5 q5 v5 o5))
        have H5 := hide o5
        clear o3 o4 o5
        go_roundw
        case rel => exact ⟨_, _, _, b, rfl, rfl, by omega, by omega, H5.out⟩
        case measure => simp [intOf]
      · rw [show (((11 : Nat)) : Int) = 11 from rfl]
        go_wp2_with fail
        refine (next_any 2 g Z m c z _ HK.out.tap (by omega) (by omega) hm).mono ?_
        rintro e w1 ⟨q, rfl, hq, ht1, hg1, -⟩
        have H1 := hide (HK.out.next ht1 hg1)
        clear ht1 hg1
        by_cases hq : q = 0
        · have dq : ((q : Int) == 0) = true := by simp; omega
          clear hq
          go_wp2_with (first
            | (at_builtin; refine wpList_out rfl (.tmp 19) (.tmp 20) rfl rfl (H1.out.alloc _) rfl (Runes.news _ _ _ [36, 123] rfl (w32_of (by decide))) (by decide) (by simp; omega) ?_; intro P2 q2 v2 o2))
          have H2 := hide o2
          clear o2
          refine (tname_any g Z m c z _ H2.out.tap hm).mono ?_
          rintro e w3 ⟨X3, k3, x3, rfl, hk3, ho3⟩
          have H3 := hide (H2.out.call ho3)
          have T3 := hide ho3.rd
          clear ho3
          go_wp2_with (first
            | (at_builtin; refine wpList_out rfl (.tmp 21) (.tmp 23) rfl rfl H3.out rfl T3.out.snd T3.out.may (by omega) ?_; intro P4 q4 v4 o4))
          have H4 := hide o4
          clear o4
          refine (tformed_any g Z m c z _ H4.out.tap hm).mono ?_
          rintro e w5 ⟨X5, k5, x5, rfl, hk5, ho5⟩
          have H5 := hide (H4.out.call ho5)
          have T5 := hide ho5.rd
          clear ho5
          go_wp2_with (first
            | (at_builtin; refine wpList_out rfl (.tmp 24) (.tmp 26) rfl rfl H5.out rfl T5.out.snd T5.out.may (by omega) ?_; intro P6 q6 v6 o6)
            | (at_builtin; refine wpList_out rfl (.tmp 27) (.tmp 28) rfl rfl (o6.alloc _) rfl (Runes.news _ _ _ [125] rfl (w32_of (by decide))) (by decide) (by simp; omega) ?_; intro P7 q7 v7 o7))
          have H7 := hide o7
          clear o6 o7
          go_roundw
          case rel => exact ⟨_, _, _, b, rfl, rfl, by omega, by omega, H7.out⟩
          case measure => simp [intOf]
        · have dq : ((q : Int) == 0) = false := by simp; omega
          clear hq
          go_wp2_with fail
          refine (one_lit g Z m c z _ _ _ (by rfl) (by decide +kernel) (by omega) _ (H1.out.alloc _).tap hm).mono ?_
          rintro e w2 ⟨X2, k2, x2, rfl, hk2, ho2⟩
          have H2 := hide ((H1.out.alloc _).call ho2)
          have T2 := hide ho2.rd
          clear ho2
          go_wp2_with (first
            | (at_builtin; refine wpList_out rfl (.tmp 30) (.tmp 33) rfl rfl H2.out rfl T2.out.snd T2.out.may (by omega) ?_; intro P3 q3 v3 o3))
          have H3 := hide o3
          clear o3
          go_roundw
          case rel => exact ⟨_, _, _, b, rfl, rfl, by omega, by omega, H3.out⟩
          case measure => simp [intOf]

end Go.Proofs.Ytkoieceifplphaa
