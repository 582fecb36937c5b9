/- Pieces, joined: TriI. -/
import Derived.Test.YtchcpeenpijekaaQ19

/- The walk through a trie's words: each with its count, in their order. -/
namespace Go.Proofs.Ytchcpeenpijekaa
open Go.RowKit Go.Maps Go.MapKept Go.ChangeMaps Go.Shelf
set_option linter.unusedVariables false

abbrev fV (bo : Nat) : Value := .func (.func 51) #[] #[.pointer (some ⟨bo, 0, none⟩)]
def WalkE (w0 w : World) (bo : Nat) (Ao : Option Addr) (us : List IV) (A : Option Addr) (n c : Nat) (p : List Int) (F : List Itm) (e : Ending) (w' : World) : Prop := e = .returned (.tuple #[]) ∧ WkP w0 w bo Ao us A n c p F w'
def ownB (L : List Itm) (p : List Int) : List Itm := if 0 < cntB L p then [(p, cntB L p)] else []
theorem flat_take {rs : List Int} {f : Int → List Itm} {j : Nat} (hj : j < rs.length) : (rs.take (j + 1)).flatMap f = (rs.take j).flatMap f ++ f (nth rs j) := by
  rw [take_snoc hj, List.flatMap_append]
  simp
theorem flat_take_le (rs : List Int) (f : Int → List Itm) (j : Nat) : ((rs.take j).flatMap f).length ≤ (rs.flatMap f).length := by
  conv => rhs; rw [← List.take_append_drop j rs, List.flatMap_append, List.length_append]
  omega

theorem WkP.keepR {w0 wb w2 : World} {bo no co n c : Nat} {Ao A : Option Addr} {us : List IV} {p : List Int} {F : List Itm} (hk : WkP w0 wb bo Ao us A n c p F w2) (hst : WkSt w0 wb bo Ao no co us A n c p) {B m cr : Nat} {R : Option Addr} {rs : List Int} (hR : Own wb B R m cr rs) (hap : Apart R A) : Own w2 B R m cr rs := by
  obtain ⟨_, _, _, _, _, _, k3, _, _⟩ := hk
  refine k3.own hR fun g hg e => ?_
  rcases e with rfl | e | e
  · exact own_ne_box hR hst.box (by decide) hg
  · rcases own_ne_row hR hst.items.row (by decide) with h1 | h1
    · rw [h1] at hg; cases hg
    · exact h1 (hg.trans e.symm)
  · exact hap g hg e
set_option maxRecDepth 100000 in
set_option maxHeartbeats 4000000 in
theorem walk_any {w0 : World} {B t K : Nat} {L : List Itm} {N : List Int → Option Nd} {Q : List (List Int)} (hT : TrieS w0 B t K L N Q) (hD : ∀ x ∈ L, x.1.length ≤ 1000) (hK : K ≤ 1000000) (hLL : allB L ≤ 1000000) :
    ∀ (d : Nat) (p : List Int) (x : Nd) (A : Option Addr) (n c : Nat) (w : World) (bo : Nat) (Ao : Option Addr) (no co : Nat) (us : List IV), 1001 ≤ p.length + d → N p = some x → WkSt w0 w bo Ao no co us A n c p → us.length + (withB L p).length ≤ 1000000 →
      Calls Try.prog 49 #[.pointer (some ⟨x.1, 0, none⟩), .slice A n c, fV bo] w (WalkE w0 w bo Ao us A n c p (withB L p)) := by
  intro d
  induction d with
  | zero =>
    intro p x A n c w bo Ao no co us h1 hx
    exfalso
    rcases (hT.mem p).1 (by rw [hx]; rfl) with rfl | ⟨y, hy, hp⟩
    · simp at h1
    · have := hD y hy
      have := hp.length_le
      omega
  | succ d ih =>
    intro p x A n c w bo Ao no co us h1 hx hst hno
    have hpl : p.length ≤ 1000 := by
      rcases (hT.mem p).1 (by rw [hx]; rfl) with rfl | ⟨y, hy, hp⟩
      · simp
      · have := hD y hy
        have := hp.length_le
        omega
    have hnl : n ≤ 1000 := by have := hst.path.len; omega
    have HT := hide hT
    have HIH := hide ih
    have HX := hide hx
    have HST := hide hst
    have HN1 := hide h1
    have hpos := hT.bag.pos
    have HC : Hid (cntB L p ≤ 1000000) := hide (by have := cnt_le_all L p; omega)
    have HP0 := hide (WkP.start hst)
    have hnode := (hT.trie.below hst.below).tree.node p x hx
    have c0 : w.cell? ⟨x.1, 0, none⟩ = some (.int .i64 (cntB L p : Nat)) := hnode.cell 0
    have hus := hst.items.len
    have HUS := hide hus
    have HNO := hide hno
    clear hT ih hx hst h1 hpos hnode hD hLL hus hno
    try unfold fV
    go_enter Try.func49, Try.ntmps49
    go_upto_if 12 with fail
    go_cut [] (fun wx => WkP w0 w bo Ao us A n c p (ownB L p) wx)
    case first =>
      by_cases hc : 0 < cntB L p
      · have HO := hide (show ownB L p = [(p, cntB L p)] from if_pos hc)
        have hd : decide ((0 : Int) < ((cntB L p : Nat) : Int)) = true := by simp; omega
        have HM := hide (more_any w w0.heap.size bo Ao no co us A n c p (cntB L p) HST.out.below.size HST.out.box HST.out.items HST.out.path.runes (by omega) (by have := HUS.out; have := HNO.out; omega))
        go_wp2_with (go_at_call 51; refine HM.out.mono ?_; intro e w1 hm; obtain ⟨rfl, hk⟩ := HST.out.more hm)
        go_meet
        rw [HO.out]
        exact hk
      · have HO := hide (show ownB L p = [] from if_neg hc)
        go_wp2_with fail
        go_meet
        rw [HO.out]
        exact HP0.out
    case rest =>
      have HP := hide hcut
      clear hcut c0 HP0
      have hbl : Below w0.heap.size w0 wc := by
        obtain ⟨_, _, _, _, _, h2, _⟩ := HP.out
        exact h2.below
      have HBL := hide hbl
      have hc1 : wc.cell? ⟨x.1, 1, none⟩ = some (.map (some x.2)) := ((HT.out.trie.below hbl).tree.node p x HX.out).cell 1
      obtain ⟨nn, hnnK, hmm⟩ := (HT.out.trie.below hbl).tree.kids p x HX.out
      obtain ⟨D, hDo, hDs, hDr⟩ := hmm.ex
      have K1 := hide (callsIn_wide.1 (keys_in Fence.wide 4 trivial rfl (some x.2) wc))
      have S1 := hide (sorted_any wc.heap.size x.2 nn D (wc.alloc (.cells #[.map (some x.2)] 73)) (by simp) (Box.new wc _ _).c1.1 (hDo.alloc _) (by omega) fun l hl => sorts_all (by have := keys_le hl; omega))
      have HB := hide ((Below.refl wc.heap.size wc).alloc (Nat.le_refl _) (.cells #[.map (some x.2)] 73))
      have HK2 := hide (show ∀ l, KeysL D l → l.Pairwise (· ≤ ·) → l.Pairwise (· < ·) ∧ ∀ r, r ∈ l ↔ ∃ y ∈ L, p ++ [r] <+: y.1 from fun l hk hs => by
        refine ⟨lt_of_le_nodup hs hk.1, fun r => ?_⟩
        rw [hk.2 r]
        constructor
        · rintro ⟨h32, hh⟩
          rw [(hDr r h32).1] at hh
          unfold kidV at hh
          rw [Option.isSome_map] at hh
          rcases (HT.out.mem _).1 hh with h | h
          · simp at h
          · exact h
        · intro h
          have h2 := (HT.out.mem (p ++ [r])).2 (.inr h)
          have h32 := (HT.out.trie.tree.up p r h2).2
          refine ⟨h32, ?_⟩
          rw [(hDr r h32).1]
          unfold kidV
          rw [Option.isSome_map]
          exact h2)
      have HDS := hide (show size D ≤ 1000000 by omega)
      clear hbl hmm hDo hDs hDr
      go_wp2_with fail
      refine K1.out.mono ?_
      rintro e w3 ⟨rfl, rfl⟩
      go_wp2_with fail
      refine S1.out.mono ?_
      rintro e w4 ⟨R, m, cr, rs, rfl, ho, hk, hs, hb⟩
      obtain ⟨hasc, hmem⟩ := HK2.out rs hk hs
      have HB4 := hide (HB.out.trans (hb.mono HB.out.size))
      have HP4 := hide (HP.out.next HB4.out)
      have HR4 := hide (ho.mono HB.out.size)
      have HPARTS := hide (withB_parts HT.out.bag p hasc hmem)
      have HMEM := hide hmem
      have hml : m ≤ 1000000 := by have h1 := keys_le hk; have h2 := ho.len; have h3 := HDS.out; omega
      have HWC := hide (show ∀ g, blk A = some g → g < wc.heap.size from by
        obtain ⟨_, _, _, _, _, h2, _⟩ := HP.out
        exact fun g hg => (h2.path.blk_ge g hg).2)
      clear ho hk hs hb hasc hmem HP HB S1 K1 HK2 hc1
      go_wp2_with fail
      go_loopw [27] (fun s27 wr => ∃ j : Nat, j ≤ m ∧ s27 = .int .i64 j ∧ Hid (WkP w0 w bo Ao us A n c p (ownB L p ++ (rs.take j).flatMap fun r => withB L (p ++ [r])) wr) ∧ Hid (Own wr wc.heap.size R m cr rs)) (fun s27 _ => m - (intOf s27).toNat)
      case atStart => exact ⟨0, Nat.zero_le _, rfl, by rw [List.take_zero, List.flatMap_nil, List.append_nil]; exact HP4.out, HR4.out⟩
      case round =>
        obtain ⟨j, hj, rfl, HP, HR⟩ := hrel
        by_cases hlt : j < m
        · obtain ⟨Ao1, no1, co1, us1, hF, hst1, hks1, hao1, hun1⟩ := HP.out
          have hrl := HR.out.len
          have hwf := HR.out.wf.bd j
          obtain ⟨y, hy⟩ : ∃ y, N (p ++ [nth rs j]) = some y := by
            have h1 := (HT.out.mem (p ++ [nth rs j])).2 (.inr ((HMEM.out _).1 (nth_mem (by omega))))
            cases hz : N (p ++ [nth rs j]) with
            | none => rw [hz] at h1; cases h1
            | some z => exact ⟨z, rfl⟩
          have hlk := (HT.out.trie.below hst1.below).tree.look HX.out hwf
          rw [hy] at hlk
          have hlk' : (Instr.lookup 73 (.map (some x.2)) (.int .i32 (nth rs j)) false).run Try.prog wr = .ok (.pointer (some ⟨y.1, 0, none⟩)) wr := hlk
          have hc1 : wr.cell? ⟨x.1, 1, none⟩ = some (.map (some x.2)) := ((HT.out.trie.below hst1.below).tree.node p x HX.out).cell 1
          obtain ⟨ab, ao, rfl, hc⟩ := HR.out.runes.at_ j hlt
          have HY := hide hy
          have HS1 := hide (And.intro hst1 (And.intro hF (And.intro hks1 (And.intro hao1 hun1))))
          have HW := hide hwf
          have HAP := hide (show Apart (some (⟨ab, ao, none⟩ : Addr)) A from fun g hg hA => by
            have h1 := (HR.out.blk_ge g hg).1
            have h2 := HWC.out g hA
            omega)
          have HNO1 := hide (show (us ++ us1).length + (withB L (p ++ [nth rs j])).length ≤ 1000000 from by
            have h1 := HNO.out
            have h2 := HPARTS.out
            have h3 := flat_take_le rs (fun r => withB L (p ++ [r])) (j + 1)
            have h4 := congrArg List.length (flat_take (rs := rs) (f := fun r => withB L (p ++ [r])) (j := j) (by omega))
            have h5 := congrArg List.length hF
            have h6 := congrArg List.length h2
            rw [List.length_append] at h4 h6 ⊢
            rw [List.length_map, List.length_append] at h5
            unfold ownB at h5
            omega)
          clear hst1 hF hks1 hao1 hun1 hrl hwf hy hlk
          go_upto_region 5 with fail
          have HBr := hide HS1.out.1.below
          have HL1 := hide (show 1001 ≤ (p ++ [nth rs j]).length + d from by rw [List.length_append, List.length_singleton]; have := HN1.out; omega)
          have HL2 := hide (show w0.heap.size ≤ (wr.alloc (.cells #[.int .i32 (nth rs j)] 21)).drew.heap.size from by
            have h1 := HBr.out.size
            have h2 : (wr.alloc (.cells #[.int .i32 (nth rs j)] 21)).drew.heap.size = wr.heap.size + 1 := by simp
            omega)
          have HL3 := hide (show n + 1 ≤ 35184372088832 by omega)
          have SK := hide (show ∀ W, Below w0.heap.size w0 W → W.cell? ⟨x.1, 1, none⟩ = some (.map (some x.2)) ∧ (Instr.lookup 73 (.map (some x.2)) (.int .i32 (nth rs j)) false).run Try.prog W = .ok (.pointer (some ⟨y.1, 0, none⟩)) W from fun W hb => by
            have h1 := (HT.out.trie.below hb).tree.look HX.out HW.out
            rw [HY.out] at h1
            exact ⟨((HT.out.trie.below hb).tree.node p x HX.out).cell 1, h1⟩)
          go_region_held3 (fun w' => w'.cell? ⟨x.1, 1, none⟩ = some (.map (some x.2)) ∧ (Instr.lookup 73 (.map (some x.2)) (.int .i32 (nth rs j)) false).run Try.prog w' = .ok (.pointer (some ⟨y.1, 0, none⟩)) w')
            (first | exact SK.out _ HBr.out.drew | exact SK.out _ (HBr.out.alloc HBr.out.size _).drew | exact SK.out _ (HBr.out.drew.alloc HBr.out.size _) | exact SK.out _ HBb.out | exact SK.out _ HB2.out | fail)
            (first
             | (go_at_call 49; (with_reducible refine (HIH.out (p ++ [nth rs j]) y A' (n + 1) c' _ bo Ao1 no1 co1 (us ++ us1) HL1.out HY.out HSB.out HNO1.out).mono ?_); rintro e w2 ⟨rfl, hk2⟩
                have HK2 := hide hk2
                have HB2 := hide (show Below w0.heap.size w0 w2 from by
                  obtain ⟨_, _, _, _, _, h2, _⟩ := HK2.out
                  exact h2.below)
                clear hk2)
             | (refine step_app1 (by rfl) (.tmp 37) (.tmp 39) (by rfl) w0.heap.size (by rfl) (HS1.out.1.path.alloc _).drew (by rfl) (Runes.news wr #[.int .i32 (nth rs j)] 21 [nth rs j] rfl (W32.one HW.out)).drew HL3.out HL2.out ?_
                intro A' c' wb ho' ho hor
                have HKID := hide (HP.out.kid (F2 := withB L (p ++ [nth rs j])) HS1.out.1 HS1.out.2.1 HS1.out.2.2.1 HS1.out.2.2.2.1 HS1.out.2.2.2.2 ((Below.refl wr.heap.size wr).alloc (Nat.le_refl _) _).drew ho ho' hor)
                have HSB := hide HKID.out.1
                have HBb := hide HSB.out.below
                have HOR := hide hor
                clear hor ho ho'))
          all_goals
            have HF := hide (show WkP w0 w bo Ao us A n c p (ownB L p ++ (rs.take (j + 1)).flatMap fun r => withB L (p ++ [r])) w2 from by
              have h1 := HKID.out.2 w2 HK2.out
              rw [flat_take (by have := HR.out.len; omega), ← List.append_assoc]
              exact h1)
            have HR2 := hide (show Own w2 wc.heap.size (some ⟨ab, ao, none⟩) m cr rs from by
              have hRa : Own (wr.alloc (.cells #[.int .i32 (nth rs j)] 21)).drew wc.heap.size (some ⟨ab, ao, none⟩) m cr rs := HR.out.below ((Below.refl wr.heap.size wr).alloc (Nat.le_refl _) _).drew
              have hlt2 : ∀ g, blk (some (⟨ab, ao, none⟩ : Addr)) = some g → g < (wr.alloc (.cells #[.int .i32 (nth rs j)] 21)).drew.heap.size := fun g hg => (hRa.blk_ge g hg).2
              rcases HOR.out with ⟨rfl, rfl, h1⟩ | ⟨h1, h2⟩
              · exact HK2.out.keepR HSB.out (hRa.kept h1 (.inr fun e => by
                  cases hb : blk (some (⟨ab, ao, none⟩ : Addr)) with
                  | none => cases hb
                  | some g => exact HAP.out g hb (by rw [← e]; exact hb))) HAP.out
              · exact HK2.out.keepR HSB.out (hRa.below h2) (apart_of hlt2 h1))
            clear HKID HK2 HSB HBb HB2 HOR SK HBr HS1 HP HR hlk' hc1 hc
            go_wp2_with fail
            go_roundw
            case rel => exact ⟨j + 1, by omega, by go_num, HF.out, HR2.out⟩
            case measure => simp [intOf]; omega
        · obtain rfl : j = m := by omega
          have HF := hide (show WkP w0 w bo Ao us A n c p (withB L p) wr from by
            have h1 := HP.out
            rw [List.take_of_length_le (by have := HR.out.len; omega)] at h1
            rw [HPARTS.out]
            exact h1)
          clear HP HR
          go_wp2_with fail
          go_end0
          exact ⟨rfl, HF.out⟩
end Go.Proofs.Ytchcpeenpijekaa
