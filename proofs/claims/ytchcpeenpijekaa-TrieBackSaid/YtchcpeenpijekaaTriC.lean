/- A trie: Add. -/
import Derived.Test.YtchcpeenpijekaaTriB
import Derived.Test.YtchcpeenpijekaaBaseA
namespace Go.Proofs.Ytchcpeenpijekaa
open Go.RowKit Go.Maps Go.MapKept Go.ChangeMaps
set_option linter.unusedVariables false

section
variable {w w' w1 w2 : World} {B t K k words unlike : Nat} {N N0 : List Int → Option Nd} {C : List Int → Nat} {Q Q0 : List (List Int)} {l p : List Int} {x y : Nd}
theorem TrieN.setU (h : TrieN w B t K N C Q words unlike) (u : Nat) : TrieN (w.setCell ⟨t, 2, none⟩ (.int .i64 (u : Int))) B t K N C Q words u := by
  obtain ⟨x, hx, hb⟩ := h.box
  exact ⟨h.tree.far _ fun p y hy => h.off hy, ⟨x, hx, hb.set 2 _⟩, h.one, h.mem, h.live, h.base⟩
theorem TrieN.setW (h : TrieN w B t K N C Q words unlike) (u : Nat) : TrieN (w.setCell ⟨t, 1, none⟩ (.int .i64 (u : Int))) B t K N C Q u unlike := by
  obtain ⟨x, hx, hb⟩ := h.box
  exact ⟨h.tree.far _ fun p y hy => h.off hy, ⟨x, hx, hb.set 1 _⟩, h.one, h.mem, h.live, h.base⟩
theorem TrieN.setC (h : TrieN w B t K N C Q words unlike) (hx : N p = some x) (c : Nat) : TrieN (w.setCell ⟨x.1, 0, none⟩ (.int .i64 (c : Int))) B t K N (fun q => if q = p then c else C q) Q words unlike := by
  obtain ⟨x0, hx0, hb⟩ := h.box
  refine ⟨h.tree.count hx c, ⟨x0, hx0, hb.far (p := ⟨x.1, 0, none⟩) (fun e => (h.off hx).1 e.symm) _⟩, h.one, h.mem, fun q hq => ?_, h.base⟩
  by_cases e : q = p
  · rw [e, hx]; rfl
  · rw [if_neg e] at hq
    exact h.live q hq

theorem plusN_le' (M : Int → Option Value) (r : Int) (n : Nat) : plusN M r n ≤ n + 1 := by unfold plusN; split <;> omega
/-- A store into a map whose run is known. -/
theorem wpList_storeRun {w w' : World} {ops : Array Oper} {rest : List Oper} {o : Oper} {a : Act} {Q : Exit → Act → World → Prop} (hg : o.guard = none) (m x v : Operand) (hop : o.op = Op.mapUpdate 73 m x v) {mv xv vv : Value}
    (hm : a.eval m = mv) (hx : a.eval x = xv) (hv : a.eval v = vv) (hrun : (Instr.mapUpdate 73 mv xv vv).run Try.prog w = .ok () w')
    (hK : wpList Try.prog ops Q rest (a.put o.dst undef) w') : wpList Try.prog ops Q (o :: rest) a w := by
  refine wpList_plain hg fun K' hK' => ?_
  unfold Oper.wp
  simp [execOp, hop, hm, hx, hv, hrun, Result.andThen]
  exact hK' _ _ hK
/-- What Add leaves. -/
def AddR (w : World) (B t K n : Nat) (N : List Int → Option Nd) (C : List Int → Nat) (Q : List (List Int)) (words unlike : Nat) (l : List Int) (e : Ending) (w' : World) : Prop :=
  e = .returned (.int .i64 0) ∧ Turn N t w w' ∧ ∃ N' Q', TrieN w' B t (K + n) N' (fun q => if q = l then C l + 1 else C q) Q' (words + 1) (if C l = 0 then unlike + 1 else unlike) ∧ ∀ p, p ∈ Q' ↔ p ∈ Q ∨ p <+: l
theorem AddSt.done {wr : World} (h : AddSt w wr B t K k N0 N C Q0 Q words unlike l x) (hk : k = l.length) :
    (0 < C l → AddR w B t K k N0 C Q0 words unlike l (.returned (.int .i64 0)) ((wr.setCell ⟨x.1, 0, none⟩ (.int .i64 ((C l + 1 : Nat) : Int))).setCell ⟨t, 1, none⟩ (.int .i64 ((words + 1 : Nat) : Int)))) ∧
      (C l = 0 → AddR w B t K k N0 C Q0 words unlike l (.returned (.int .i64 0)) (((wr.setCell ⟨t, 2, none⟩ (.int .i64 ((unlike + 1 : Nat) : Int))).setCell ⟨x.1, 0, none⟩ (.int .i64 ((C l + 1 : Nat) : Int))).setCell ⟨t, 1, none⟩ (.int .i64 ((words + 1 : Nat) : Int)))) := by
  have hx := h.at_
  have hm := h.mem
  rw [hk, List.take_of_length_le (Nat.le_refl _)] at hx hm
  have hin : InT N0 t x.1 ∨ w.heap.size ≤ x.1 := by
    rcases h.old _ _ h.at_ with h1 | h1
    · exact .inl (.inr ⟨_, _, h1, .inl rfl⟩)
    · exact .inr h1.1
  refine ⟨fun h0 => ?_, fun h0 => ?_⟩
  · refine ⟨rfl, (h.turn.set (a := ⟨x.1, 0, none⟩) hin _).set (a := ⟨t, 1, none⟩) (.inl (.inl rfl)) _, N, Q, ?_, hm⟩
    rw [if_neg (by omega)]
    exact (h.tn.setC hx _).setW _
  · refine ⟨rfl, ((h.turn.set (a := ⟨t, 2, none⟩) (.inl (.inl rfl)) _).set (a := ⟨x.1, 0, none⟩) hin _).set (a := ⟨t, 1, none⟩) (.inl (.inl rfl)) _, N, Q, ?_, hm⟩
    rw [if_pos h0]
    exact ((h.tn.setU _).setC hx _).setW _

set_option maxRecDepth 100000 in
set_option maxHeartbeats 2000000 in
theorem tadd_ok (A : Option Addr) (n c : Nat) (l : List Int) (h : TrieN w B t K N C Q words unlike) (hA : Runes w A n l) (hmay : mayS l = true) (hn0 : 0 < n) (hn : n ≤ 1000) (hw : words < 1000) (hB : B ≤ w.heap.size) (hK : K ≤ 1000000000) (hu : unlike ≤ 1000000000) (hQ : Q.length ≤ 1000000000) (hC : C l ≤ 1000000000) :
    Calls Try.prog 18 #[.pointer (some ⟨t, 0, none⟩), .slice A n c] w (AddR w B t K n N C Q words unlike l) := by
  obtain ⟨x0, hx0, hb⟩ := h.box
  have M1 := hide (may_any A n c l w hA (by omega))
  rw [hmay] at M1
  have HST := hide (AddSt.start h l hx0)
  have HL := hide hA
  have HT := hide h
  have hlen := hA.len
  have HLN := hide hlen
  have hd0 : ((n : Int) == 0) = false := by simp; omega
  have hd1 : decide ((1000 : Int) < (n : Int)) = false := by simp; omega
  have hd2 : decide ((1000 : Int) ≤ (words : Int)) = false := by simp; omega
  have c0 : w.cell? ⟨t, 0, none⟩ = some (.pointer (some ⟨x0.1, 0, none⟩)) := hb.cell 0
  have c1 : w.cell? ⟨t, 1, none⟩ = some (.int .i64 (words : Int)) := hb.cell 1
  clear h hA hb hx0 hmay hlen
  go_enter Try.func18, Try.ntmps18
  go_wp2_with (go_at_call 44; refine M1.out.mono ?_; rintro e w1 ⟨rfl, rfl⟩)
  clear c0 c1 M1 hd1 hd2
  go_loopw [5, 37] (fun s5 s37 wr => ∃ (k : Nat) (x : Nd) (N' : List Int → Option Nd) (Q' : List (List Int)), k ≤ n ∧ s37 = .int .i64 k ∧ s5 = .pointer (some ⟨x.1, 0, none⟩) ∧ Q'.length ≤ 1000000000 + k ∧ Hid (AddSt w wr B t K k N N' C Q Q' words unlike l x)) (fun _ s37 _ => n - (intOf s37).toNat)
  case atStart => exact ⟨0, x0, N, Q, Nat.zero_le _, rfl, rfl, by omega, HST.out⟩
  case round =>
    obtain ⟨k, x, N', Q', hk, rfl, rfl, hQ', HS⟩ := hrel
    by_cases hlt : k < n
    · have HLW := hide (HS.out.turn.runes HT.out HL.out)
      obtain ⟨ab, ao, rfl, hc⟩ := HLW.out.at_ k hlt
      have hwf := HL.out.wf.bd k
      have hlk := HS.out.tn.tree.look HS.out.at_ hwf
      rw [← take_snoc (by have := HLN.out; omega)] at hlk
      have hc1 : wr.cell? ⟨x.1, 1, none⟩ = some (.map (some x.2)) := (HS.out.tn.tree.node _ _ HS.out.at_).cell 1
      have HW := hide hwf
      clear hwf
      cases hy : N' (l.take (k + 1)) with
      | some y =>
        rw [hy] at hlk
        have hlk' : (Instr.lookup 73 (.map (some x.2)) (.int .i32 (nth l k)) false).run Try.prog wr = .ok (.pointer (some ⟨y.1, 0, none⟩)) wr := hlk
        have HY := hide (HS.out.yes (by have := HLN.out; omega) hy)
        clear hy hlk
        go_wp2_with fail
        go_roundw
        case rel => exact ⟨k + 1, y, N', Q', by omega, by go_num, rfl, by omega, HY.out⟩
        case measure => simp [intOf]; omega
      | none =>
        rw [hy] at hlk
        have hlk' : (Instr.lookup 73 (.map (some x.2)) (.int .i32 (nth l k)) false).run Try.prog wr = .ok (.pointer none) wr := hlk
        have HY := hide hy
        clear hy hlk
        go_upto_region 12 with fail
        obtain ⟨b, hbb⟩ : ∃ b, wr.heap.size = b := ⟨_, rfl⟩
        have hmk := run_makeMap (P := Try.prog) 73 wr
        rw [hbb] at hmk
        have hB1 := ((Below.refl wr.heap.size wr).alloc (Nat.le_refl _) (.map #[] 0)).alloc (by simp) (.cells #[.int .i64 0, .map (some b)] 75)
        have hG1 := Box.newAt (g := b + 1) (w := wr.alloc (.map #[] 0)) (by simp [hbb]) 75 #[.int .i64 0, .map (some b)]
        have hM1 := (MapM.newAt hbb).alloc (.cells #[.int .i64 0, .map (some b)] 75)
        obtain ⟨m, hmK, hm⟩ := HS.out.tn.tree.kids _ _ HS.out.at_
        obtain ⟨w2, hrun, hm2, hg2, hs2⟩ := (hm.below hB1).store HW.out (.pointer (some ⟨b + 1, 0, none⟩)) (by unfold maxLen; omega)
        have HN := hide (HS.out.no (l := l) (by have := HLN.out; omega) HY.out HW.out hB hB1 hG1 hM1 (by omega) (by omega) hm2 (by have := plusN_le' (kidV N' (l.take k)) (nth l k) m; omega) hg2)
        obtain ⟨xt, hxt, hbt⟩ := HS.out.tn.box
        have hbt2 := (hbt.below hB1).grown hg2 (fun e => (HS.out.tn.off HS.out.at_).2 (by injection e with e; exact e.symm))
        have c3 : w2.cell? ⟨t, 3, none⟩ = some (.int .i64 (Q'.length : Int)) := hbt2.cell 3
        have c3f := hbt2.frozen 3
        have e3 : ((Q'.length + 1 : Nat) : Int) = (Q'.length : Int) + 1 := by omega
        rw [e3] at HN
        have hNx : addN N' (l.take (k + 1)) (b + 1, b) (l.take k) = some x := by
          unfold addN
          rw [if_neg fun e => by
            have := congrArg List.length e
            rw [List.length_take, List.length_take] at this
            have := HLN.out
            omega]
          exact HS.out.at_
        have hlk3 := HN.out.tn.tree.look hNx HW.out
        rw [← take_snoc (by have := HLN.out; omega)] at hlk3
        have hlk3' : (Instr.lookup 73 (.map (some x.2)) (.int .i32 (nth l k)) false).run Try.prog (w2.setCell ⟨t, 3, none⟩ (.int .i64 ((Q'.length : Int) + 1))) = .ok (.pointer (some ⟨b + 1, 0, none⟩)) (w2.setCell ⟨t, 3, none⟩ (.int .i64 ((Q'.length : Int) + 1))) := by
          have e : addN N' (l.take (k + 1)) (b + 1, b) (l.take (k + 1)) = some (b + 1, b) := by unfold addN; rw [if_pos rfl]
          rw [e] at hlk3
          exact hlk3
        have hc4 : (w2.setCell ⟨t, 3, none⟩ (.int .i64 ((Q'.length : Int) + 1))).cell? ⟨x.1, 1, none⟩ = some (.map (some x.2)) := (HN.out.tn.tree.node _ _ hNx).cell 1
        have HBB := hide hbb
        clear hlk' hlk3 hB1 hG1 hM1 hm hm2 hg2 hs2 hxt hbt hbt2 e3 hNx
        go_upto_region 14 with (at_mapUpdate; refine wpList_storeRun rfl (.tmp 51) (.tmp 52) (.tmp 55) rfl rfl rfl rfl hrun ?_)
        clear hmk hrun c3 c3f hc1 hc hbb
        generalize w2.setCell ⟨t, 3, none⟩ (.int .i64 ((Q'.length : Int) + 1)) = w3 at HN hlk3' hc4 ⊢
        go_wp2_with fail
        go_roundw
        case rel => exact ⟨k + 1, (b + 1, b), _, _, by omega, by go_num, rfl, by simp; omega, HN.out⟩
        case measure => simp [intOf]; omega
    · obtain rfl : k = n := by omega
      have hD := HS.out.done HLN.out.symm
      have hN := HS.out.at_
      have hnode := HS.out.tn.tree.node _ _ HS.out.at_
      rw [List.take_of_length_le (by have := HLN.out; omega)] at hN hnode
      obtain ⟨xt, hxt, hbt⟩ := HS.out.tn.box
      have hne := HS.out.tn.off HS.out.at_
      have c0 : wr.cell? ⟨x.1, 0, none⟩ = some (.int .i64 (C l : Nat)) := hnode.cell 0
      have c0f := hnode.frozen 0
      have c1 : wr.cell? ⟨t, 1, none⟩ = some (.int .i64 (words : Nat)) := hbt.cell 1
      have c2 : wr.cell? ⟨t, 2, none⟩ = some (.int .i64 (unlike : Nat)) := hbt.cell 2
      have c1f := hbt.frozen 1
      have c2f := hbt.frozen 2
      have hn1 : x.1 ≠ t := hne.1
      have hn2 : t ≠ x.1 := fun e => hne.1 e.symm
      have e1 : ((C l + 1 : Nat) : Int) = (C l : Int) + 1 := by omega
      have e2 : ((words + 1 : Nat) : Int) = (words : Int) + 1 := by omega
      have e3 : ((unlike + 1 : Nat) : Int) = (unlike : Int) + 1 := by omega
      rw [e1, e2, e3] at hD
      have HD := hide hD
      clear hD hN hnode hxt hbt hne e1 e2 e3
      by_cases h0 : C l = 0
      · have hd0 : (((C l : Nat) : Int) == 0) = true := by simp [h0]
        have HD0 := hide (HD.out.2 h0)
        clear h0 HD
        go_wp2_with fail
        go_ret
        exact HD0.out
      · have hd0 : (((C l : Nat) : Int) == 0) = false := by simp [h0]
        have HD0 := hide (HD.out.1 (by omega))
        clear h0 HD
        go_wp2_with fail
        go_ret
        exact HD0.out
end
end Go.Proofs.Ytchcpeenpijekaa
