/- Pieces, joined: BagD, BagE, BagF. -/
import Derived.Test.YtchcpeenpijekaaQ27

/- The reference's bag: Nodes; items one by one. -/
namespace Go.Proofs.Ytchcpeenpijekaa
open Go.RowKit Go.Maps Go.MapKept Go.ChangeMaps Go.Shelf
set_option linter.unusedVariables false

def lastW : List Int → List Itm → List Int
  | v, [] => v
  | _, x :: L => lastW x.1 L
theorem nodesGo_snoc : ∀ (v : List Int) (L : List Itm) (x : Itm), nodesGo v (L ++ [x]) = nodesGo v L + (x.1.length - lcp (lastW v L) x.1)
  | v, [], x => by simp [nodesGo, lastW]
  | v, y :: L, x => by
    rw [List.cons_append, nodesGo, nodesGo, nodesGo_snoc y.1 L x, lastW]
    omega
theorem lastW_snoc : ∀ (v : List Int) (L : List Itm) (x : Itm), lastW v (L ++ [x]) = x.1
  | v, [], x => rfl
  | v, y :: L, x => by rw [List.cons_append, lastW]; exact lastW_snoc y.1 L x
theorem lcp_nil (x : List Int) : lcp [] x = 0 := by unfold lcp; cases x <;> rfl
theorem nodes_zero {L : List Itm} {x : Itm} (h : L[0]? = some x) : nodesB (L.take 1) = nodesB (L.take 0) + (x.1.length - 0) := by
  cases L with
  | nil => cases h
  | cons y L =>
    injection h with h
    subst h
    simp [nodesB, nodesGo, lcp_nil]
theorem nodes_succ {L : List Itm} {j : Nat} {x v : Itm} (hv : L[j]? = some v) (hx : L[j + 1]? = some x) : nodesB (L.take (j + 1 + 1)) = nodesB (L.take (j + 1)) + (x.1.length - lcp v.1 x.1) := by
  obtain ⟨hj, rfl⟩ := List.getElem?_eq_some_iff.1 hx
  obtain ⟨hj', rfl⟩ := List.getElem?_eq_some_iff.1 hv
  rw [List.take_succ_eq_append_getElem hj]
  unfold nodesB
  rw [nodesGo_snoc, List.take_succ_eq_append_getElem hj', lastW_snoc]
  omega
theorem lcp_drop {v x : List Int} {k : Nat} (h1 : k < v.length) (h2 : k < x.length) : lcp (v.drop k) (x.drop k) = if nth v k = nth x k then lcp (v.drop (k + 1)) (x.drop (k + 1)) + 1 else 0 := by
  rw [List.drop_eq_getElem_cons h1, List.drop_eq_getElem_cons h2, nth_eq h1, nth_eq h2, lcp]
theorem lcp_end {v x : List Int} {k : Nat} (h : v.length ≤ k ∨ x.length ≤ k) : lcp (v.drop k) (x.drop k) = 0 := by
  rcases h with h | h
  · rw [List.drop_of_length_le h, lcp_nil]
  · rw [List.drop_of_length_le h]
    unfold lcp
    cases v.drop k <;> rfl
theorem nodesB_mono {L : List Itm} (h : ∀ x ∈ L, x.1.length ≤ 1000) (hl : L.length ≤ 1000) (i : Nat) : nodesB (L.take i) ≤ 1000001 := by
  have h1 := nodesGo_le [] (L.take i) fun x hx => h x (List.mem_of_mem_take hx)
  have h2 : (L.take i).length ≤ 1000 := by rw [List.length_take]; omega
  unfold nodesB
  omega

section
variable {P : Nat → Prop} {w w' : World} {B g n c : Nat} {A : Option Addr} {us : List IV} {L : List Itm}
set_option maxRecDepth 100000 in
set_option maxHeartbeats 4000000 in
theorem bnodes_any (h : BagV P w B g A n c us L) (hs : Small L) :
    Calls Try.prog 48 #[.pointer (some ⟨g, 0, none⟩)] w fun e w' => e = .returned (.int .i64 (nodesB L : Nat)) ∧ ∃ q, w' = w.drewN q := by
  have hL := h.len
  have hLn : L.length ≤ 1000 := by have := len_le_all hs.bag; have := hs.all; omega
  have HB := hide h
  have HL := hide hL
  have HM := hide (fun i => nodesB_mono hs.len hLn i)
  have HLEN := hide hs.len
  have c0 : w.cell? ⟨g, 0, none⟩ = some (.slice A n c) := h.box.cell 0
  have hn : n ≤ 1000 := by omega
  clear h hs hL hLn
  go_enter Try.func48, Try.ntmps48
  go_wp2_with fail
  go_loopw [3, 4] (fun s3 s4 wr => ∃ i s q : Nat, i ≤ n ∧ s ≤ 1000001 ∧ s4 = .int .i64 i ∧ s3 = .int .i64 s ∧ wr = w.drewN q ∧ Hid (s = nodesB (L.take i))) (fun _ s4 _ => n - (intOf s4).toNat)
  case atStart => exact ⟨0, 1, 0, Nat.zero_le _, by omega, rfl, rfl, rfl, rfl⟩
  case round =>
    obtain ⟨i, s, q, hi, hs, rfl, rfl, rfl, HS⟩ := hrel
    by_cases hlt : i < n
    · obtain ⟨u, b, hu, hLu, rfl, hc1, hc2, -, hrd⟩ := HB.out.at_ hlt
      have hul : u.n ≤ 1000 := by have h1 := HLEN.out _ (List.mem_of_getElem? hLu); have h2 := hrd.len; dsimp only at h1; omega
      have i0 : (0 : Int) ≤ (i : Int) := by omega
      have i1 : (i : Int) < (n : Int) := by omega
      have HU := hide (And.intro hLu hrd)
      clear hu hLu hrd hc2
      by_cases hz : i = 0
      · have hd : decide ((0 : Int) < (i : Int)) = false := by simp; omega
        have hdn : ¬ 0 < i := by omega
        have HN := hide (show s + u.n = nodesB (L.take (i + 1)) from by
          have h1 := HU.out.1
          have h2 := HS.out
          rw [hz] at h1 h2 ⊢
          rw [nodes_zero h1, h2]
          have := HU.out.2.len
          simp [this])
        have HZ := hide hz
        have hsb : s + u.n ≤ 1000001 := by have := HN.out; have := HM.out (i + 1); omega
        clear hz HS
        go_wp2_with fail
        go_loopw [6] (fun s6 wx => s6 = .int .i64 0 ∧ ∃ q', wx = w.drewN q') (fun _ _ => 0)
        case atStart => exact ⟨rfl, _, rfl⟩
        case round =>
          obtain ⟨rfl, q', rfl⟩ := hrel
          go_wp2_with fail
          go_quiet (fail)
          go_wp2_with fail
          go_roundw
          case rel => exact ⟨i + 1, s + u.n, _, by omega, hsb, by go_num, by rw [← HU.out.2.len]; go_num, rfl, HN.out⟩
          case measure => simp [intOf]; omega
      · obtain ⟨j, hj⟩ : ∃ j, i = j + 1 := ⟨i - 1, by omega⟩
        obtain ⟨v, b', hv, hLv, hbb, hd1, hd2, -, hrv⟩ := HB.out.at_ (j := j) (by omega)
        injection hbb with hbb
        injection hbb with hbb
        subst hbb
        have hvl : v.n ≤ 1000 := by have h1 := HLEN.out _ (List.mem_of_getElem? hLv); have h2 := hrv.len; dsimp only at h1; omega
        have HN := hide (show s + (u.t.length - lcp v.t u.t) = nodesB (L.take (i + 1)) from by
          have h1 := HU.out.1
          have h2 := HS.out
          rw [hj] at h1 h2 ⊢
          rw [nodes_succ hLv h1, h2])
        have HLC := hide (lcp_le v.t u.t)
        have hsb : s + (u.t.length - lcp v.t u.t) ≤ 1000001 := by have := HN.out; have := HM.out (i + 1); omega
        have hd : decide ((0 : Int) < (i : Int)) = true := by simp; omega
        have hdi : (0 : Int) < (i : Int) := by omega
        have hdn : 0 < i := by omega
        have e1 : IntKind.i64.wrap ((i : Int) - 1) = (j : Int) := by rw [IntWalk.i64_in _ (by omega)]; omega
        have j0 : (0 : Int) ≤ (j : Int) := by omega
        have j1 : (j : Int) < (n : Int) := by omega
        have HV := hide (And.intro hLv hrv)
        have HJ := hide hj
        have HSB := hide hsb
        clear hz hv hLv hrv hd2 hj HS hsb
        go_wp2_with fail
        go_loopw [6] (fun s6 wx => ∃ k q' : Nat, k ≤ u.n ∧ k ≤ v.n ∧ s6 = .int .i64 k ∧ wx = w.drewN q' ∧ Hid (lcp v.t u.t = k + lcp (v.t.drop k) (u.t.drop k))) (fun s6 _ => u.n - (intOf s6).toNat)
        case atStart => exact ⟨0, _, Nat.zero_le _, Nat.zero_le _, rfl, rfl, by rw [List.drop_zero, List.drop_zero, Nat.zero_add]; exact rfl⟩
        case round =>
          obtain ⟨k, q', hk1, hk2, rfl, rfl, HK⟩ := hrel
          go_wp2_with fail
          have hul2 := HU.out.2.len
          have hvl2 := HV.out.2.len
          by_cases hku : k < u.n
          · by_cases hkv : k < v.n
            · obtain ⟨ub, uo, hU, hcu⟩ := HU.out.2.at_ k hku
              obtain ⟨vb, vo, hV, hcv⟩ := HV.out.2.at_ k hkv
              rw [hU] at hc1
              rw [hV] at hd1
              have hlc := lcp_drop (v := v.t) (x := u.t) (k := k) (by omega) (by omega)
              generalize nth u.t k = a at hcu hlc
              generalize nth v.t k = a' at hcv hlc
              have k0 : (0 : Int) ≤ (k : Int) := by omega
              have k1 : (k : Int) < (u.n : Int) := by omega
              have k2 : (k : Int) < (v.n : Int) := by omega
              by_cases hab : a' = a
              · rw [if_pos hab] at hlc
                have HK2 := hide (show lcp v.t u.t = (k + 1) + lcp (v.t.drop (k + 1)) (u.t.drop (k + 1)) from by rw [HK.out, hlc]; omega)
                have hdd : (a == a') = true := by simp [hab]
                clear hlc hab hul2 hvl2
                go_quiet (fail)
                go_wp2_with fail
                go_roundw
                case rel => exact ⟨k + 1, _, by omega, by omega, by go_num, rfl, HK2.out⟩
                case measure => simp [intOf]; omega
              · rw [if_neg hab] at hlc
                have HK2 := hide (show k = lcp v.t u.t from by rw [HK.out, hlc]; rfl)
                have hdd : (a == a') = false := by simp; exact fun e => hab e.symm
                clear hlc hab hul2 hvl2
                go_quiet (fail)
                go_wp2_with fail
                go_roundw
                case rel => exact ⟨i + 1, s + (u.n - k), _, by omega, by have := HSB.out; have := HK2.out; have := HU.out.2.len; omega, by go_num, by first | rfl | (congr 1; omega), rfl, by have := HN.out; have := HK2.out; have h9 := HU.out.2.len; rw [← this, h9] at HN; exact HN.out⟩
                case measure => simp [intOf]; omega
            · have hkv2 : k = v.n := by omega
              have hnk : ¬ k < v.n := hkv
              have HK2 := hide (show k = lcp v.t u.t from by rw [HK.out, lcp_end (.inl (by omega))]; rfl)
              have k1 : (k : Int) < (u.n : Int) := by omega
              clear hul2 hvl2 hkv2 hkv
              go_quiet (fail)
              go_wp2_with fail
              go_roundw
              case rel => exact ⟨i + 1, s + (u.n - k), _, by omega, by have := HSB.out; have := HK2.out; have := HU.out.2.len; omega, by go_num, by first | rfl | (congr 1; omega), rfl, by have := HN.out; have := HK2.out; have h9 := HU.out.2.len; rw [← this, h9] at HN; exact HN.out⟩
              case measure => simp [intOf]; omega
          · have hnk : ¬ k < u.n := hku
            have HK2 := hide (show k = lcp v.t u.t from by rw [HK.out, lcp_end (.inr (by omega))]; rfl)
            clear hul2 hvl2 hku
            go_quiet (fail)
            go_wp2_with fail
            go_roundw
            case rel => exact ⟨i + 1, s + (u.n - k), _, by omega, by have := HSB.out; have := HK2.out; have := HU.out.2.len; omega, by go_num, by first | rfl | (congr 1; omega), rfl, by have := HN.out; have := HK2.out; have h9 := HU.out.2.len; rw [← this, h9] at HN; exact HN.out⟩
            case measure => simp [intOf]; omega
    · obtain rfl : i = n := by omega
      have HE := hide (show s = nodesB L from by
        have := HS.out
        rwa [List.take_of_length_le (by rw [HL.out.2]; exact Nat.le_refl _)] at this)
      clear HS
      go_wp2_with fail
      go_ret
      exact ⟨by rw [← HE.out]; rfl, q, rfl⟩
end
end Go.Proofs.Ytchcpeenpijekaa

/- Items one by one: alike. -/
namespace Go.Proofs.Ytchcpeenpijekaa
open Go.RowKit Go.Maps Go.MapKept Go.ChangeMaps Go.Shelf
set_option linter.unusedVariables false

set_option maxRecDepth 100000 in
set_option maxHeartbeats 2000000 in
theorem sameItems_yes (A C : Option Addr) (n c m d : Nat) (us vs : List IV) (w : World) (hA : ItemsM w A n us) (hC : ItemsM w C m vs) (hu : Rd w us) (hv : Rd w vs) (he : us.map IV.itm = vs.map IV.itm) (hn : n ≤ 1000000) (hb : ∀ u ∈ us, u.n ≤ 1000000) (hb2 : ∀ u ∈ vs, u.n ≤ 1000000) :
    Calls Try.prog 28 #[.slice A n c, .slice C m d] w fun e w' => e = .returned (.bool true) ∧ ∃ q, w' = w.drewN q := by
  have hnm : n = m := by
    have h1 := congrArg List.length he
    rw [List.length_map, List.length_map, hA.len, hC.len] at h1
    exact h1
  subst hnm
  have HA := hide hA
  have HC := hide hC
  have HU := hide hu
  have HV := hide hv
  have HE := hide he
  have HB := hide (And.intro hb hb2)
  clear hA hC hu hv he hb hb2
  go_enter Try.func28, Try.ntmps28
  go_wp2_with fail
  go_loopw [5] (fun s5 wr => ∃ i : Nat, i ≤ n ∧ s5 = .int .i64 i ∧ Hid (∃ q, wr = w.drewN q)) (fun s5 _ => n - (intOf s5).toNat)
  case atStart => exact ⟨0, Nat.zero_le _, rfl, 0, rfl⟩
  case round =>
    obtain ⟨i, hi, rfl, HQ⟩ := hrel
    have HW := hide (show Below w.heap.size w wr from by obtain ⟨q, rfl⟩ := HQ.out; exact lt_drewN w q)
    by_cases hlt : i < n
    · obtain ⟨u, hu⟩ : ∃ u, us[i]? = some u := ⟨_, List.getElem?_eq_getElem (by rw [HA.out.len]; exact hlt)⟩
      obtain ⟨v, hv⟩ : ∃ v, vs[i]? = some v := ⟨_, List.getElem?_eq_getElem (by rw [HC.out.len]; exact hlt)⟩
      have huv : u.itm = v.itm := by
        have h1 := congrArg (fun l => l[i]?) HE.out
        simp only [List.getElem?_map, hu, hv, Option.map_some] at h1
        injection h1
      obtain ⟨a, ao, rfl, ha1, ha2⟩ := (HA.out.below HW.out).at_ i u hu
      obtain ⟨b, bo, rfl, hb1, hb2⟩ := (HC.out.below HW.out).at_ i v hv
      have hk : u.k = v.k := congrArg Prod.snd huv
      have ht : u.t = v.t := congrArg Prod.fst huv
      have hS := fun q => refSame_any u.A v.A u.n u.c v.n v.c u.t v.t (wr.drewN q) (((HU.out u (List.mem_of_getElem? hu)).below HW.out).drewN q) (((HV.out v (List.mem_of_getElem? hv)).below HW.out).drewN q) (by have := HB.out.1 u (List.mem_of_getElem? hu); omega) (by have := HB.out.2 v (List.mem_of_getElem? hv); omega)
      have hss : sameS u.t v.t = true := by rw [ht]; simp [sameS]
      rw [hss] at hS
      rw [hk] at ha2
      have HS := hide hS
      have i0 : (0 : Int) ≤ (i : Int) := by omega
      have i1 : (i : Int) < (n : Int) := by omega
      have hkk : (((v.k : Nat) : Int) != (v.k : Int)) = false := by simp
      clear hu hv huv hk ht hS
      go_wp2_with fail
      go_quiet ((go_at_call 31; exact Calls.quiet_of (HS.out _)))
      go_wp2_with fail
      go_roundw
      case rel => exact ⟨i + 1, by omega, by go_num, by obtain ⟨q, rfl⟩ := HQ.out; exact ⟨_, World.drewN_drewN _ _ _⟩⟩
      case measure => simp [intOf]; omega
    · go_wp2_with fail
      go_ret
      exact ⟨rfl, HQ.out⟩
end Go.Proofs.Ytchcpeenpijekaa

/- The reference's bag: what an operation on it turns; Add. -/
namespace Go.Proofs.Ytchcpeenpijekaa
open Go.RowKit Go.Maps Go.MapKept Go.ChangeMaps Go.Shelf
set_option linter.unusedVariables false

/-- What an operation on the reference's bag leaves as it was: all below B, all texts, all blocks of other types. -/
structure CalmB (B : Nat) (w w' : World) : Prop where
  low : Below B w w'
  runes : ∀ {A : Option Addr} {n : Nat} {s : List Int}, Runes w A n s → Runes w' A n s
  keep : ∀ {g : Nat} {o : Obj}, w.heap[g]? = some o → (∀ cs ty k, o = .cells cs ty k → ty ≠ 28 ∧ ty ≠ 49) → w'.heap[g]? = some o
section
variable {B : Nat} {w w' w1 w2 : World}
theorem CalmB.of_below (h : Below w.heap.size w w') (hB : B ≤ w.heap.size) : CalmB B w w' := ⟨h.mono hB, fun hr => hr.below h, fun ho _ => (h.block _ (Array.getElem?_eq_some_iff.1 ho).1).trans ho⟩
theorem CalmB.trans (h : CalmB B w w1) (k : CalmB B w1 w2) : CalmB B w w2 := ⟨h.low.trans k.low, fun hr => k.runes (h.runes hr), fun ho h1 => k.keep (h.keep ho h1) h1⟩
/-- A block of a bag's own types has turned. -/
theorem CalmB.turn {g : Nat} {cs : Array Value} {ty : TypeId} {k : Nat × Nat} (ho : w.heap[g]? = some (.cells cs ty k)) (ht : ty = 28 ∨ ty = 49) (hc : ∀ (i : Nat) x, cs[i]? ≠ some (.int .i32 x)) (hB : B ≤ g) (hg : w.grownBy w' (some g)) (hB2 : B ≤ w.heap.size) : CalmB B w w' :=
  ⟨(Below.refl B w).grown hg hB2 fun x e => by cases e; exact hB, fun {A n s} hr => hr.keep fun b o ha hn => hg.block b (hr.lt hn ha) fun e => by
    injection e with e
    subst e
    obtain ⟨b', o', ha', h1⟩ := hr.at_ 0 hn
    rw [ha] at ha'
    injection ha' with ha'
    injection ha' with e1 e2
    subst e1
    have h2 : w.cell? ⟨b, o' + 0, none⟩ = cs[o' + 0]? := by simp [World.cell?, ho]
    rw [h2] at h1
    exact hc _ _ h1, fun {g' o} ho' h1 => (hg.block g' (Array.getElem?_eq_some_iff.1 ho').1 fun e => by
    injection e with e
    subst e
    rw [ho] at ho'
    injection ho' with ho'
    have := h1 _ _ _ ho'.symm
    rcases ht with h | h
    · exact this.1 h
    · exact this.2 h).trans ho'⟩
theorem TrieB.calm {t K : Nat} {L : List Itm} {B' : Nat} (h : TrieB w B t K L) (hc : CalmB B' w w') : TrieB w' B t K L := by
  obtain ⟨h1, N, Q, h2⟩ := h
  have hT := h2.trie
  obtain ⟨x0, hx0, hb0⟩ := hT.box
  refine ⟨h1, N, Q, ⟨hT.tree.keep fun p x hx => ?_, ⟨x0, hx0, hc.keep hb0 fun cs ty k e => ?_⟩, hT.one, hT.mem, hT.live, hT.base⟩, h2.bag, h2.mem⟩
  · have hb := hT.tree.node p x hx
    obtain ⟨n, _, hm⟩ := hT.tree.kids p x hx
    obtain ⟨o, ho, hn⟩ := hm.noCells
    refine ⟨(hc.keep hb fun cs ty k e => ?_).trans hb.symm, (hc.keep ho fun cs ty k e => ?_).trans ho.symm⟩
    · injection e with _ e
      subst e
      exact ⟨by decide, by decide⟩
    · subst e
      cases hn
  · injection e with _ e
    subst e
    exact ⟨by decide, by decide⟩
theorem BagM.calm {P : Nat → Prop} {g : Nat} {L : List Itm} {B' : Nat} (h : BagM P w B g L) (hc : Calm B' w w') : BagM P w' B g L := by
  obtain ⟨A, n, c, us, h⟩ := h
  exact ⟨A, n, c, us, hc.box h.box (by decide) (by decide), hc.rowG h.row (by decide) (by decide), h.eq, fun u hu => hc.runes (h.rd u hu), h.off, h.base, h.cap⟩
theorem CalmB.own (h : CalmB B w w') {B' n c : Nat} {A : Option Addr} {l : List Int} (ho : Own w B' A n c l) : Own w' B' A n c l :=
  ho.keep fun g e => by
    obtain ⟨cur, hc⟩ := ho.obj (g := g) (by rw [e]; rfl)
    exact (h.keep hc fun cs ty k e => by
      injection e with _ e
      subst e
      exact ⟨by decide, by decide⟩).trans hc.symm
theorem CalmB.box (h : CalmB B w w') {g : Nat} {cs : Array Value} {ty : TypeId} (ho : Box w g ty cs) (h1 : ty ≠ 28) (h2 : ty ≠ 49) : Box w' g ty cs := h.keep ho fun cs ty k e => by
  injection e with _ e
  subst e
  exact ⟨h1, h2⟩
end

theorem bag_cells {A : Option Addr} {n c : Nat} : ∀ (i : Nat) x, (#[Value.slice A n c] : Array Value)[i]? ≠ some (.int .i32 x) := fun i x => by
  match i with
  | 0 => simp
  | i + 1 => simp

theorem map_set_itm (us : List IV) (k : Nat) (u : IV) : (us.set k u).map IV.itm = (us.map IV.itm).set k u.itm := List.map_set ..
section
variable {P : Nat → Prop} {w w' : World} {B g n c : Nat} {A : Option Addr} {us : List IV} {L : List Itm}
theorem BagV.sizes (h : BagV P w B g A n c us L) (hs : Small L) : n ≤ 1000 ∧ ∀ u ∈ us, u.n ≤ 1000 := by
  have h1 := h.len
  have h2 := len_le_all hs.bag
  have h3 := hs.all
  refine ⟨by omega, fun u hu => ?_⟩
  have h4 := hs.len u.itm (by rw [← h.eq]; exact List.mem_map.2 ⟨u, hu, rfl⟩)
  have h5 := (h.rd u hu).len
  unfold IV.itm at h4
  dsimp only at h4
  omega
/-- An item's count is another one. -/
theorem BagV.setK (h : BagV P w B g A n c us L) {k : Nat} {u : IV} (hu : us[k]? = some u) {b : Nat} (hA : A = some ⟨b, 0, none⟩) (c' : Nat) (hB : B ≤ w.heap.size) (hBb : B ≤ b) :
    BagV P (w.setCell ⟨b, k * 2 + 1, none⟩ (.int .i64 (c' : Int))) B g A n c (us.set k { u with k := c' }) (L.set k (u.t, c')) ∧ CalmB B w (w.setCell ⟨b, k * 2 + 1, none⟩ (.int .i64 (c' : Int))) := by
  subst hA
  have hne := row_ne_box h.row h.box (by decide)
  have hbg : g ≠ b := fun e => hne (by rw [e]; rfl)
  have hv : (us.map IV.cells)[k]? = some u.cells := by rw [List.getElem?_map, hu]; rfl
  have hset := h.row.set (u := .int .i64 (c' : Int)) hv (i := 1) (by omega) rfl
  have e : (us.map IV.cells).set k (u.cells.set 1 (.int .i64 (c' : Int))) = (us.set k { u with k := c' }).map IV.cells := by rw [List.map_set]; rfl
  rw [e] at hset
  obtain ⟨cur, hcur⟩ := h.row.obj (g := b) rfl
  have hcalm : CalmB B w (w.setCell ⟨b, k * 2 + 1, none⟩ (.int .i64 (c' : Int))) := by
    refine ⟨(Below.refl B w).setCell (p := ⟨b, k * 2 + 1, none⟩) hBb _, fun {S m s} hr => ?_, fun {g' o} ho h1 => ?_⟩
    · refine ⟨hr.len, fun j hj => ?_, hr.wf⟩
      obtain ⟨bb, oo, e1, h2⟩ := hr.at_ j hj
      refine ⟨bb, oo, e1, ?_⟩
      by_cases hbb : bb = b
      · subst hbb
        by_cases ho : oo + j = k * 2 + 1
        · exfalso
          rw [ho] at h2
          obtain ⟨b', e', h4, _⟩ := h.row.cell (i := 1) hv (by omega) rfl
          injection e' with e'
          injection e' with e'
          subst e'
          rw [h2] at h4
          injection h4 with h4
          injection h4 with h4
          cases h4
        · exact (World.cell?_setCell_other _ ⟨bb, k * 2 + 1, none⟩ ⟨bb, oo + j, none⟩ _ (by intro e; injection e with _ e; exact ho (by omega))).trans h2
      · exact (World.cell?_of_block (Below.heap_setCell w ⟨b, k * 2 + 1, none⟩ _ bb hbb)).trans h2
    · refine (Below.heap_setCell w ⟨b, k * 2 + 1, none⟩ _ g' fun e => ?_).trans ho
      have e : g' = b := e
      subst e
      rw [hcur] at ho
      injection ho with ho
      exact (h1 _ _ _ ho.symm).2 rfl
  refine ⟨⟨h.box.far (p := ⟨b, k * 2 + 1, none⟩) hbg _, hset, by rw [map_set_itm, h.eq]; rfl, fun v hv' => ?_, fun v hv' => ?_, h.base, fun v hv' => ?_⟩, hcalm⟩
  all_goals
    rcases List.mem_or_eq_of_mem_set hv' with h1 | h1
  · exact hcalm.runes (h.rd v h1)
  · subst h1; exact hcalm.runes (h.rd u (List.mem_of_getElem? hu))
  · exact h.off v h1
  · subst h1; exact h.off u (List.mem_of_getElem? hu)
  · exact h.cap v h1
  · subst h1; exact h.cap u (List.mem_of_getElem? hu)
end
end Go.Proofs.Ytchcpeenpijekaa
