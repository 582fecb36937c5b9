/- The reference's bag: Nodes; items one by one. -/
import Derived.Test.YtchcpeenpijekaaBagC
namespace Go.Proofs.Ytchcpeenpijekaa
open Go.RowKit Go.Maps Go.MapKept Go.ChangeMaps Go.Shelf
set_option linter.unusedVariables false

def lastW : List Int → List Itm → List Int
  | v, [] => v
  | _, x :: L => lastW x.1 L
theorem nodesGo_snoc : ∀ (v : List Int) (L : List Itm) (x : Itm), nodesGo v (L ++ [x]) = nodesGo v L + (x.1.length - lcp (lastW v L) x.1)
  | v, [], x => by simp [nodesGo, lastW]
  | v, y :: L, x => by
    rw [List.cons_append, nodesGo, nodesGo, nodesGo_snoc y.1 L x, lastW]
    omega
theorem lastW_snoc : ∀ (v : List Int) (L : List Itm) (x : Itm), lastW v (L ++ [x]) = x.1
  | v, [], x => rfl
  | v, y :: L, x => by rw [List.cons_append, lastW]; exact lastW_snoc y.1 L x
theorem lcp_nil (x : List Int) : lcp [] x = 0 := by unfold lcp; cases x <;> rfl
theorem nodes_zero {L : List Itm} {x : Itm} (h : L[0]? = some x) : nodesB (L.take 1) = nodesB (L.take 0) + (x.1.length - 0) := by
  cases L with
  | nil => cases h
  | cons y L =>
    injection h with h
    subst h
    simp [nodesB, nodesGo, lcp_nil]
theorem nodes_succ {L : List Itm} {j : Nat} {x v : Itm} (hv : L[j]? = some v) (hx : L[j + 1]? = some x) : nodesB (L.take (j + 1 + 1)) = nodesB (L.take (j + 1)) + (x.1.length - lcp v.1 x.1) := by
  obtain ⟨hj, rfl⟩ := List.getElem?_eq_some_iff.1 hx
  obtain ⟨hj', rfl⟩ := List.getElem?_eq_some_iff.1 hv
  rw [List.take_succ_eq_append_getElem hj]
  unfold nodesB
  rw [nodesGo_snoc, List.take_succ_eq_append_getElem hj', lastW_snoc]
  omega
theorem lcp_drop {v x : List Int} {k : Nat} (h1 : k < v.length) (h2 : k < x.length) : lcp (v.drop k) (x.drop k) = if nth v k = nth x k then lcp (v.drop (k + 1)) (x.drop (k + 1)) + 1 else 0 := by
  rw [List.drop_eq_getElem_cons h1, List.drop_eq_getElem_cons h2, nth_eq h1, nth_eq h2, lcp]
theorem lcp_end {v x : List Int} {k : Nat} (h : v.length ≤ k ∨ x.length ≤ k) : lcp (v.drop k) (x.drop k) = 0 := by
  rcases h with h | h
  · rw [List.drop_of_length_le h, lcp_nil]
  · rw [List.drop_of_length_le h]
    unfold lcp
    cases v.drop k <;> rfl
theorem nodesB_mono {L : List Itm} (h : ∀ x ∈ L, x.1.length ≤ 1000) (hl : L.length ≤ 1000) (i : Nat) : nodesB (L.take i) ≤ 1000001 := by
  have h1 := nodesGo_le [] (L.take i) fun x hx => h x (List.mem_of_mem_take hx)
  have h2 : (L.take i).length ≤ 1000 := by rw [List.length_take]; omega
  unfold nodesB
  omega

section
variable {P : Nat → Prop} {w w' : World} {B g n c : Nat} {A : Option Addr} {us : List IV} {L : List Itm}
set_option maxRecDepth 100000 in
set_option maxHeartbeats 4000000 in
theorem bnodes_any (h : BagV P w B g A n c us L) (hs : Small L) :
    Calls Try.prog 48 #[.pointer (some ⟨g, 0, none⟩)] w fun e w' => e = .returned (.int .i64 (nodesB L : Nat)) ∧ ∃ q, w' = w.drewN q := by
  have hL := h.len
  have hLn : L.length ≤ 1000 := by have := len_le_all hs.bag; have := hs.all; omega
  have HB := hide h
  have HL := hide hL
  have HM := hide (fun i => nodesB_mono hs.len hLn i)
  have HLEN := hide hs.len
  have c0 : w.cell? ⟨g, 0, none⟩ = some (.slice A n c) := h.box.cell 0
  have hn : n ≤ 1000 := by omega
  clear h hs hL hLn
  go_enter Try.func48, Try.ntmps48
  go_wp2_with fail
  go_loopw [3, 4] (fun s3 s4 wr => ∃ i s q : Nat, i ≤ n ∧ s ≤ 1000001 ∧ s4 = .int .i64 i ∧ s3 = .int .i64 s ∧ wr = w.drewN q ∧ Hid (s = nodesB (L.take i))) (fun _ s4 _ => n - (intOf s4).toNat)
  case atStart => exact ⟨0, 1, 0, Nat.zero_le _, by omega, rfl, rfl, rfl, rfl⟩
  case round =>
    obtain ⟨i, s, q, hi, hs, rfl, rfl, rfl, HS⟩ := hrel
    by_cases hlt : i < n
    · obtain ⟨u, b, hu, hLu, rfl, hc1, hc2, -, hrd⟩ := HB.out.at_ hlt
      have hul : u.n ≤ 1000 := by have h1 := HLEN.out _ (List.mem_of_getElem? hLu); have h2 := hrd.len; dsimp only at h1; omega
      have i0 : (0 : Int) ≤ (i : Int) := by omega
      have i1 : (i : Int) < (n : Int) := by omega
      have HU := hide (And.intro hLu hrd)
      clear hu hLu hrd hc2
      by_cases hz : i = 0
      · have hd : decide ((0 : Int) < (i : Int)) = false := by simp; omega
        have hdn : ¬ 0 < i := by omega
        have HN := hide (show s + u.n = nodesB (L.take (i + 1)) from by
          have h1 := HU.out.1
          have h2 := HS.out
          rw [hz] at h1 h2 ⊢
          rw [nodes_zero h1, h2]
          have := HU.out.2.len
          simp [this])
        have HZ := hide hz
        have hsb : s + u.n ≤ 1000001 := by have := HN.out; have := HM.out (i + 1); omega
        clear hz HS
        go_wp2_with fail
        go_loopw [6] (fun s6 wx => s6 = .int .i64 0 ∧ ∃ q', wx = w.drewN q') (fun _ _ => 0)
        case atStart => exact ⟨rfl, _, rfl⟩
        case round =>
          obtain ⟨rfl, q', rfl⟩ := hrel
          go_wp2_with fail
          go_quiet (fail)
          go_wp2_with fail
          go_roundw
          case rel => exact ⟨i + 1, s + u.n, _, by omega, hsb, by go_num, by rw [← HU.out.2.len]; go_num, rfl, HN.out⟩
          case measure => simp [intOf]; omega
      · obtain ⟨j, hj⟩ : ∃ j, i = j + 1 := ⟨i - 1, by omega⟩
        obtain ⟨v, b', hv, hLv, hbb, hd1, hd2, -, hrv⟩ := HB.out.at_ (j := j) (by omega)
        injection hbb with hbb
        injection hbb with hbb
        subst hbb
        have hvl : v.n ≤ 1000 := by have h1 := HLEN.out _ (List.mem_of_getElem? hLv); have h2 := hrv.len; dsimp only at h1; omega
        have HN := hide (show s + (u.t.length - lcp v.t u.t) = nodesB (L.take (i + 1)) from by
          have h1 := HU.out.1
          have h2 := HS.out
          rw [hj] at h1 h2 ⊢
          rw [nodes_succ hLv h1, h2])
        have HLC := hide (lcp_le v.t u.t)
        have hsb : s + (u.t.length - lcp v.t u.t) ≤ 1000001 := by have := HN.out; have := HM.out (i + 1); omega
        have hd : decide ((0 : Int) < (i : Int)) = true := by simp; omega
        have hdi : (0 : Int) < (i : Int) := by omega
        have hdn : 0 < i := by omega
        have e1 : IntKind.i64.wrap ((i : Int) - 1) = (j : Int) := by rw [IntWalk.i64_in _ (by omega)]; omega
        have j0 : (0 : Int) ≤ (j : Int) := by omega
        have j1 : (j : Int) < (n : Int) := by omega
        have HV := hide (And.intro hLv hrv)
        have HJ := hide hj
        have HSB := hide hsb
        clear hz hv hLv hrv hd2 hj HS hsb
        go_wp2_with fail
        go_loopw [6] (fun s6 wx => ∃ k q' : Nat, k ≤ u.n ∧ k ≤ v.n ∧ s6 = .int .i64 k ∧ wx = w.drewN q' ∧ Hid (lcp v.t u.t = k + lcp (v.t.drop k) (u.t.drop k))) (fun s6 _ => u.n - (intOf s6).toNat)
        case atStart => exact ⟨0, _, Nat.zero_le _, Nat.zero_le _, rfl, rfl, by rw [List.drop_zero, List.drop_zero, Nat.zero_add]; exact rfl⟩
        case round =>
          obtain ⟨k, q', hk1, hk2, rfl, rfl, HK⟩ := hrel
          go_wp2_with fail
          have hul2 := HU.out.2.len
          have hvl2 := HV.out.2.len
          by_cases hku : k < u.n
          · by_cases hkv : k < v.n
            · obtain ⟨ub, uo, hU, hcu⟩ := HU.out.2.at_ k hku
              obtain ⟨vb, vo, hV, hcv⟩ := HV.out.2.at_ k hkv
              rw [hU] at hc1
              rw [hV] at hd1
              have hlc := lcp_drop (v := v.t) (x := u.t) (k := k) (by omega) (by omega)
              generalize nth u.t k = a at hcu hlc
              generalize nth v.t k = a' at hcv hlc
              have k0 : (0 : Int) ≤ (k : Int) := by omega
              have k1 : (k : Int) < (u.n : Int) := by omega
              have k2 : (k : Int) < (v.n : Int) := by omega
              by_cases hab : a' = a
              · rw [if_pos hab] at hlc
                have HK2 := hide (show lcp v.t u.t = (k + 1) + lcp (v.t.drop (k + 1)) (u.t.drop (k + 1)) from by rw [HK.out, hlc]; omega)
                have hdd : (a == a') = true := by simp [hab]
                clear hlc hab hul2 hvl2
                go_quiet (fail)
                go_wp2_with fail
                go_roundw
                case rel => exact ⟨k + 1, _, by omega, by omega, by go_num, rfl, HK2.out⟩
                case measure => simp [intOf]; omega
              · rw [if_neg hab] at hlc
                have HK2 := hide (show k = lcp v.t u.t from by rw [HK.out, hlc]; rfl)
                have hdd : (a == a') = false := by simp; exact fun e => hab e.symm
                clear hlc hab hul2 hvl2
                go_quiet (fail)
                go_wp2_with fail
                go_roundw
                case rel => exact ⟨i + 1, s + (u.n - k), _, by omega, by have := HSB.out; have := HK2.out; have := HU.out.2.len; omega, by go_num, by first | rfl | (congr 1; omega), rfl, by have := HN.out; have := HK2.out; have h9 := HU.out.2.len; rw [← this, h9] at HN; exact HN.out⟩
                case measure => simp [intOf]; omega
            · have hkv2 : k = v.n := by omega
              have hnk : ¬ k < v.n := hkv
              have HK2 := hide (show k = lcp v.t u.t from by rw [HK.out, lcp_end (.inl (by omega))]; rfl)
              have k1 : (k : Int) < (u.n : Int) := by omega
              clear hul2 hvl2 hkv2 hkv
              go_quiet (fail)
              go_wp2_with fail
              go_roundw
              case rel => exact ⟨i + 1, s + (u.n - k), _, by omega, by have := HSB.out; have := HK2.out; have := HU.out.2.len; omega, by go_num, by first | rfl | (congr 1; omega), rfl, by have := HN.out; have := HK2.out; have h9 := HU.out.2.len; rw [← this, h9] at HN; exact HN.out⟩
              case measure => simp [intOf]; omega
          · have hnk : ¬ k < u.n := hku
            have HK2 := hide (show k = lcp v.t u.t from by rw [HK.out, lcp_end (.inr (by omega))]; rfl)
            clear hul2 hvl2 hku
            go_quiet (fail)
            go_wp2_with fail
            go_roundw
            case rel => exact ⟨i + 1, s + (u.n - k), _, by omega, by have := HSB.out; have := HK2.out; have := HU.out.2.len; omega, by go_num, by first | rfl | (congr 1; omega), rfl, by have := HN.out; have := HK2.out; have h9 := HU.out.2.len; rw [← this, h9] at HN; exact HN.out⟩
            case measure => simp [intOf]; omega
    · obtain rfl : i = n := by omega
      have HE := hide (show s = nodesB L from by
        have := HS.out
        rwa [List.take_of_length_le (by rw [HL.out.2]; exact Nat.le_refl _)] at this)
      clear HS
      go_wp2_with fail
      go_ret
      exact ⟨by rw [← HE.out]; rfl, q, rfl⟩
end
end Go.Proofs.Ytchcpeenpijekaa
