/- The reference's registers: slot, ended, Get, Names. -/
import Derived.Test.YthmchmpicncgdaaRegD
import Derived.Test.YthmchmpicncgdaaText
import Derived.Test.YthmchmpicncgdaaKnown26
namespace Go.Proofs.Ythmchmpicncgdaa
open Go.RowKit Go.Maps Go.MapKept Go.ChangeMaps Go.Shelf
set_option linter.unusedVariables false

/-- The name in a place of the reference. -/
def nm (k : Nat) : Int := if k = 0 then 0 else 96 + (k : Int)
def slotN (r : Int) : Nat := if r = 0 then 0 else if 97 ≤ r then (r - 96).toNat else (r - 64).toNat
theorem nm_slot {r : Int} (h : okN r) : slotN r < 27 ∧ nm (slotN r) = ownN r := by
  unfold okN at h
  unfold slotN nm
  by_cases h0 : r = 0
  · subst h0
    exact ⟨by simp, by decide⟩
  · by_cases h1 : 97 ≤ r
    · rw [if_neg h0, if_pos h1, ownN_no (by omega)]
      refine ⟨by omega, ?_⟩
      rw [if_neg (by omega)]
      omega
    · rw [if_neg h0, if_neg h1, ownN_yes (by omega)]
      refine ⟨by omega, ?_⟩
      rw [if_neg (by omega)]
      omega
theorem nm_inj {j k : Nat} (h : nm j = nm k) : j = k := by
  unfold nm at h
  split at h <;> split at h <;> omega
theorem nm_lt {j k : Nat} (h : j < k) : nm j < nm k := by
  unfold nm
  split <;> split <;> omega
theorem nm_ok (k : Nat) : nm k = 0 ∨ 97 ≤ nm k := by
  unfold nm
  split <;> omega

set_option maxHeartbeats 1000000 in
theorem slot_ok (r : Int) (w : World) (h : okN r) :
    Calls Try.prog 28 #[.int .i32 r] w fun e w' => e = .returned (.tuple #[.int .i64 (slotN r : Nat), .bool (capN r)]) ∧ w = w' := by
  have hs := nm_slot h
  obtain ⟨s, hs2⟩ : ∃ s, slotN r = s := ⟨_, rfl⟩
  rcases nm_ways h with h | h | rfl
  · rw [capN_yes h]
    have h1 : ((slotN r : Nat) : Int) = r - 64 := by unfold slotN; rw [if_neg (by omega), if_neg (by omega)]; omega
    rw [h1]
    have e1 : IntKind.i32.wrap (r - 65) = r - 65 := by simp [IntKind.wrap_i32]; omega
    have e2 : IntKind.i64.wrap (r - 65) = r - 65 := IntWalk.i64_in _ (by omega)
    have e3 : IntKind.i64.wrap (r - 65 + 1) = r - 64 := by rw [IntWalk.i64_in _ (by omega)]; omega
    clear hs hs2 h1
    go_enter Try.func28, Try.ntmps28
    go_wp2_with fail
    go_ret2
    exact ⟨by first | rfl | (congr 4; omega), rfl⟩
  · rw [capN_no (by omega)]
    have h1 : ((slotN r : Nat) : Int) = r - 96 := by unfold slotN; rw [if_neg (by omega), if_pos (by omega)]; omega
    rw [h1]
    have e1 : IntKind.i32.wrap (r - 97) = r - 97 := by simp [IntKind.wrap_i32]; omega
    have e2 : IntKind.i64.wrap (r - 97) = r - 97 := IntWalk.i64_in _ (by omega)
    have e3 : IntKind.i64.wrap (r - 97 + 1) = r - 96 := by rw [IntWalk.i64_in _ (by omega)]; omega
    clear hs hs2 h1
    go_enter Try.func28, Try.ntmps28
    go_wp2_with fail
    go_ret2
    exact ⟨by first | rfl | (congr 4; omega), rfl⟩
  · rw [capN_no (by omega)]
    clear hs hs2
    go_enter Try.func28, Try.ntmps28
    go_wp2_with fail
    go_ret2
    exact ⟨rfl, rfl⟩
set_option maxHeartbeats 1000000 in
theorem slot_no (r : Int) (w : World) (h : ¬ okN r) :
    Calls Try.prog 28 #[.int .i32 r] w fun e w' => e = .returned (.tuple #[.int .i64 (-1), .bool false]) ∧ w = w' := by
  have h0 : (r == 0) = false := by unfold okN at h; simp; omega
  rcases nm_not h with h | h | h | h
  all_goals
    go_enter Try.func28, Try.ntmps28
    go_wp2_with fail
    go_ret2
    exact ⟨rfl, rfl⟩

/-- A text's block is one of P's. -/
def OffA (P : Nat → Prop) (A : Option Addr) (n : Nat) : Prop := 0 < n → ∀ g, blk A = some g → P g
/-- The reference's registers in memory. -/
structure QC (P : Nat → Prop) (w : World) (M : Int → Option Rg) (cs : Array Value) : Prop where
  size : cs.size = 81
  has : ∀ k, k < 27 → cs[k]? = some (.bool (M (nm k)).isSome)
  reg : ∀ k, k < 27 → ∃ A n c q t, cs[27 + k * 2]? = some (.slice A n c) ∧ cs[27 + k * 2 + 1]? = some (.bool q) ∧ Runes w A n t ∧ t.length ≤ 1000 ∧ (∀ x, M (nm k) = some x → x = (t, q)) ∧ OffA P A n
  dom : ∀ x, (M x).isSome = true → ∃ k, k < 27 ∧ x = nm k
structure QM (P : Nat → Prop) (w : World) (g : Nat) (M : Int → Option Rg) : Prop where
  ex : ∃ cs, Box w g 32 cs ∧ QC P w M cs
section
variable {P : Nat → Prop} {w w' : World} {g : Nat} {M : Int → Option Rg} {cs : Array Value}
theorem QC.noint (h : QC P w M cs) (i : Nat) (v : Int) : cs[i]? ≠ some (.int .i32 v) := fun e => by
  have hs := h.size
  by_cases h1 : i < 27
  · rw [h.has i h1] at e; cases e
  · by_cases h2 : i < 81
    · obtain ⟨A, n, c, q, t, e1, e2, _⟩ := h.reg ((i - 27) / 2) (by omega)
      by_cases h3 : i = 27 + (i - 27) / 2 * 2
      · rw [h3, e1] at e; cases e
      · have h4 : i = 27 + (i - 27) / 2 * 2 + 1 := by omega
        rw [h4, e2] at e; cases e
    · rw [Array.getElem?_eq_none (by omega)] at e; cases e
theorem QC.keep (h : QC P w M cs) (hk : ∀ {A : Option Addr} {n : Nat} {t : List Int}, Runes w A n t → Runes w' A n t) : QC P w' M cs :=
  ⟨h.size, h.has, fun k hk2 => by
    obtain ⟨A, n, c, q, t, e1, e2, e3, e4⟩ := h.reg k hk2
    exact ⟨A, n, c, q, t, e1, e2, hk e3, e4⟩, h.dom⟩
theorem QM.below (h : QM P w g M) (hb : Below w.heap.size w w') : QM P w' g M := by
  obtain ⟨cs, h1, h2⟩ := h.ex
  exact ⟨cs, h1.below hb, h2.keep fun hr => hr.below hb⟩
theorem QM.lt (h : QM P w g M) : g < w.heap.size := by
  obtain ⟨cs, h1, h2⟩ := h.ex
  exact h1.lt
/-- A map's block has turned. -/
theorem QM.keepNC {i : Nat} (h : QM P w g M) (hg : w.grownBy w' (some i)) (hi : ∃ o : Obj, w.heap[i]? = some o ∧ o.isCells = false) : QM P w' g M := by
  obtain ⟨cs, h1, h2⟩ := h.ex
  refine ⟨cs, h1.grown hg (fun e => ?_), h2.keep fun hr => hr.keepNC hg hi⟩
  injection e with e
  subst e
  obtain ⟨o, h3, h4⟩ := hi
  unfold Box at h1
  rw [h1] at h3
  injection h3 with h3
  subst h3
  cases h4
/-- A row of runes lies elsewhere. -/
theorem Runes.keepQ {A : Option Addr} {n : Nat} {t : List Int} (hr : Runes w A n t) (h1 : Box w g 32 cs) (h2 : QC P w M cs) (hg : w.grownBy w' (some g)) : Runes w' A n t :=
  hr.keep fun b o ha hk => hg.block b (hr.lt hk ha) fun e => by
    injection e with e
    subst e
    obtain ⟨g', o', ha', hc⟩ := hr.at_ 0 hk
    rw [ha] at ha'
    injection ha' with ha'
    injection ha' with e1 e2
    subst e1
    rw [h1.cell] at hc
    exact h2.noint _ _ hc
theorem RegsM.keepQ {P' : Nat → Prop} {p b n : Nat} {N : Int → Option Rg} (h : RegsM P' w p b n N) (hq : QM P w g M) (hg : w.grownBy w' (some g)) : RegsM P' w' p b n N := by
  obtain ⟨cs, k1, k2⟩ := hq.ex
  obtain ⟨V, h1, h2⟩ := h.map
  have hp : p ≠ g := fun e => by
    have h5 := h.box
    unfold Box at h5 k1
    rw [e, k1] at h5
    injection h5 with h5
    injection h5 with _ h5
    exact absurd h5 (by decide)
  have hb : g ≠ b := h1.ne_box k1
  refine ⟨h.box.grown hg (fun e => hp (by injection e)), V, h1.keep (hg.block b h1.lt fun e => hb (by injection e with e; exact e.symm)), fun r hr => ⟨fun x hx => ?_, (h2 r hr).2⟩⟩
  obtain ⟨v, h3, ⟨A, k, c, h6, h7⟩, hle, hoff⟩ := (h2 r hr).1 x hx
  exact ⟨v, h3, ⟨A, k, c, h6, h7.keepQ k1 k2 hg⟩, hle, hoff⟩
end
/-- Get: what is there. -/
def GotR (w : World) (x : Rg) (is : Bool) (e : Ending) (w' : World) : Prop :=
  ∃ A n c, e = .returned (.tuple #[.agg #[.slice A n c, .bool x.2], .bool is]) ∧ Runes w' A n x.1 ∧ x.1.length ≤ 1000 ∧ Below w.heap.size w w'

set_option maxHeartbeats 1000000 in
theorem qget_any {P : Nat → Prop} (g : Nat) (M : Int → Option Rg) (r : Int) (w : World) (hm : QM P w g M) :
    Calls Try.prog 31 #[.pointer (some ⟨g, 0, none⟩), .int .i32 r] w (GotR w (getX M r) (getB M r)) := by
  unfold getX getB
  have HB := hide ((Below.refl w.heap.size w).alloc (Nat.le_refl _) (.cells #[.slice none 0 0, .bool false] 29))
  have HX := hide (Box.new w 29 #[.slice none 0 0, .bool false])
  by_cases h : okN r
  · rw [if_pos h, if_pos h]
    obtain ⟨hs1, hs2⟩ := nm_slot h
    have S1 := hide (fun W => slot_ok r W h)
    generalize slotN r = s at hs1 hs2 S1
    rw [← hs2]
    obtain ⟨cs, h1, h2⟩ := hm.ex
    have h3 := h1.below HB.out
    have hc := (h3.cell s).trans (h2.has s hs1)
    obtain ⟨A, n, c, q, t, e1, e2, hr, hle, hx, -⟩ := h2.reg s hs1
    have hc1 := (h3.cell _).trans e1
    have hc2 := (h3.cell _).trans e2
    have HR := hide (And.intro hr (And.intro hle hx))
    clear hs2 h1 h2 h3 e1 e2 hr hle hx hm h
    cases hM : M (nm s) with
    | none =>
      rw [hM] at hc
      have hc' : (w.alloc (.cells #[.slice none 0 0, .bool false] 29)).cell? ⟨g, s, none⟩ = some (.bool false) := hc
      clear hc hc1 hc2
      go_enter Try.func31, Try.ntmps31
      go_wp2_with (go_at_call 28; refine (S1.out _).mono ?_; rintro e w1 ⟨rfl, rfl⟩)
      obtain ⟨⟨r0, r1⟩, _⟩ := HX.out.c2
      refine bodyPost_ret (v := .tuple #[.agg #[.slice none 0 0, .bool false], .bool false]) (by simp [results, Try.results31, go_sem, r0, r1]) rfl ?_
      exact ⟨none, 0, 0, rfl, Runes.nil _ _, by simp, HB.out⟩
    | some x =>
      rw [hM] at hc
      have hc' : (w.alloc (.cells #[.slice none 0 0, .bool false] 29)).cell? ⟨g, s, none⟩ = some (.bool true) := hc
      clear hc
      go_enter Try.func31, Try.ntmps31
      go_wp2_with (go_at_call 28; refine (S1.out _).mono ?_; rintro e w1 ⟨rfl, rfl⟩)
      obtain ⟨⟨r0, r1⟩, _⟩ := (Box.new w 29 #[.slice A n c, .bool q]).c2
      refine bodyPost_ret (v := .tuple #[.agg #[.slice A n c, .bool q], .bool true]) (by simp [results, Try.results31, go_sem, r0, r1]) rfl ?_
      have hx := HR.out.2.2 x hM
      subst hx
      exact ⟨A, n, c, rfl, HR.out.1.alloc _, HR.out.2.1, (Below.refl w.heap.size w).alloc (Nat.le_refl _) _⟩
  · rw [if_neg h, if_neg h]
    have S1 := hide (fun W => slot_no r W h)
    clear h
    go_enter Try.func31, Try.ntmps31
    go_wp2_with (go_at_call 28; refine (S1.out _).mono ?_; rintro e w1 ⟨rfl, rfl⟩)
    obtain ⟨⟨r0, r1⟩, _⟩ := HX.out.c2
    refine bodyPost_ret (v := .tuple #[.agg #[.slice none 0 0, .bool false], .bool false]) (by simp [results, Try.results31, go_sem, r0, r1]) rfl ?_
    exact ⟨none, 0, 0, rfl, Runes.nil _ _, by simp, HB.out⟩

/-- The names ahead of k that are set. -/
def NamesK (M : Int → Option Rg) (k : Nat) (l : List Int) : Prop := l.Pairwise (· < ·) ∧ ∀ x, x ∈ l ↔ ∃ j, j < k ∧ x = nm j ∧ (M (nm j)).isSome = true
theorem NamesK.yes {M : Int → Option Rg} {k : Nat} {l : List Int} (h : NamesK M k l) (hk : (M (nm k)).isSome = true) : NamesK M (k + 1) (l ++ [nm k]) := by
  refine ⟨List.pairwise_append.2 ⟨h.1, List.pairwise_singleton _ _, fun a ha b hb => ?_⟩, fun x => ?_⟩
  · obtain ⟨j, hj, rfl, _⟩ := (h.2 a).1 ha
    rw [List.mem_singleton.1 hb]
    exact nm_lt hj
  · rw [List.mem_append, List.mem_singleton, h.2 x]
    constructor
    · rintro (⟨j, hj, e, hs⟩ | e)
      · exact ⟨j, by omega, e, hs⟩
      · exact ⟨k, by omega, e, hk⟩
    · rintro ⟨j, hj, e, hs⟩
      by_cases e2 : j = k
      · subst e2; exact .inr e
      · exact .inl ⟨j, by omega, e, hs⟩
theorem NamesK.no {M : Int → Option Rg} {k : Nat} {l : List Int} (h : NamesK M k l) (hk : (M (nm k)).isSome = false) : NamesK M (k + 1) l := by
  refine ⟨h.1, fun x => ?_⟩
  rw [h.2 x]
  constructor
  · rintro ⟨j, hj, e, hs⟩
    exact ⟨j, by omega, e, hs⟩
  · rintro ⟨j, hj, e, hs⟩
    by_cases e2 : j = k
    · subst e2; rw [hk] at hs; cases hs
    · exact ⟨j, by omega, e, hs⟩
theorem NamesK.start (M : Int → Option Rg) : NamesK M 0 [] := ⟨List.Pairwise.nil, fun x => ⟨fun h => (nomatch h), fun ⟨j, hj, _⟩ => absurd hj (Nat.not_lt_zero j)⟩⟩
theorem NamesK.len {M : Int → Option Rg} {k : Nat} {l : List Int} (h : NamesK M k l) : l.length ≤ k := by
  have := nodup_le (k := (List.range k).map nm) (h.1.imp fun h => Int.ne_of_lt h) fun x hx => by
    obtain ⟨j, hj, rfl, _⟩ := (h.2 x).1 hx
    exact List.mem_map.2 ⟨j, List.mem_range.2 hj, rfl⟩
  simpa using this
theorem NamesK.all {M : Int → Option Rg} {l : List Int} (h : NamesK M 27 l) (hd : ∀ x, (M x).isSome = true → ∃ k, k < 27 ∧ x = nm k) : NamesL M l := ⟨h.1, fun x => by
  rw [h.2 x]
  constructor
  · rintro ⟨j, hj, rfl, hs⟩
    refine ⟨?_, hs⟩
    unfold nm I32
    split <;> omega
  · rintro ⟨_, hs⟩
    obtain ⟨k, hk, rfl⟩ := hd x hs
    exact ⟨k, hk, rfl, hs⟩⟩

set_option maxRecDepth 100000 in
set_option maxHeartbeats 2000000 in
theorem qnames_any {P : Nat → Prop} (g : Nat) (M : Int → Option Rg) (w : World) (hm : QM P w g M) :
    Calls Try.prog 32 #[.pointer (some ⟨g, 0, none⟩)] w (NamesR M w) := by
  have HM := hide hm
  obtain ⟨cs0, -, hq0⟩ := hm.ex
  have HD := hide hq0.dom
  clear hm hq0
  go_enter Try.func32, Try.ntmps32
  go_wp2_with fail
  go_loopw [3, 4] (fun vo vk wr => ∃ (A : Option Addr) (n c k : Nat) (l : List Int), vo = .slice A n c ∧ vk = .int .i64 k ∧ k ≤ 27 ∧ Hid (Own wr w.heap.size A n c l) ∧ Hid (NamesK M k l) ∧ Hid (Below w.heap.size w wr)) (fun _ vk _ => (27 - intOf vk).toNat)
  case atStart => exact ⟨none, 0, 0, 0, [], rfl, rfl, by omega, Own.nil _ _, NamesK.start M, Below.refl _ _⟩
  case round =>
    obtain ⟨A, n, c, k, l, rfl, rfl, hk, HO, HN, HB⟩ := hrel
    by_cases hk27 : k < 27
    · obtain ⟨cs, h1, h2⟩ := (HM.out.below HB.out).ex
      have hc := (h1.cell k).trans (h2.has k hk27)
      have hnl : n ≤ 27 := by have h3 := HN.out.len; have h4 := HO.out.len; omega
      clear h1 h2
      cases hs : (M (nm k)).isSome with
      | false =>
        rw [hs] at hc
        have HN2 := hide (HN.out.no hs)
        clear hs
        go_wp2_with fail
        go_roundw
        case rel => exact ⟨A, n, c, k + 1, l, rfl, by go_num, by omega, HO.out, HN2.out, HB.out⟩
        case measure => simp [intOf]; omega
      | true =>
        rw [hs] at hc
        have HN2 := hide (HN.out.yes hs)
        clear hs
        by_cases hk0 : k = 0
        · have d0 : ((k : Int) == 0) = true := by simp [hk0]
          have hnm : nm k = 0 := by unfold nm; rw [if_pos hk0]
          rw [hnm] at HN2
          clear hk0 hnm
          go_wp2_with (at_builtin; refine wpList_app rfl (.tmp 20) (.tmp 21) rfl w.heap.size rfl (HO.out.alloc _) rfl (Runes.news wr #[.int .i32 0] 21 [0] rfl (W32.one (by omega))) (by simp; omega) (by have := HB.out.size; simp; omega) ?_; intro A2 c2 w2 hown2 hg2 hb2 _ _)
          have HO2 := hide hown2
          have HB2 := hide ((HB.out.alloc HB.out.size _).trans hb2)
          clear hown2 hg2 hb2
          go_roundw
          case rel => exact ⟨A2, n + 1, c2, k + 1, l ++ [0], rfl, by go_num, by omega, HO2.out, HN2.out, HB2.out⟩
          case measure => simp [intOf]; omega
        · have d0 : ((k : Int) == 0) = false := by simp; omega
          obtain ⟨v, hv⟩ : ∃ v : Int, 96 + (k : Int) = v := ⟨_, rfl⟩
          have hnm : nm k = v := by unfold nm; rw [if_neg hk0, hv]
          have e1 : IntKind.i64.wrap (97 + (k : Int)) = v + 1 := by rw [IntWalk.i64_in _ (by omega)]; omega
          have e2 : IntKind.i64.wrap (v + 1 - 1) = v := by rw [IntWalk.i64_in _ (by omega)]; omega
          have e3 : IntKind.i32.wrap v = v := by simp [IntKind.wrap_i32]; omega
          have hvb : 97 ≤ v ∧ v ≤ 122 := by omega
          rw [hnm] at HN2
          clear hk0 hnm hv
          go_wp2_with (at_builtin; refine wpList_app rfl (.tmp 30) (.tmp 35) rfl w.heap.size rfl (HO.out.alloc _) rfl (Runes.news wr #[.int .i32 v] 21 [v] rfl (W32.one (by omega))) (by simp; omega) (by have := HB.out.size; simp; omega) ?_; intro A2 c2 w2 hown2 hg2 hb2 _ _)
          have HO2 := hide hown2
          have HB2 := hide ((HB.out.alloc HB.out.size _).trans hb2)
          clear hown2 hg2 hb2 e1 e2 e3
          go_roundw
          case rel => exact ⟨A2, n + 1, c2, k + 1, l ++ [v], rfl, by go_num, by omega, HO2.out, HN2.out, HB2.out⟩
          case measure => simp [intOf]; omega
    · obtain rfl : k = 27 := by omega
      go_wp2_with fail
      go_ret
      exact ⟨A, n, c, l, rfl, HO.out, HN.out.all HD.out, HB.out⟩
end Go.Proofs.Ythmchmpicncgdaa
