/- Both registers of layer 26 in one memory. -/
import Derived.Test.YthmchmpicncgdaaRqC
import Derived.Test.YthmchmpicncgdaaOpenE
import Derived.Test.YthmchmpicncgdaaRowG
import Derived.Test.YthmchmpicncgdaaText
namespace Go.Proofs.Ythmchmpicncgdaa
open Go.RowKit Go.Maps Go.MapKept Go.ChangeMaps Go.Shelf
set_option linter.unusedVariables false
variable {P P' : Nat → Prop}

theorem and_of (m : Nat) (x : Int) (hm : m = 7 ∨ m = 15) : 0 ≤ bits .and .i64 x (m : Int) ∧ bits .and .i64 x (m : Int) ≤ (m : Int) := by
  have h : bits .and .i64 x (m : Int) = IntKind.i64.wrap ((BitVec.ofInt 64 x &&& BitVec.ofInt 64 (m : Int)).toNat : Int) := rfl
  have hb : (BitVec.ofInt 64 x &&& BitVec.ofInt 64 (m : Int)).toNat ≤ m := by
    rw [BitVec.toNat_and]
    refine Nat.le_trans Nat.and_le_right ?_
    rcases hm with rfl | rfl <;> decide
  rw [h, IntKind.wrap_i64]
  omega
theorem and_7 (x : Int) : 0 ≤ bits .and .i64 x 7 ∧ bits .and .i64 x 7 ≤ 7 := and_of 7 x (.inl rfl)
theorem and_15 (x : Int) : 0 ≤ bits .and .i64 x 15 ∧ bits .and .i64 x 15 ≤ 15 := and_of 15 x (.inr rfl)
theorem Own.takeP {w : World} {B n c : Nat} {A : Option Addr} {l : List Int} (h : Own w B A n c l) {m : Nat} (hm : m ≤ n) : Own w B A m c (l.take m) := by
  refine ⟨⟨by have := h.len; simp [cells32]; omega, ?_⟩, h.wf.take m⟩
  rcases h.row.2 with ⟨h1, h2⟩ | ⟨g, cap, cur, h1, hB, hg, h3, h4, h5, h6⟩
  · injection h1 with h1 h7 h8
    subst h1 h8
    obtain rfl : m = 0 := by omega
    exact .inl ⟨rfl, rfl⟩
  · injection h1 with h1 h7 h8
    subst h1 h8
    refine .inr ⟨g, c, cur, rfl, hB, hg, by omega, h4, h5, ?_⟩
    have := congrArg (List.take m) h6
    rw [List.take_take, cells32, ← List.map_take] at this
    rw [← cells32] at this
    rw [← this]
    congr 1
    omega
/-- What the block of a row of runes is. -/
theorem Own.obj {w : World} {B n c g : Nat} {l : List Int} (h : Own w B (some ⟨g, 0, none⟩) n c l) : ∃ cur, w.heap[g]? = some (.cells cur 21 (0, 0)) := by
  rcases h.row.2 with ⟨h1, _⟩ | ⟨g', cap, cur, h1, hB, hg, _⟩
  · cases h1
  · injection h1 with h1
    injection h1 with h1
    injection h1 with h1
    subst h1
    exact ⟨cur, hg⟩

theorem RegsM.off {w : World} {p b n : Nat} {M : Int → Option Rg} (h : RegsM P w p b n M) (hP : ∀ g, g < w.heap.size → P' g) : RegsM P' w p b n M := by
  obtain ⟨V, h1, h2⟩ := h.map
  refine ⟨h.box, V, h1, fun r hr => ⟨fun x hx => ?_, (h2 r hr).2⟩⟩
  obtain ⟨v, h3, ⟨A, k, c, h4, h5⟩, hle, hoff⟩ := (h2 r hr).1 x hx
  refine ⟨v, h3, ⟨A, k, c, h4, h5⟩, hle, fun A' n' c' b' e hn g hg => ?_⟩
  rw [h4] at e
  injection e with e
  have e1 := congrArg (fun a : Array Value => a.toList) e
  simp at e1
  obtain ⟨⟨rfl, rfl, rfl⟩, rfl⟩ := e1
  obtain ⟨bb, oo, ha, _⟩ := h5.at_ 0 hn
  rw [ha] at hg
  injection hg with hg
  subst hg
  exact hP _ (h5.lt hn ha)
theorem RegsM.mono {w : World} {p b n : Nat} {M : Int → Option Rg} (h : RegsM P w p b n M) (hP : ∀ g, P g → P' g) : RegsM P' w p b n M := by
  obtain ⟨V, h1, h2⟩ := h.map
  refine ⟨h.box, V, h1, fun r hr => ⟨fun x hx => ?_, (h2 r hr).2⟩⟩
  obtain ⟨v, h3, h4, hle, hoff⟩ := (h2 r hr).1 x hx
  exact ⟨v, h3, h4, hle, fun A' n' c' b' e hn g hg => hP g (hoff A' n' c' b' e hn g hg)⟩
theorem RegsM.keepX {w w' : World} {p b n gx B k c : Nat} {M : Int → Option Rg} {t : List Int} (h : RegsM (· ≠ gx) w p b n M) (ho : Own w B (some ⟨gx, 0, none⟩) k c t) (hg : w.grownBy w' (some gx)) : RegsM (fun _ => True) w' p b n M := by
  obtain ⟨cur, hcur⟩ := ho.obj
  obtain ⟨V, h1, h2⟩ := h.map
  have hp : p ≠ gx := fun e => by
    have h5 := h.box
    unfold Box at h5
    rw [e, hcur] at h5
    injection h5 with h5
    injection h5 with _ h5
    exact absurd h5 (by decide)
  have hb : b ≠ gx := fun e => by
    obtain ⟨o, h3, h4⟩ := h1.noCells
    rw [e, hcur] at h3
    injection h3 with h3
    subst h3
    cases h4
  refine ⟨h.box.grown hg (fun e => hp (by injection e)), V, h1.keep (hg.block b h1.lt fun e => hb (by injection e)), fun r hr => ⟨fun x hx => ?_, (h2 r hr).2⟩⟩
  obtain ⟨v, h3, ⟨A, k, c, h6, h7⟩, hle, hoff⟩ := (h2 r hr).1 x hx
  exact ⟨v, h3, ⟨A, k, c, h6, h7.keep fun g o ha hk => hg.block g (h7.lt hk ha) fun e => hoff _ _ _ _ h6 hk g (by rw [ha]; rfl) (by injection e)⟩, hle, fun _ _ _ _ _ _ _ _ => trivial⟩
theorem QM.off {w : World} {g : Nat} {M : Int → Option Rg} (h : QM P w g M) (hP : ∀ g, g < w.heap.size → P' g) : QM P' w g M := by
  obtain ⟨cs, h1, h2⟩ := h.ex
  refine ⟨cs, h1, h2.size, h2.has, fun k hk => ?_, h2.dom⟩
  obtain ⟨A, n, c, q, t, e1, e2, e3, e4, e5, e6⟩ := h2.reg k hk
  refine ⟨A, n, c, q, t, e1, e2, e3, e4, e5, fun hn g hg => ?_⟩
  obtain ⟨bb, oo, ha, _⟩ := e3.at_ 0 hn
  rw [ha] at hg
  injection hg with hg
  subst hg
  exact hP _ (e3.lt hn ha)
theorem QM.keepX {w w' : World} {g gx B k c : Nat} {M : Int → Option Rg} {t : List Int} (h : QM (· ≠ gx) w g M) (ho : Own w B (some ⟨gx, 0, none⟩) k c t) (hg : w.grownBy w' (some gx)) : QM (fun _ => True) w' g M := by
  obtain ⟨cur, hcur⟩ := ho.obj
  obtain ⟨cs, h1, h2⟩ := h.ex
  have hp : g ≠ gx := fun e => by
    have h5 := h1
    unfold Box at h5
    rw [e, hcur] at h5
    injection h5 with h5
    injection h5 with _ h5
    exact absurd h5 (by decide)
  refine ⟨cs, h1.grown hg (fun e => hp (by injection e)), h2.size, h2.has, fun k hk => ?_, h2.dom⟩
  obtain ⟨A, n, c, q, t, e1, e2, e3, e4, e5, e6⟩ := h2.reg k hk
  exact ⟨A, n, c, q, t, e1, e2, e3.keep fun g' o ha hn => hg.block g' (e3.lt hn ha) fun e => e6 hn g' (by rw [ha]; rfl) (by injection e), e4, e5, fun _ _ _ => trivial⟩

/-- Both registers in one memory, of the call's own. -/
structure Two26 (P : Nat → Prop) (w w' : World) (p b n g : Nat) (M : Int → Option Rg) : Prop where
  r : RegsM P w' p b n M
  q : QM P w' g M
  p_ : w.heap.size ≤ p
  b_ : w.heap.size ≤ b
  g_ : w.heap.size ≤ g
  below : Below w.heap.size w w'
section
variable {w w1 w2 : World} {p b n g : Nat} {M : Int → Option Rg}
theorem Two26.next (h : Two26 P w w1 p b n g M) (hb : Below w1.heap.size w1 w2) : Two26 P w w2 p b n g M := ⟨h.r.below hb, h.q.below hb, h.p_, h.b_, h.g_, h.below.trans (hb.mono h.below.size)⟩
theorem Two26.off (h : Two26 P w w1 p b n g M) (hP : ∀ g, g < w1.heap.size → P' g) : Two26 P' w w1 p b n g M := ⟨h.r.off hP, h.q.off hP, h.p_, h.b_, h.g_, h.below⟩
theorem Two26.lt (h : Two26 P w w1 p b n g M) : p < w1.heap.size ∧ b < w1.heap.size ∧ g < w1.heap.size := ⟨h.r.lt.1, h.r.lt.2, h.q.lt⟩
end
theorem zero_regs : Try.zeroCells32 = (List.replicate 27 (Value.bool false) ++ (List.replicate 27 [Value.slice none 0 0, .bool false]).flatten).toArray := by kernel_rfl
theorem QM.zero (P : Nat → Prop) (w : World) : QM P (w.alloc (.cells Try.zeroCells32 32)) w.heap.size (fun _ => none) := by
  refine ⟨_, Box.new w _ _, ?_, fun k hk => ?_, fun k hk => ?_, fun x hx => by cases hx⟩
  · rw [zero_regs]; rfl
  · rw [zero_regs, List.getElem?_toArray, List.getElem?_append_left (by simpa using hk), List.getElem?_replicate, if_pos hk]; rfl
  · have hf : ∀ v ∈ List.replicate 27 [Value.slice none 0 0, Value.bool false], v.length = 2 := fun v hv => by rw [List.eq_of_mem_replicate hv]; rfl
    refine ⟨none, 0, 0, false, [], ?_, ?_, Runes.nil _ _, by simp, fun x hx => (nomatch hx), fun h => absurd h (by omega)⟩
    · rw [zero_regs, List.getElem?_toArray, List.getElem?_append_right (by simp), show 27 + k * 2 - (List.replicate 27 (Value.bool false)).length = k * 2 + 0 by simp, flat_get (by omega) hf, List.getElem?_replicate, if_pos hk]; rfl
    · rw [zero_regs, List.getElem?_toArray, List.getElem?_append_right (by simp; omega), show 27 + k * 2 + 1 - (List.replicate 27 (Value.bool false)).length = k * 2 + 1 by simp; omega, flat_get (by omega) hf, List.getElem?_replicate, if_pos hk]; rfl
end Go.Proofs.Ythmchmpicncgdaa
