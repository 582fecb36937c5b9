/- Texts that a tape makes: what a call leaves (Out), standishkeep's one, num, name, Format. -/
import Derived.Test.YtfeflmpdbejhjaaDoorTapeD
import Derived.Test.YtfeflmpdbejhjaaDoorPlainD
namespace Go.Proofs.YtfeflmpdbejhjaaDoor
open Go.RowKit
set_option linter.unusedVariables false

theorem mayS_app {l r : List Int} (h : mayS l = true) (k : mayS r = true) : mayS (l ++ r) = true := by
  unfold mayS at h k ⊢
  rw [List.all_append, h, k]
  rfl
theorem mayS_take {l : List Int} (h : mayS l = true) (n : Nat) : mayS (l.take n) = true := by
  unfold mayS at h ⊢
  rw [List.all_eq_true] at h ⊢
  exact fun x hx => h x (List.mem_of_mem_take hx)
theorem mayS_plain (s : ByteArray) : mayS (plainS s) = true := by
  unfold mayS
  rw [List.all_eq_true]
  intro x hx
  obtain ⟨c, _, rfl⟩ := List.mem_map.1 hx
  have := c.toNat_lt
  simp [isS]
  omega
/-- A text of the call's own, of signs, made by a tape since a world w0: only the tape has turned, and what is new. -/
structure Out (g : Nat) (Z : Option Addr) (m c : Nat) (z : List Int) (w0 w : World) (A : Option Addr) (k cap : Nat) : Prop where
  own : ∃ l, Own w w0.heap.size A k cap l ∧ mayS l = true
  tap : Tap w g Z m c z
  gr : w0.grownBy w (some g)
  lt : g < w0.heap.size
section
variable {g : Nat} {Z : Option Addr} {m c : Nat} {z : List Int} {w0 w w2 : World} {A A2 : Option Addr} {k cap k2 c2 : Nat}
theorem Out.start (h : Tap w g Z m c z) : Out g Z m c z w w none 0 0 := ⟨⟨[], Own.nil _ _, rfl⟩, h, World.grownBy.refl w _, h.lt⟩
theorem Out.keep {row : Option Nat} (h : Out g Z m c z w0 w A k cap) (hg : w.grownBy w2 row) (hr : ∀ j, row = some j → j = g ∨ w0.heap.size ≤ j) (ho : ∃ l, Own w2 w0.heap.size A k cap l ∧ mayS l = true) (ht : Tap w2 g Z m c z) : Out g Z m c z w0 w2 A k cap :=
  ⟨ho, ht, h.gr.andThen hg (fun j hj => by
    rcases hr j hj with e | e
    · exact .inr (by rw [e])
    · exact .inl e), h.lt⟩
theorem Out.next (h : Out g Z m c z w0 w A k cap) (ht : Tap w2 g Z m c z) (hg : w.grownBy w2 (some g)) : Out g Z m c z w0 w2 A k cap := by
  obtain ⟨l, ho, hmy⟩ := h.own
  exact h.keep hg (fun j hj => .inl (by injection hj with hj; exact hj.symm)) ⟨l, ho.kept hg (.inr (fun e => by have := (ho.blk_ge _ e).1; have := h.lt; omega)), hmy⟩ ht
theorem Out.call (h : Out g Z m c z w0 w A k cap) (h2 : Out g Z m c z w w2 A2 k2 c2) : Out g Z m c z w0 w2 A k cap := h.next h2.tap h2.gr
theorem Out.alloc (h : Out g Z m c z w0 w A k cap) (o : Obj) : Out g Z m c z w0 (w.alloc o) A k cap := by
  obtain ⟨l, ho, hmy⟩ := h.own
  exact h.keep (World.grownBy_alloc w o none) (fun j hj => by cases hj) ⟨l, ho.alloc o, hmy⟩ (h.tap.grown (World.grownBy_alloc w o none) (fun j hj => by cases hj))
/-- It reads as some signs. -/
def RdS (w : World) (A : Option Addr) (k : Nat) : Prop := ∃ l, Runes w A k l ∧ mayS l = true
theorem Out.rd (h : Out g Z m c z w0 w A k cap) : RdS w A k := by
  obtain ⟨l, ho, hmy⟩ := h.own
  exact ⟨l, ho.runes, hmy⟩
theorem RdS.snd (h : RdS w A k) : Runes w A k h.choose := h.choose_spec.1
theorem RdS.may (h : RdS w A k) : mayS h.choose = true := h.choose_spec.2
theorem Out.size (h : Out g Z m c z w0 w A k cap) : w0.heap.size ≤ w.heap.size := h.gr.size
theorem Out.capB (h : Out g Z m c z w0 w A k cap) : k ≤ cap ∧ cap ≤ 9223372036854775807 := by
  obtain ⟨l, ho, _⟩ := h.own
  exact ho.cap
theorem wpList_out {ops : Array Oper} {rest : List Oper} {o : Oper} {a : Act} {Q : Exit → Act → World → Prop} (hgd : o.guard = none) (s x : Operand)
    (ho : o.op = .call { callee := .builtin .append, args := #[s, x], argTypes := #[22, 22] })
    {n : Nat} (hs : a.eval s = .slice A n cap) (h : Out g Z m c z w0 w A n cap) {X : Option Addr} {e d : Nat} {r : List Int} (hx : a.eval x = .slice X e d) (hr : Runes w X e r) (hmr : mayS r = true) (hsz : n + e ≤ 35184372088832)
    (hk : ∀ A' c' w', Out g Z m c z w0 w' A' (n + e) c' → wpList Tryd.prog ops Q rest (a.put o.dst (.slice A' (n + e) c')) w') : wpList Tryd.prog ops Q (o :: rest) a w := by
  obtain ⟨l, how, hmy⟩ := h.own
  refine wpList_app hgd s x ho w0.heap.size hs how hx hr hsz h.size fun A' c' w' h2 h3 h4 h5 h6 => hk A' c' w' ?_
  refine Out.mk ⟨_, h2, mayS_app hmy hmr⟩ (h.tap.grown h3 (fun j hj => by have := (how.blk_ge j hj).1; have := h.lt; omega)) (h.gr.andThen h3 (fun j hj => .inl (how.blk_ge j hj).1)) h.lt
end
/-- A call answers such a text, of mx elements at most. -/
def TextR (mx g : Nat) (Z : Option Addr) (m c : Nat) (z : List Int) (w : World) (e : Ending) (w' : World) : Prop := ∃ A k cap, e = .returned (.slice A k cap) ∧ k ≤ mx ∧ Out g Z m c z w w' A k cap

/-- A string of so many bytes. -/
def isStrB (lo hi : Nat) : Value → Bool
  | .string s => decide (lo ≤ s.size) && decide (s.size ≤ hi)
  | _ => false
theorem isStrB_inv {lo hi : Nat} {v : Value} (h : isStrB lo hi v = true) : ∃ s, v = .string s ∧ lo ≤ s.size ∧ s.size ≤ hi := by
  cases v <;> simp [isStrB] at h
  exact ⟨_, rfl, h.1, h.2⟩
set_option maxRecDepth 100000 in
set_option maxHeartbeats 4000000 in
theorem one_gen (g : Nat) (Z : Option Addr) (m c : Nat) (z : List Int) (lo hi : Nat) (hhi : hi ≤ 1000) (cs : Array Value) (t : TypeId) (n : Nat) (hn : cs.size = n) (hs : cs.all (isStrB lo hi) = true) (hn2 : 0 < n ∧ n ≤ 1000) (W : World) (h : Tap (W.alloc (.cells cs t)) g Z m c z) (hm : m ≤ 35184372088832) :
    Calls Tryd.prog 16 #[.pointer (some ⟨g, 0, none⟩), .slice (some ⟨W.heap.size, 0, none⟩) n n] (W.alloc (.cells cs t)) (fun e w' => ∃ A k cap, e = .returned (.slice A k cap) ∧ (lo ≤ k ∧ k ≤ hi) ∧ Out g Z m c z (W.alloc (.cells cs t)) w' A k cap) := by
  have HT := hide h
  have HX := hide (Box.new W t cs)
  have HN := hide hn
  have HS := hide hs
  obtain ⟨h0, h1⟩ := hn2
  clear h hn hs
  generalize W.alloc (.cells cs t) = w at HT HX ⊢
  generalize W.heap.size = b at HX ⊢
  go_enter Tryd.func16, Tryd.ntmps16
  go_wp2_with fail
  refine (next_any n g Z m c z w HT.out h0 (by omega) hm).mono ?_
  rintro e w1 ⟨r, rfl, hr, ht, hg, -⟩
  have hlt : b ≠ g := fun e => by
    obtain ⟨i, hi, hx⟩ := HT.out.box
    have h1 := HX.out
    unfold Box at h1 hx
    rw [e, hx] at h1
    injection h1 with h1
    injection h1 with h1 _
    have h2 := HS.out
    rw [← h1] at h2
    simp [isStrB] at h2
  obtain ⟨s, hs, hslo, hshi⟩ := isStrB_inv (v := cs[r]'(by rw [HN.out]; exact hr)) (by
    have := Array.all_eq_true.1 HS.out r (by rw [HN.out]; exact hr)
    exact this)
  have hc : w1.cell? ⟨b, r, none⟩ = some (.string s) := by
    have h1 := (HX.out.grown hg (fun e => hlt (by injection e))).cell r
    rw [h1, Array.getElem?_eq_getElem (by rw [HN.out]; exact hr), hs]
  have i0 : (0 : Int) ≤ (r : Int) := by omega
  have i1 : (r : Int) < (n : Int) := by omega
  have HO := hide ((Out.start HT.out).next ht hg)
  clear ht hg hs hlt
  go_wp2_with fail
  refine (plain_any s w1 (by omega)).mono ?_
  rintro e w2 ⟨A2, n2, c2, rfl, ho2, hb2⟩
  have hl2 := ho2.len
  rw [plainS_len] at hl2
  have HF := hide (show Out g Z m c z w w2 A2 n2 c2 from ⟨⟨_, ho2.mono HO.out.size, mayS_plain s⟩, HO.out.tap.below hb2, HO.out.gr.trans ⟨hb2.os, hb2.tape, hb2.output, hb2.size, fun i hi _ => hb2.block i hi⟩, HO.out.lt⟩)
  clear ho2 hb2
  go_wp2_with fail
  go_ret
  exact ⟨A2, n2, c2, rfl, by omega, HF.out⟩
theorem one_lit (g : Nat) (Z : Option Addr) (m c : Nat) (z : List Int) (cs : Array Value) (t : TypeId) (n : Nat) (hn : cs.size = n) (hs : cs.all (isStrB 0 40) = true) (hn2 : 0 < n ∧ n ≤ 1000) (W : World) (h : Tap (W.alloc (.cells cs t)) g Z m c z) (hm : m ≤ 35184372088832) :
    Calls Tryd.prog 16 #[.pointer (some ⟨g, 0, none⟩), .slice (some ⟨W.heap.size, 0, none⟩) n n] (W.alloc (.cells cs t)) (TextR 40 g Z m c z (W.alloc (.cells cs t))) :=
  (one_gen g Z m c z 0 40 (by omega) cs t n hn hs hn2 W h hm).mono fun _ _ ⟨A, k, cap, h1, h2, h3⟩ => ⟨A, k, cap, h1, h2.2, h3⟩

end Go.Proofs.YtfeflmpdbejhjaaDoor
