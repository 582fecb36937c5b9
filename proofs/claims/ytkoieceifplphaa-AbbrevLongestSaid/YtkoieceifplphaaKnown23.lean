/- What every program answers (law 23's known); tables that are literals. -/
import Derived.Test.YtkoieceifplphaaSnipN
import Derived.Test.YtkoieceifplphaaPlain
namespace Go.Proofs.Ytkoieceifplphaa
open Go.RowKit
set_option linter.unusedVariables false

/-- A table whose cells are known whole. -/
theorem Snips.lit {w : World} {g n : Nat} {cs : Array Value} {us : Nat → SNV} {l : List Snp} (h : Box w g 36 cs) (hl : l.length = n)
    (hc : ∀ j, j < n → cs[j * 2]? = some (.slice (us j).T (us j).n (us j).c) ∧ cs[j * 2 + 1]? = some (.slice (us j).B (us j).m (us j).d)) (hr : ∀ j, j < n → ∃ x, l[j]? = some x ∧ SRd w (us j) x) : Snips w (some ⟨g, 0, none⟩) n us l :=
  ⟨hl, fun j hj => ⟨g, 0, rfl, by rw [Nat.zero_add, h.cell]; exact (hc j hj).1, by rw [Nat.zero_add, h.cell]; exact (hc j hj).2⟩, hr⟩

def known23L : List Snp := [⟨[110], []⟩, ⟨[102, 110], []⟩, ⟨[40], []⟩]
/-- Runes of a literal, in a block whose number is known. -/
theorem Runes.newsAt {w : World} {g : Nat} (hg : w.heap.size = g) (cs : Array Value) (t : TypeId) (l : List Int) (h : cs = (cells32 l).toArray) (hw : W32 l) : Runes (w.alloc (.cells cs t)) (some ⟨g, 0, none⟩) l.length l := by
  subst hg
  exact Runes.news w cs t l h hw
theorem tab23 (w : World) : ∃ us, Snips ((((w.alloc (.cells #[.int .i32 110] 21)).alloc (.cells #[.int .i32 102, .int .i32 110] 21)).alloc (.cells #[.int .i32 40] 21)).alloc (.cells #[.slice (some ⟨w.heap.size, 0, none⟩) 1 1, .slice none 0 0, .slice (some ⟨w.heap.size + 1, 0, none⟩) 2 2, .slice none 0 0, .slice (some ⟨w.heap.size + 1 + 1, 0, none⟩) 1 1, .slice none 0 0] 36)) (some ⟨w.heap.size + 1 + 1 + 1, 0, none⟩) 3 us known23L ∧ Below w.heap.size w ((((w.alloc (.cells #[.int .i32 110] 21)).alloc (.cells #[.int .i32 102, .int .i32 110] 21)).alloc (.cells #[.int .i32 40] 21)).alloc (.cells #[.slice (some ⟨w.heap.size, 0, none⟩) 1 1, .slice none 0 0, .slice (some ⟨w.heap.size + 1, 0, none⟩) 2 2, .slice none 0 0, .slice (some ⟨w.heap.size + 1 + 1, 0, none⟩) 1 1, .slice none 0 0] 36)) := by
  obtain ⟨g, hg⟩ : ∃ g, w.heap.size = g := ⟨_, rfl⟩
  have h0 := Runes.newsAt hg #[.int .i32 110] 21 [110] rfl (w32_of (by decide))
  have h1 := Runes.newsAt (w := w.alloc (.cells #[.int .i32 110] 21)) (g := g + 1) (by simp [hg]) #[.int .i32 102, .int .i32 110] 21 [102, 110] rfl (w32_of (by decide))
  have h2 := Runes.newsAt (w := (w.alloc (.cells #[.int .i32 110] 21)).alloc (.cells #[.int .i32 102, .int .i32 110] 21)) (g := g + 1 + 1) (by simp [hg]) #[.int .i32 40] 21 [40] rfl (w32_of (by decide))
  rw [hg]
  refine ⟨fun j => match j with | 0 => ⟨some ⟨g, 0, none⟩, 1, 1, none, 0, 0⟩ | 1 => ⟨some ⟨g + 1, 0, none⟩, 2, 2, none, 0, 0⟩ | _ => ⟨some ⟨g + 1 + 1, 0, none⟩, 1, 1, none, 0, 0⟩, Snips.lit (Box.newAt (by simp [hg]) _ _) rfl (fun j hj => ?_) (fun j hj => ?_), ?_⟩
  · match j, hj with
    | 0, _ => exact ⟨rfl, rfl⟩
    | 1, _ => exact ⟨rfl, rfl⟩
    | 2, _ => exact ⟨rfl, rfl⟩
  · match j, hj with
    | 0, _ => exact ⟨_, rfl, ⟨((h0.alloc _).alloc _).alloc _, Runes.nil _ _, by simp, by simp⟩⟩
    | 1, _ => exact ⟨_, rfl, ⟨(h1.alloc _).alloc _, Runes.nil _ _, by simp, by simp⟩⟩
    | 2, _ => exact ⟨_, rfl, ⟨h2.alloc _, Runes.nil _ _, by simp, by simp⟩⟩
  · exact ((((Below.refl _ _).alloc (by omega) _).alloc (by simp; omega) _).alloc (by simp; omega) _).alloc (by simp; omega) _
theorem tab23b (w : World) : ∃ us, Snips (w.alloc (.cells #[.slice none 0 0, .slice none 0 0] 36)) (some ⟨w.heap.size, 0, none⟩) 1 us [⟨[], []⟩] :=
  ⟨fun _ => ⟨none, 0, 0, none, 0, 0⟩, Snips.lit (Box.new _ _ _) rfl (fun j hj => by
    match j, hj with
    | 0, _ => exact ⟨rfl, rfl⟩) (fun j hj => by
    match j, hj with
    | 0, _ => exact ⟨_, rfl, ⟨Runes.nil _ _, Runes.nil _ _, by simp, by simp⟩⟩)⟩

set_option maxRecDepth 100000 in
set_option maxHeartbeats 4000000 in
theorem known23_any (w : World) : Calls Try.prog 17 #[] w fun e w' => e = .returned (.bool true) ∧ Below w.heap.size w w' := by
  obtain ⟨us, hs, hb⟩ := tab23 w
  have HS := hide hs
  have HB := hide hb
  clear hs hb
  obtain ⟨g, hg⟩ : ∃ g, w.heap.size + 1 + 1 + 1 = g := ⟨_, rfl⟩
  rw [hg] at HS
  go_enter Try.func17, Try.ntmps17
  go_wp2_with fail
  generalize hW : ((((w.alloc (.cells #[.int .i32 110] 21)).alloc (.cells #[.int .i32 102, .int .i32 110] 21)).alloc (.cells #[.int .i32 40] 21)).alloc (.cells #[.slice (some ⟨w.heap.size, 0, none⟩) 1 1, .slice none 0 0, .slice (some ⟨w.heap.size + 1, 0, none⟩) 2 2, .slice none 0 0, .slice (some ⟨w.heap.size + 1 + 1, 0, none⟩) 1 1, .slice none 0 0] 36)) = W0 at HS HB ⊢
  clear hW hg
  refine (plain_any _ _ (by decide)).mono ?_
  rintro e w1 ⟨A1, n1, c1, rfl, ho1, hb1⟩
  obtain rfl : n1 = 4 := by rw [← ho1.len]; rfl
  have hc1 := ho1.cap
  have HO1 := hide ho1.runes
  have HB1 := hide (HB.out.trans (hb1.mono HB.out.size))
  have HS1 := hide (HS.out.below hb1)
  clear ho1 hb1 HS HB
  go_wp2_with fail
  refine (afind_any _ _ _ _ _ _ 4 us known23L _ _ HS1.out HO1.out (by omega) (by omega) (by omega)).mono ?_
  rw [show findS known23L (plainS ⟨#[97, 32, 102, 110]⟩) 4 = 1 by decide +kernel]
  rintro e w2 ⟨rfl, hb2⟩
  have HB2 := hide (HB1.out.trans (hb2.mono HB1.out.size))
  have HS2 := hide (HS1.out.below hb2)
  clear hb2 HS1 HB1 HO1
  go_wp2_with fail
  refine (plain_any _ _ (by decide)).mono ?_
  rintro e w3 ⟨A3, n3, c3, rfl, ho3, hb3⟩
  obtain rfl : n3 = 3 := by rw [← ho3.len]; rfl
  have hc3 := ho3.cap
  have HO3 := hide ho3.runes
  have HB3 := hide (HB2.out.trans (hb3.mono HB2.out.size))
  have HS3 := hide (HS2.out.below hb3)
  clear ho3 hb3 HS2 HB2
  go_wp2_with fail
  refine (anamed_any _ _ _ _ _ _ 3 us known23L _ _ HS3.out HO3.out (by omega) (by omega) (by omega)).mono ?_
  rw [show namedS known23L (plainS ⟨#[120, 32, 110]⟩) 3 = 0 by decide +kernel]
  rintro e w4 ⟨rfl, hb4⟩
  have HB4 := hide (HB3.out.trans (hb4.mono HB3.out.size))
  have HS4 := hide (HS3.out.below hb4)
  clear hb4 HS3 HB3 HO3
  go_wp2_with fail
  refine (plain_any _ _ (by decide)).mono ?_
  rintro e w5 ⟨A5, n5, c5, rfl, ho5, hb5⟩
  obtain rfl : n5 = 3 := by rw [← ho5.len]; rfl
  have hc5 := ho5.cap
  have HO5 := hide ho5.runes
  have HB5 := hide (HB4.out.trans (hb5.mono HB4.out.size))
  have HS5 := hide (HS4.out.below hb5)
  clear ho5 hb5 HS4 HB4
  go_wp2_with fail
  refine (afind_any _ _ _ _ _ _ 3 us known23L _ _ HS5.out HO5.out (by omega) (by omega) (by omega)).mono ?_
  rw [show findS known23L (plainS ⟨#[97, 102, 110]⟩) 3 = -1 by decide +kernel]
  rintro e w6 ⟨rfl, hb6⟩
  have HB6 := hide (HB5.out.trans (hb6.mono HB5.out.size))
  have HS6 := hide (HS5.out.below hb6)
  clear hb6 HS5 HB5 HO5
  go_wp2_with fail
  refine (plain_any _ _ (by decide)).mono ?_
  rintro e w7 ⟨A7, n7, c7, rfl, ho7, hb7⟩
  obtain rfl : n7 = 2 := by rw [← ho7.len]; rfl
  have hc7 := ho7.cap
  have HO7 := hide ho7.runes
  have HB7 := hide (HB6.out.trans (hb7.mono HB6.out.size))
  have HS7 := hide (HS6.out.below hb7)
  clear ho7 hb7 HS6 HB6
  go_wp2_with fail
  refine (afind_any _ _ _ _ _ _ 2 us known23L _ _ HS7.out HO7.out (by omega) (by omega) (by omega)).mono ?_
  rw [show findS known23L (plainS ⟨#[40, 40]⟩) 2 = 2 by decide +kernel]
  rintro e w8 ⟨rfl, hb8⟩
  have HB8 := hide (HB7.out.trans (hb8.mono HB7.out.size))
  have HS8 := hide (HS7.out.below hb8)
  clear hb8 HS7 HB7 HO7
  go_wp2_with fail
  refine (amay_any _ _ _ us known23L _ HS8.out (by omega)).mono ?_
  rw [show tabT known23L = true by decide +kernel]
  rintro e w9 ⟨rfl, hb9⟩
  have HB9 := hide (HB8.out.trans (hb9.mono HB8.out.size))
  clear hb9
  obtain ⟨us2, hs2⟩ := tab23b w9
  have HT := hide hs2
  clear hs2
  go_wp2_with fail
  refine (amay_any _ _ _ us2 _ _ HT.out (by omega)).mono ?_
  rw [show tabT [⟨[], []⟩] = false by decide +kernel]
  rintro e w10 ⟨rfl, hb10⟩
  have HB10 := hide ((HB9.out.alloc HB9.out.size (.cells #[.slice none 0 0, .slice none 0 0] 36)).trans (hb10.mono (by have := HB9.out.size; simp; omega)))
  clear hb10
  go_wp2_with fail
  go_ret
  exact ⟨rfl, HB10.out⟩
end Go.Proofs.Ytkoieceifplphaa
