/- standishkeep.Plain: a string's bytes as runes. -/
import Derived.Test.YtfeflmpdbejhjaaDoorTextD
import Derived.OwnWalk
namespace Go.Proofs.YtfeflmpdbejhjaaDoor
open Go.RowKit
set_option linter.unusedVariables false

theorem w32_of {l : List Int} (h : l.all (fun x => decide (-2147483648 ≤ x) && decide (x ≤ 2147483647)) = true) : W32 l := fun x hx => by
  have := List.all_eq_true.1 h x hx
  simp at this
  exact this
/-- A literal, in memory of the call's own. -/
theorem Own.news (w : World) (cs : Array Value) (l : List Int) (h : cs = (cells32 l).toArray) (hw : W32 l) (hl : l.length ≤ 9223372036854775807) : Own (w.alloc (.cells cs 21)) w.heap.size (some ⟨w.heap.size, 0, none⟩) l.length l.length l := by
  subst h
  refine ⟨⟨by simp [cells32], .inr ⟨w.heap.size, l.length, (cells32 l).toArray, rfl, Nat.le_refl _, heap_alloc_new w _, Nat.le_refl _, by unfold maxLen; omega, by simp [cells32], by simp [cells32, List.take_of_length_le]⟩⟩, hw⟩
theorem Own.newsAt {w : World} {g : Nat} (hg : w.heap.size = g) (cs : Array Value) (l : List Int) (h : cs = (cells32 l).toArray) (hw : W32 l) (hl : l.length ≤ 9223372036854775807) : Own (w.alloc (.cells cs 21)) g (some ⟨g, 0, none⟩) l.length l.length l := by
  subst hg
  exact Own.news w cs l h hw hl

/-- A string's bytes as runes. -/
def plainS (s : ByteArray) : List Int := s.data.toList.map fun c => (c.toNat : Int)
theorem plainS_len (s : ByteArray) : (plainS s).length = s.size := by
  unfold plainS
  rw [List.length_map]
  rfl
theorem plainS_at {s : ByteArray} {k : Nat} (h : k < s.size) : nth (plainS s) k = (s[k].toNat : Int) := by
  rw [nth_eq (by rw [plainS_len]; exact h)]
  simp [plainS]
  rfl
theorem u8_32 (x : UInt8) : wrap32 (x.toNat : Int) = (x.toNat : Int) := by
  have := x.toNat_lt
  unfold wrap32
  omega

set_option maxHeartbeats 1000000 in
theorem plain_any (s : ByteArray) (w : World) (hs : s.size ≤ 1000000) : Calls Tryd.prog 12 #[.string s] w (NewR w (plainS s)) := by
  go_enter Tryd.func12, Tryd.ntmps12
  go_wp2_with fail
  go_loopw [3, 4] (fun o i wr => ∃ (A : Option Addr) (k cap : Nat), o = .slice A k cap ∧ i = .int .i64 k ∧ k ≤ s.size ∧ Own wr w.heap.size A k cap ((plainS s).take k) ∧ Hid (Below w.heap.size w wr)) (fun _ i _ => s.size - (intOf i).toNat)
  case atStart => exact ⟨none, 0, 0, rfl, rfl, Nat.zero_le _, Own.nil _ _, Below.refl _ _⟩
  case round =>
    obtain ⟨A, k, cap, rfl, rfl, hk, hown, hb⟩ := hrel
    have HO := hide hown
    have hsz := hb.out.size
    clear hown
    by_cases hlt : k < s.size
    · have h0 : (0 : Int) ≤ (k : Int) := by omega
      have h0' : (k : Int) < (s.size : Int) := by omega
      have HX := hide (plainS_at hlt)
      have HTK := hide (take_snoc (l := plainS s) (k := k) (by rw [plainS_len]; exact hlt))
      have h8 := (s[k]).toNat_lt
      have hw := u8_32 s[k]
      go_wp2_with (at_builtin
                   refine wpList_app rfl (.tmp 11) (.tmp 16) rfl w.heap.size rfl (HO.out.alloc _) rfl (Runes.news _ _ _ [(s[k].toNat : Int)] rfl (W32.one (by omega))) (by simp; omega) (by simp; omega) ?_
                   intro A3 c3 w3 ho3 hg3 hb3 hbk _)
      have HO3 := hide ho3
      have HB3 := hide ((hb.out.alloc hsz (.cells #[.int .i32 (s[k].toNat : Int)] 21)).trans hb3)
      clear ho3 hg3 hb3 hbk
      go_roundw
      case rel => exact ⟨A3, k + 1, c3, rfl, by first | rfl | go_num, by omega, by
        rw [HTK.out, HX.out]; exact HO3.out, HB3.out⟩
      case measure => simp [intOf]; omega
    · obtain rfl : k = s.size := by omega
      have HE := hide (show (plainS s).take s.size = plainS s from List.take_of_length_le (by rw [plainS_len]; exact Nat.le_refl _))
      rw [HE.out] at HO
      go_wp2_with fail
      go_ret
      exact ⟨A, _, cap, rfl, HO.out, hb.out⟩

end Go.Proofs.YtfeflmpdbejhjaaDoor
