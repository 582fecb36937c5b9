/- Plain texts of single bytes; what every program answers (law 25's known); the two answers are the same (law 25's same). -/
import Derived.Test.YtkfihnkghiajiaaObjO
import Derived.Test.YtkfihnkghiajiaaTape
namespace Go.Proofs.Ytkfihnkghiajiaa
open Go.RowKit
set_option linter.unusedVariables false

/-- A string's bytes as runes. -/
def plainS (s : ByteArray) : List Int := s.data.toList.map fun c => (c.toNat : Int)
theorem plainS_len (s : ByteArray) : (plainS s).length = s.size := by
  unfold plainS
  rw [List.length_map]
  rfl
theorem plainS_at {s : ByteArray} {k : Nat} (h : k < s.size) : nth (plainS s) k = (s[k].toNat : Int) := by
  rw [nth_eq (by rw [plainS_len]; exact h)]
  simp [plainS]
  rfl
theorem u8_32 (x : UInt8) : wrap32 (x.toNat : Int) = (x.toNat : Int) := by
  have := x.toNat_lt
  unfold wrap32
  omega

set_option maxHeartbeats 1000000 in
theorem plain_any (s : ByteArray) (w : World) (hs : s.size ≤ 1000000) : Calls Try.prog 52 #[.string s] w (NewR w (plainS s)) := by
  go_enter Try.func52, Try.ntmps52
  go_wp2_with fail
  go_loopw [3, 4] (fun o i wr => ∃ (A : Option Addr) (k cap : Nat), o = .slice A k cap ∧ i = .int .i64 k ∧ k ≤ s.size ∧ Own wr w.heap.size A k cap ((plainS s).take k) ∧ Hid (Below w.heap.size w wr)) (fun _ i _ => s.size - (intOf i).toNat)
  case atStart => exact ⟨none, 0, 0, rfl, rfl, Nat.zero_le _, Own.nil _ _, Below.refl _ _⟩
  case round =>
    obtain ⟨A, k, cap, rfl, rfl, hk, hown, hb⟩ := hrel
    have HO := hide hown
    have hsz := hb.out.size
    clear hown
    by_cases hlt : k < s.size
    · have h0 : (0 : Int) ≤ (k : Int) := by omega
      have h0' : (k : Int) < (s.size : Int) := by omega
      have HX := hide (plainS_at hlt)
      have HTK := hide (take_snoc (l := plainS s) (k := k) (by rw [plainS_len]; exact hlt))
      have h8 := (s[k]).toNat_lt
      have hw := u8_32 s[k]
      go_wp2_with (at_builtin
                   refine wpList_app rfl (.tmp 11) (.tmp 16) rfl w.heap.size rfl (HO.out.alloc _) rfl (Runes.news _ _ _ [(s[k].toNat : Int)] rfl (W32.one (by omega))) (by simp; omega) (by simp; omega) ?_
                   intro A3 c3 w3 ho3 hg3 hb3 hbk _)
      have HO3 := hide ho3
      have HB3 := hide ((hb.out.alloc hsz (.cells #[.int .i32 (s[k].toNat : Int)] 21)).trans hb3)
      clear ho3 hg3 hb3 hbk
      go_roundw
      case rel => exact ⟨A3, k + 1, c3, rfl, by first | rfl | go_num, by omega, by
        rw [HTK.out, HX.out]; exact HO3.out, HB3.out⟩
      case measure => simp [intOf]; omega
    · obtain rfl : k = s.size := by omega
      have HE := hide (show (plainS s).take s.size = plainS s from List.take_of_length_le (by rw [plainS_len]; exact Nat.le_refl _))
      rw [HE.out] at HO
      go_wp2_with fail
      go_ret
      exact ⟨A, _, cap, rfl, HO.out, hb.out⟩

def known25L : List Int := [102, 40, 97, 32, 98, 41, 32, 34, 99, 34]
set_option maxRecDepth 100000 in
set_option maxHeartbeats 4000000 in
theorem known25_any (w : World) : Calls Try.prog 33 #[] w fun e w' => e = .returned (.bool true) ∧ Below w.heap.size w w' := by
  go_enter Try.func33, Try.ntmps33
  go_wp2_with fail
  refine (plain_any _ _ (by decide)).mono ?_
  rintro e w0 ⟨S, n, d, rfl, ho, hb0⟩
  have hlen : (plainS { data := #[102, 40, 97, 32, 98, 41, 32, 34, 99, 34] }) = known25L := by decide
  rw [hlen] at ho
  obtain rfl : n = 10 := by rw [← ho.len]; rfl
  have hcap := ho.cap
  have HR0 := hide ho.runes
  have HB0 := hide hb0
  clear ho hb0 hlen
  go_wp2_with fail
  refine (ospan_any S 10 d 3 2 false known25L _ 2 5 true HR0.out (by omega) hcap.1 hcap.2 (by decide +kernel) (by decide +kernel) (by decide +kernel)).mono ?_
  rintro e v1 ⟨rfl, hb1⟩
  have HR1 := hide (HR0.out.below hb1)
  have HB1 := hide (HB0.out.trans (hb1.mono HB0.out.size))
  clear hb1
  obtain ⟨g1, hg1⟩ : ∃ g, v1.heap.size = g := ⟨_, rfl⟩
  have HX1_a1 := hide (Box.newAt hg1 47 #[.int .i64 2, .int .i64 5])
  have HRa1 := hide (HR1.out.alloc (.cells #[.int .i64 2, .int .i64 5] 47))
  have HBa1 := hide (HB1.out.alloc HB1.out.size (.cells #[.int .i64 2, .int .i64 5] 47))
  clear HR1 HB1
  go_wp2_with fail
  refine (ospan_any S 10 d 3 2 true known25L _ 1 6 true HRa1.out (by omega) hcap.1 hcap.2 (by decide +kernel) (by decide +kernel) (by decide +kernel)).mono ?_
  rintro e v2 ⟨rfl, hb2⟩
  have HR2 := hide (HRa1.out.below hb2)
  have HB2 := hide (HBa1.out.trans (hb2.mono HBa1.out.size))
  have HX1_2 := hide (HX1_a1.out.below hb2)
  clear hb2
  obtain ⟨g2, hg2⟩ : ∃ g, v2.heap.size = g := ⟨_, rfl⟩
  have HX2_a2 := hide (Box.newAt hg2 47 #[.int .i64 1, .int .i64 6])
  have HRa2 := hide (HR2.out.alloc (.cells #[.int .i64 1, .int .i64 6] 47))
  have HBa2 := hide (HB2.out.alloc HB2.out.size (.cells #[.int .i64 1, .int .i64 6] 47))
  have HX1_a2 := hide (HX1_2.out.alloc (.cells #[.int .i64 1, .int .i64 6] 47))
  clear HR2 HB2
  go_wp2_with fail
  refine (ospan_any S 10 d 0 5 false known25L _ 8 9 true HRa2.out (by omega) hcap.1 hcap.2 (by decide +kernel) (by decide +kernel) (by decide +kernel)).mono ?_
  rintro e v3 ⟨rfl, hb3⟩
  have HR3 := hide (HRa2.out.below hb3)
  have HB3 := hide (HBa2.out.trans (hb3.mono HBa2.out.size))
  have HX1_3 := hide (HX1_a2.out.below hb3)
  have HX2_3 := hide (HX2_a2.out.below hb3)
  clear hb3
  obtain ⟨g3, hg3⟩ : ∃ g, v3.heap.size = g := ⟨_, rfl⟩
  have HX3_a3 := hide (Box.newAt hg3 47 #[.int .i64 8, .int .i64 9])
  have HRa3 := hide (HR3.out.alloc (.cells #[.int .i64 8, .int .i64 9] 47))
  have HBa3 := hide (HB3.out.alloc HB3.out.size (.cells #[.int .i64 8, .int .i64 9] 47))
  have HX1_a3 := hide (HX1_3.out.alloc (.cells #[.int .i64 8, .int .i64 9] 47))
  have HX2_a3 := hide (HX2_3.out.alloc (.cells #[.int .i64 8, .int .i64 9] 47))
  clear HR3 HB3
  go_wp2_with fail
  refine (ospan_any S 10 d 2 1 true known25L _ 2 4 true HRa3.out (by omega) hcap.1 hcap.2 (by decide +kernel) (by decide +kernel) (by decide +kernel)).mono ?_
  rintro e v4 ⟨rfl, hb4⟩
  have HR4 := hide (HRa3.out.below hb4)
  have HB4 := hide (HBa3.out.trans (hb4.mono HBa3.out.size))
  have HX1_4 := hide (HX1_a3.out.below hb4)
  have HX2_4 := hide (HX2_a3.out.below hb4)
  have HX3_4 := hide (HX3_a3.out.below hb4)
  clear hb4
  obtain ⟨g4, hg4⟩ : ∃ g, v4.heap.size = g := ⟨_, rfl⟩
  have HX4_a4 := hide (Box.newAt hg4 47 #[.int .i64 2, .int .i64 4])
  have HRa4 := hide (HR4.out.alloc (.cells #[.int .i64 2, .int .i64 4] 47))
  have HBa4 := hide (HB4.out.alloc HB4.out.size (.cells #[.int .i64 2, .int .i64 4] 47))
  have HX1_a4 := hide (HX1_4.out.alloc (.cells #[.int .i64 2, .int .i64 4] 47))
  have HX2_a4 := hide (HX2_4.out.alloc (.cells #[.int .i64 2, .int .i64 4] 47))
  have HX3_a4 := hide (HX3_4.out.alloc (.cells #[.int .i64 2, .int .i64 4] 47))
  clear HR4 HB4
  go_wp2_with fail
  refine (ospan_any S 10 d 10 1 false known25L _ 0 0 false HRa4.out (by omega) hcap.1 hcap.2 (by decide +kernel) (by decide +kernel) (by decide +kernel)).mono ?_
  rintro e v5 ⟨rfl, hb5⟩
  have HR5 := hide (HRa4.out.below hb5)
  have HB5 := hide (HBa4.out.trans (hb5.mono HBa4.out.size))
  have HX1_5 := hide (HX1_a4.out.below hb5)
  have HX2_5 := hide (HX2_a4.out.below hb5)
  have HX3_5 := hide (HX3_a4.out.below hb5)
  have HX4_5 := hide (HX4_a4.out.below hb5)
  clear hb5
  obtain ⟨g5, hg5⟩ : ∃ g, v5.heap.size = g := ⟨_, rfl⟩
  have HX5_a5 := hide (Box.newAt hg5 47 #[.int .i64 0, .int .i64 0])
  have HRa5 := hide (HR5.out.alloc (.cells #[.int .i64 0, .int .i64 0] 47))
  have HBa5 := hide (HB5.out.alloc HB5.out.size (.cells #[.int .i64 0, .int .i64 0] 47))
  have HX1_a5 := hide (HX1_5.out.alloc (.cells #[.int .i64 0, .int .i64 0] 47))
  have HX2_a5 := hide (HX2_5.out.alloc (.cells #[.int .i64 0, .int .i64 0] 47))
  have HX3_a5 := hide (HX3_5.out.alloc (.cells #[.int .i64 0, .int .i64 0] 47))
  have HX4_a5 := hide (HX4_5.out.alloc (.cells #[.int .i64 0, .int .i64 0] 47))
  obtain ⟨⟨a1, b1⟩, _⟩ := HX1_a5.out.c2
  obtain ⟨⟨a2, b2⟩, _⟩ := HX2_a5.out.c2
  obtain ⟨⟨a3, b3⟩, _⟩ := HX3_a5.out.c2
  obtain ⟨⟨a4, b4⟩, _⟩ := HX4_a5.out.c2
  go_wp2_with fail
  go_ret
  exact ⟨rfl, HBa5.out⟩

set_option maxRecDepth 100000 in
set_option maxHeartbeats 4000000 in
theorem same25_any (S : Option Addr) (k d : Nat) (at_ obj : Int) (s : List Int) (w : World) (hS : Runes w S k s) (hk : k ≤ 35184372088000) (hd : k ≤ d) (hd2 : d ≤ 9223372036854775807) :
    Calls Try.prog 31 #[.slice S k d, .int .i64 at_, .int .i64 obj] w fun e w' => e = .returned (.bool true) ∧ Below w.heap.size w w' := by
  have HS := hide (hS.alloc (.cells #[.bool false, .bool true] 4))
  have HX := hide (Box.new w 4 #[.bool false, .bool true])
  have HB := hide ((Below.refl _ w).alloc (Nat.le_refl _) (.cells #[.bool false, .bool true] 4))
  clear hS
  go_enter Try.func31, Try.ntmps31
  go_wp2_with fail
  generalize hW0 : (w.alloc (.cells #[.bool false, .bool true] 4)) = W0 at HS HX HB ⊢
  clear hW0
  go_loopw [15] (fun i wr => ∃ x : Nat, x ≤ 2 ∧ i = .int .i64 x ∧ Hid (Below W0.heap.size W0 wr)) (fun i _ => 2 - (intOf i).toNat)
  case atStart => exact ⟨0, by omega, rfl, Below.refl _ _⟩
  case round =>
    obtain ⟨x, hx, rfl, hbel⟩ := hrel
    by_cases hx2 : x < 2
    · have h0 : (0 : Int) ≤ (x : Int) := by omega
      have h1' : (x : Int) < 2 := by omega
      obtain ⟨ar, hc⟩ : ∃ ar : Bool, wr.cell? ⟨w.heap.size, x, none⟩ = some (.bool ar) := by
        have hb2 := (HX.out.below hbel.out).c2
        match x, hx2 with
        | 0, _ => exact ⟨_, hb2.1.1⟩
        | 1, _ => exact ⟨_, hb2.1.2⟩
      obtain ⟨F, hF⟩ : ∃ F, F = spF (objS s at_ obj ar) := ⟨_, rfl⟩
      obtain ⟨T, hT⟩ : ∃ T, T = spT (objS s at_ obj ar) := ⟨_, rfl⟩
      obtain ⟨ok, hok⟩ : ∃ ok, ok = (objS s at_ obj ar).isSome := ⟨_, rfl⟩
      have H1 := hide (fun W (hW : Runes W S k s) => ospan_any S k d at_ obj ar s W F T ok hW hk hd hd2 hF hT hok)
      have H2 := hide (fun W (hW : Runes W S k s) => robject_any S k d at_ obj ar s W F T ok hW hk hd hd2 hF hT hok)
      clear hF hT hok
      go_wp2_with fail
      refine (H1.out _ (HS.out.below hbel.out)).mono ?_
      rintro e w1 ⟨rfl, hb1⟩
      have HB1 := hide (hbel.out.trans (hb1.mono hbel.out.size))
      clear hb1 hbel
      obtain ⟨g1, hg1⟩ : ∃ g, w1.heap.size = g := ⟨_, rfl⟩
      have HX1 := hide (Box.newAt hg1 47 #[.int .i64 F, .int .i64 T])
      have HBa1 := hide (HB1.out.alloc HB1.out.size (.cells #[.int .i64 F, .int .i64 T] 47))
      go_wp2_with fail
      refine (H2.out _ (HS.out.below HBa1.out)).mono ?_
      generalize hW1 : (w1.alloc (.cells #[.int .i64 F, .int .i64 T] 47)) = W1 at HX1 HBa1 ⊢
      clear hW1 hg1
      rintro e w2 ⟨rfl, hb2⟩
      have HB2 := hide (HBa1.out.trans (hb2.mono HBa1.out.size))
      have HX2 := hide (HX1.out.below hb2)
      clear hb2
      obtain ⟨g2, hg2⟩ : ∃ g, w2.heap.size = g := ⟨_, rfl⟩
      have HBa2 := hide (HB2.out.alloc HB2.out.size (.cells #[.int .i64 F, .int .i64 T] 47))
      obtain ⟨⟨x0, x1⟩, _⟩ := (HX2.out.alloc (.cells #[.int .i64 F, .int .i64 T] 47)).c2
      go_wp2_with fail
      go_roundw
      case rel => exact ⟨x + 1, by omega, by go_num, HBa2.out⟩
      case measure => simp [intOf]; omega
    · go_wp2_with fail
      go_ret
      exact ⟨rfl, HB.out.trans (hbel.out.mono HB.out.size)⟩
end Go.Proofs.Ytkfihnkghiajiaa
