/- Chapter 2's reference: numbers, texts, bools, lists put into bytes. -/
import Derived.Test.YtlekfpeonehggaaGreatDoorJ05
section
namespace Go.Proofs.YtlekfpeonehggaaGreatDoor
open Go.Proofs.BL Go.Proofs.Peel Go.RowKit
set_option maxRecDepth 100000
set_option linter.unusedVariables false

set_option maxHeartbeats 1000000 in
theorem rnat (n : Nat) (w : World) (hn : n < 2 ^ 64) : Calls Tryz.prog 14 #[.int .u64 n] w (ByAns w (natB n)) := by
  refine via fun Q hQ => ?_
  go_enter Tryz.func14, Tryz.ntmps14
  go_wp2
  go_loopg [0, 3] n (fun g x o wr => x = .int .u64 g ∧ g ≤ n ∧ ∃ low, dig n = dig g ++ low ∧ Own wr w.heap.size 5 1 o (bys low) ∧ Below w.heap.size w wr)
  case atStart => exact ⟨rfl, Nat.le_refl _, [], by simp, Own.nil _ _ _ _, Below.refl _ _⟩
  case round =>
    obtain ⟨rfl, hgn, low, hd, ho, hb⟩ := hrel
    have h8 := dig_len 8 n hn
    rw [hd, List.length_append] at h8
    have HD := Lib.hid hd
    have HO := Lib.hid ho
    have HB := Lib.hid hb
    obtain ⟨B, c, rfl, hBl, hBc, hBr⟩ := ho.slv'
    simp only [bys_len] at hBl ⊢
    have hal : Below wr.heap.size wr (wr.alloc (.cells #[.int .u8 ((gk : Int) % 256)] 5)) := (Below.refl _ _).alloc (Nat.le_refl _) _
    have HBc := Lib.hid hBc
    by_cases h0 : gk = 0
    · subst h0
      have hal2 : Below wr.heap.size wr (wr.alloc (.cells #[.int .u8 (low.length : Int)] 5)) := (Below.refl _ _).alloc (Nat.le_refl _) _
      have HR := Lib.hid (hBr.below hal2)
      have hO2 := Own.lit wr 5 1 1 [[.int .u8 (low.length : Int)]] #[.int .u8 (low.length : Int)] w.heap.size hb.size rfl (by decide) rfl (by simp) rfl
      have HO2 := Lib.hid hO2
      have HB2 := Lib.hid (below_then hb hal2)
      have hsz := HB2.out.size
      clear hd ho hb hBr hBc hal hal2 hO2
      go_wp2_with (at_builtin; go_must (refine appendN w.heap.size 5 1 1 (.int .u8 0) rfl (.tmp 17) (.tmp 18) 23 rfl Tryz.underlying23 (by kernel_rfl) rfl (by decide) (by decide) (.slice (some ⟨wr.heap.size, 0, none⟩) 1 1) [[.int .u8 (low.length : Int)]] (bys low) rfl B low.length c rfl (bys_len _).symm HBc.out HR.out (bys_one _) (bys_cell _) HO2.out HB2.out.size (by simp; omega) ?_); intro v3 w3 hown3 hfr3)
      have hb8 : (low.length : Int) = (UInt8.ofNat low.length).toNat := by simp; omega
      exact ⟨_, rfl, by rw [natB, HD.out, dig_zero, List.nil_append, bys, List.map_cons, enB, ← hb8]; exact hown3, HO2.out.fr_below HB2.out HB2.out.size hfr3⟩
    · have hp : 0 < gk := by omega
      have hO2 := Own.lit wr 5 1 1 [[.int .u8 ((gk : Int) % 256)]] #[.int .u8 ((gk : Int) % 256)] w.heap.size hb.size rfl (by decide) rfl (by simp) rfl
      have HO2 := Lib.hid hO2
      have HR := Lib.hid (hBr.below hal)
      have HB2 := Lib.hid (below_then hb hal)
      clear hd ho hb hBr hBc hal hO2
      go_wp2_with (at_builtin; go_must (refine appendN w.heap.size 5 1 1 (.int .u8 0) rfl (.tmp 9) (.tmp 10) 23 rfl Tryz.underlying23 (by kernel_rfl) rfl (by decide) (by decide) (.slice (some ⟨wr.heap.size, 0, none⟩) 1 1) [[.int .u8 ((gk : Int) % 256)]] (bys low) rfl B low.length c rfl (bys_len _).symm HBc.out HR.out (bys_one _) (bys_cell _) HO2.out HB2.out.size (by simp; omega) ?_); intro v3 w3 hown3 hfr3)
      go_roundg (gk / 256)
      case measure => exact Nat.div_lt_self hp (by decide)
      case rel => exact ⟨by first | go_num | (rw [IntKind.wrap_u64]; congr 1; omega), Nat.le_trans (Nat.div_le_self _ _) hgn, UInt8.ofNat gk :: low, by rw [HD.out, dig_pos h0, List.append_assoc]; rfl, by
          have hb8 : (gk : Int) % 256 = (UInt8.ofNat gk).toNat := by simp
          rw [bys, List.map_cons, enB, ← hb8]
          exact hown3, HO2.out.fr_below HB2.out HB2.out.size hfr3⟩

set_option maxHeartbeats 400000 in
theorem rnum (m : Int) (w : World) (h1 : -9223372036854775808 ≤ m) (h2 : m ≤ 9223372036854775807) : Calls Tryz.prog 16 #[.int .i64 m] w (ByAns w (natB (zig m))) := by
  refine via fun Q hQ => ?_
  go_enter Tryz.func16, Tryz.ntmps16
  by_cases h : m < 0
  · have hz : zig m = (2 * (-1 - m) + 1).toNat := by unfold zig; rw [if_pos h]
    go_wp2_with fail
    rw [show (2 * (-1 - m) + 1 : Int) = (zig m : Int) from by rw [hz]; omega]
    refine (rnat (zig m) _ (zig_lt m h1 h2)).mono ?_
    rintro e w1 ⟨v1, rfl, ho, hb⟩
    go_wp2
    exact ⟨_, rfl, ho, hb⟩
  · have hz : zig m = (2 * m).toNat := by unfold zig; rw [if_neg h]
    go_wp2_with fail
    rw [show (2 * m : Int) = (zig m : Int) from by rw [hz]; omega]
    refine (rnat (zig m) _ (zig_lt m h1 h2)).mono ?_
    rintro e w1 ⟨v1, rfl, ho, hb⟩
    go_wp2
    exact ⟨_, rfl, ho, hb⟩

set_option maxHeartbeats 400000 in
theorem rstr (s : ByteArray) (w : World) (hs : s.size ≤ 70000000000) : Calls Tryz.prog 15 #[.string s] w (ByAns w (strB s)) := by
  refine via fun Q hQ => ?_
  go_enter Tryz.func15, Tryz.ntmps15
  go_wp2_with fail
  refine (rnat s.size _ (by omega)).mono ?_
  rintro e w1 ⟨v1, rfl, ho, hb⟩
  have hln : (natB s.size).length + s.size ≤ 140737488355328 := by have := natB_len s.size (by omega); omega
  have hcv := Lib.run_convert_string_bytes (P := Tryz.prog) w1 9 23 5 s Tryz.underlying9 Tryz.underlying23 Tryz.underlying5
  have hbB := bytesWorld_below w1 5 s
  have hrB := bytesWorld_rows w1 5 s
  generalize Lib.bytesWorld w1 5 s = wB at hcv hbB hrB
  generalize grownCap w1 s.size 0 5 = gc at hcv
  have HR := Lib.hid hrB
  have HO := Lib.hid (ho.below hbB)
  have HB := Lib.hid (below_then hb hbB)
  clear hbB hrB ho hb
  go_wp2_with (at_builtin; go_must (refine appendN w.heap.size 5 1 1 (.int .u8 0) rfl (.tmp 8) (.tmp 10) 23 rfl Tryz.underlying23 (by kernel_rfl) rfl (by decide) (by decide) v1 (bys (natB s.size)) (bys (txt s)) rfl (some ⟨w1.heap.size, 0, none⟩) s.size gc rfl (by rw [bys_len, txt_len]) (by simp) HR.out (bys_one _) (bys_cell _) HO.out HB.out.size (by rw [bys_len, bys_len, txt_len]; omega) ?_); intro v2 w2 hown2 hfr2)
  exact ⟨_, rfl, by rw [strB, ← bys_app]; exact hown2, HO.out.fr_below HB.out HB.out.size hfr2⟩

end Go.Proofs.YtlekfpeonehggaaGreatDoor
end
