/- Package octet: signed numbers, texts, bools, lists put into bytes. -/
import Derived.Test.YtgijnchfonfeaaaDoorOb
import Derived.Test.YtgijnchfonfeaaaDoorSw
import Derived.Laws.Bits64
namespace Go.Proofs.YtgijnchfonfeaaaDoor
open Go.Proofs.BL Go.Proofs.Peel Go.RowKit
set_option maxRecDepth 100000
set_option linter.unusedVariables false

theorem zig_lt (m : Int) (h1 : -9223372036854775808 ≤ m) (h2 : m ≤ 9223372036854775807) : zig m < 2 ^ 64 := by
  unfold zig; split <;> omega
theorem zig_bits (m : Int) (h1 : -9223372036854775808 ≤ m) (h2 : m ≤ 9223372036854775807) : bits BinOp.xor IntKind.u64 (IntKind.u64.wrap (IntKind.u64.wrap m * 2)) (IntKind.u64.wrap (m / 9223372036854775808)) = (zig m : Int) := by
  simp only [IntKind.wrap_u64]
  unfold zig
  by_cases h : m < 0
  · rw [if_pos h, show m / 9223372036854775808 % 18446744073709551616 = 18446744073709551615 from by omega, xor_ones _ (by omega) (by omega)]
    omega
  · rw [if_neg h, show m / 9223372036854775808 % 18446744073709551616 = 0 from by omega, xor_zero _ (by omega) (by omega)]
    omega

set_option maxHeartbeats 400000 in
theorem onum (m : Int) (w : World) (h1 : -9223372036854775808 ≤ m) (h2 : m ≤ 9223372036854775807) : Calls Tryd.prog 11 #[.int .i64 m] w (ByAns w (natB (zig m))) := by
  refine via fun Q hQ => ?_
  go_enter Tryd.func11, Tryd.ntmps11
  go_wp2_with fail
  rw [show bits BinOp.xor IntKind.u64 (IntKind.u64.wrap (IntKind.u64.wrap m * 2)) (IntKind.u64.wrap (m / 9223372036854775808)) = (zig m : Int) from zig_bits m h1 h2]
  refine (onat (zig m) _ (zig_lt m h1 h2)).mono ?_
  rintro e w1 ⟨v1, rfl, ho, hb⟩
  go_wp2
  exact ⟨_, rfl, ho, hb⟩

set_option maxHeartbeats 400000 in
theorem ostr (s : ByteArray) (w : World) (hs : s.size ≤ 70000000000) : Calls Tryd.prog 12 #[.string s] w (ByAns w (strB s)) := by
  refine via fun Q hQ => ?_
  go_enter Tryd.func12, Tryd.ntmps12
  go_wp2_with fail
  refine (onat s.size _ (by omega)).mono ?_
  rintro e w1 ⟨v1, rfl, ho, hb⟩
  have hln : (natB s.size).length + s.size ≤ 140737488355328 := by have := natB_len s.size (by omega); omega
  go_wp2_with (at_builtin; go_must (refine appendS w.heap.size 5 rfl (.tmp 6) (.tmp 7) 22 9 rfl Tryd.underlying22 Tryd.underlying9 (by kernel_rfl) v1 (natB s.size) s rfl rfl ho hb.size hln ?_); intro v2 w2 hown2 hfr2)
  exact ⟨_, rfl, hown2, ho.fr_below hb hb.size hfr2⟩

set_option maxHeartbeats 1000000 in
theorem ostrs (A : Option Addr) (cp : Nat) (ls : List ByteArray) (w : World) (hcp : ls.length ≤ cp)
    (hr : RowsAt w 1 A (ls.map fun s => [.string s])) (hm : (strsB ls).length ≤ 140737488355328) (hm2 : ls.length ≤ 1000000) (hs : ∀ s ∈ ls, s.size ≤ 70000000000) :
    Calls Tryd.prog 13 #[.slice A ls.length cp] w (ByAns w (strsB ls)) := by
  refine via fun Q hQ => ?_
  go_enter Tryd.func13, Tryd.ntmps13
  go_wp2_with fail
  refine (onat ls.length _ (by omega)).mono ?_
  rintro e w1 ⟨v1, rfl, ho1, hb1⟩
  go_wp2
  go_loopg [3, 12] ls.length (fun g o i wr => ∃ k : Nat, k ≤ ls.length ∧ g = ls.length - k ∧ i = .int .i64 k ∧ Own wr w.heap.size 5 1 o (bys (strsUp ls k)) ∧ Below w.heap.size w wr)
  case atStart => exact ⟨0, Nat.zero_le _, rfl, rfl, by simpa [strsUp] using ho1, hb1⟩
  case round =>
    obtain ⟨k, hk, rfl, rfl, ho, hb⟩ := hrel
    by_cases hlt : k < ls.length
    · obtain ⟨b, off, rfl, hc⟩ := hr k [.string (ls[k]'hlt)] (by simp [hlt])
      have c0 : wr.cell? ⟨b, off + k, none⟩ = some (.string (ls[k]'hlt)) := by
        have := (hb.cell (World.block_lt_of_cell? w _ (hc 0 _ rfl))).trans (hc 0 _ rfl)
        rwa [Nat.mul_one, Nat.add_zero] at this
      have hsk := hs _ (List.getElem_mem hlt)
      have hfl := strsUp_step ls hlt
      have hle := strsUp_len ls (k + 1)
      rw [hfl, List.length_append] at hle
      generalize ls[k] = s at c0 hsk hfl hle
      have HF := Lib.hid hfl
      have HO := Lib.hid ho
      have HB := Lib.hid hb
      have HLE := Lib.hid (Nat.le_trans hle hm)
      clear hr hc hfl ho hb hle hs ho1 hb1
      go_wp2_with fail
      refine (ostr s _ hsk).mono ?_
      rintro e w2 ⟨v2, rfl, ho2, hb2⟩
      obtain ⟨B, c, rfl, hBl, hBc, hBr⟩ := ho2.slv'
      have HO2 := Lib.hid (HO.out.below hb2)
      have HB2 := Lib.hid (below_then HB.out hb2)
      have HBr := Lib.hid hBr
      have HBc := Lib.hid hBc
      simp only [bys_len]
      clear ho2 hb2 hBl hBc hBr
      go_wp2_with (at_builtin; go_must (refine appendN w.heap.size 5 1 1 (.int .u8 0) rfl (.tmp 16) (.tmp 18) 22 rfl Tryd.underlying22 (by kernel_rfl) rfl (by decide) (by decide) u3 (bys (strsUp ls k)) (bys (strB s)) rfl B (strB s).length c rfl (bys_len _).symm HBc.out HBr.out (bys_one _) (bys_cell _) HO2.out HB2.out.size (by have := HLE.out; simp only [bys_len]; omega) ?_); intro v3 w3 hown3 hfr3)
      go_roundg (ls.length - (k + 1))
      case measure => omega
      case rel => exact ⟨k + 1, hlt, rfl, by go_num, by rw [HF.out, ← bys_app]; exact hown3, HO2.out.fr_below HB2.out HB2.out.size hfr3⟩
    · obtain rfl : k = ls.length := by omega
      rw [strsUp_all] at ho
      have HO := Lib.hid ho
      have HB := Lib.hid hb
      clear ho hb hr
      go_wp2
      exact ⟨_, rfl, HO.out, HB.out⟩
end Go.Proofs.YtgijnchfonfeaaaDoor
