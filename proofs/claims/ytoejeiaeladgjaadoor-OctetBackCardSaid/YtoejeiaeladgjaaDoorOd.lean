/- Chapter 2's reference: numbers, texts, bools, lists put into bytes. -/
import Derived.Test.YtoejeiaeladgjaaDoorOc
namespace Go.Proofs.YtoejeiaeladgjaaDoor
open Go.Proofs.BL Go.Proofs.Peel Go.RowKit
set_option maxRecDepth 100000
set_option linter.unusedVariables false

set_option maxHeartbeats 1000000 in
theorem rnat (n : Nat) (w : World) (hn : n < 2 ^ 64) : Calls Tryd.prog 38 #[.int .u64 n] w (ByAns w (natB n)) := by
  refine via fun Q hQ => ?_
  go_enter Tryd.func38, Tryd.ntmps38
  go_wp2
  go_loopg [0, 3] n (fun g x o wr => x = .int .u64 g ∧ g ≤ n ∧ ∃ low, dig n = dig g ++ low ∧ Own wr w.heap.size 5 1 o (bys low) ∧ Below w.heap.size w wr)
  case atStart => exact ⟨rfl, Nat.le_refl _, [], by simp, Own.nil _ _ _ _, Below.refl _ _⟩
  case round =>
    obtain ⟨rfl, hgn, low, hd, ho, hb⟩ := hrel
    have h8 := dig_len 8 n hn
    rw [hd, List.length_append] at h8
    have HD := Lib.hid hd
    have HO := Lib.hid ho
    have HB := Lib.hid hb
    obtain ⟨B, c, rfl, hBl, hBc, hBr⟩ := ho.slv'
    simp only [bys_len] at hBl ⊢
    have hal : Below wr.heap.size wr (wr.alloc (.cells #[.int .u8 ((gk : Int) % 256)] 5)) := (Below.refl _ _).alloc (Nat.le_refl _) _
    have HBc := Lib.hid hBc
    by_cases h0 : gk = 0
    · subst h0
      have hal2 : Below wr.heap.size wr (wr.alloc (.cells #[.int .u8 (low.length : Int)] 5)) := (Below.refl _ _).alloc (Nat.le_refl _) _
      have HR := Lib.hid (hBr.below hal2)
      have hO2 := Own.lit wr 5 1 1 [[.int .u8 (low.length : Int)]] #[.int .u8 (low.length : Int)] w.heap.size hb.size rfl (by decide) rfl (by simp) rfl
      have HO2 := Lib.hid hO2
      have HB2 := Lib.hid (below_then hb hal2)
      have hsz := HB2.out.size
      clear hd ho hb hBr hBc hal hal2 hO2
      go_wp2_with (at_builtin; go_must (refine appendN w.heap.size 5 1 1 (.int .u8 0) rfl (.tmp 17) (.tmp 18) 53 rfl Tryd.underlying53 (by kernel_rfl) rfl (by decide) (by decide) (.slice (some ⟨wr.heap.size, 0, none⟩) 1 1) [[.int .u8 (low.length : Int)]] (bys low) rfl B low.length c rfl (bys_len _).symm HBc.out HR.out (bys_one _) (bys_cell _) HO2.out HB2.out.size (by simp; omega) ?_); intro v3 w3 hown3 hfr3)
      have hb8 : (low.length : Int) = (UInt8.ofNat low.length).toNat := by simp; omega
      exact ⟨_, rfl, by rw [natB, HD.out, dig_zero, List.nil_append, bys, List.map_cons, enB, ← hb8]; exact hown3, HO2.out.fr_below HB2.out HB2.out.size hfr3⟩
    · have hp : 0 < gk := by omega
      have hO2 := Own.lit wr 5 1 1 [[.int .u8 ((gk : Int) % 256)]] #[.int .u8 ((gk : Int) % 256)] w.heap.size hb.size rfl (by decide) rfl (by simp) rfl
      have HO2 := Lib.hid hO2
      have HR := Lib.hid (hBr.below hal)
      have HB2 := Lib.hid (below_then hb hal)
      clear hd ho hb hBr hBc hal hO2
      go_wp2_with (at_builtin; go_must (refine appendN w.heap.size 5 1 1 (.int .u8 0) rfl (.tmp 9) (.tmp 10) 53 rfl Tryd.underlying53 (by kernel_rfl) rfl (by decide) (by decide) (.slice (some ⟨wr.heap.size, 0, none⟩) 1 1) [[.int .u8 ((gk : Int) % 256)]] (bys low) rfl B low.length c rfl (bys_len _).symm HBc.out HR.out (bys_one _) (bys_cell _) HO2.out HB2.out.size (by simp; omega) ?_); intro v3 w3 hown3 hfr3)
      go_roundg (gk / 256)
      case measure => exact Nat.div_lt_self hp (by decide)
      case rel => exact ⟨by first | go_num | (rw [IntKind.wrap_u64]; congr 1; omega), Nat.le_trans (Nat.div_le_self _ _) hgn, UInt8.ofNat gk :: low, by rw [HD.out, dig_pos h0, List.append_assoc]; rfl, by
          have hb8 : (gk : Int) % 256 = (UInt8.ofNat gk).toNat := by simp
          rw [bys, List.map_cons, enB, ← hb8]
          exact hown3, HO2.out.fr_below HB2.out HB2.out.size hfr3⟩

theorem ryes (b : Bool) (w : World) : Calls Tryd.prog 48 #[.bool b] w (ByAns w (yesB b)) := by
  refine via fun Q hQ => ?_
  cases b
  all_goals
    go_enter Tryd.func48, Tryd.ntmps48
    go_wp2
    exact ⟨_, rfl, Own.lit w 5 1 1 _ _ w.heap.size (Nat.le_refl _) rfl (by decide) rfl (bys_one _) rfl, (Below.refl _ _).alloc (Nat.le_refl _) _⟩


set_option maxHeartbeats 400000 in
theorem rnum (m : Int) (w : World) (h1 : -9223372036854775808 ≤ m) (h2 : m ≤ 9223372036854775807) : Calls Tryd.prog 46 #[.int .i64 m] w (ByAns w (natB (zig m))) := by
  refine via fun Q hQ => ?_
  go_enter Tryd.func46, Tryd.ntmps46
  by_cases h : m < 0
  · have hz : zig m = (2 * (-1 - m) + 1).toNat := by unfold zig; rw [if_pos h]
    go_wp2_with fail
    rw [show (2 * (-1 - m) + 1 : Int) = (zig m : Int) from by rw [hz]; omega]
    refine (rnat (zig m) _ (zig_lt m h1 h2)).mono ?_
    rintro e w1 ⟨v1, rfl, ho, hb⟩
    go_wp2
    exact ⟨_, rfl, ho, hb⟩
  · have hz : zig m = (2 * m).toNat := by unfold zig; rw [if_neg h]
    go_wp2_with fail
    rw [show (2 * m : Int) = (zig m : Int) from by rw [hz]; omega]
    refine (rnat (zig m) _ (zig_lt m h1 h2)).mono ?_
    rintro e w1 ⟨v1, rfl, ho, hb⟩
    go_wp2
    exact ⟨_, rfl, ho, hb⟩

set_option maxHeartbeats 400000 in
theorem rstr (s : ByteArray) (w : World) (hs : s.size ≤ 70000000000) : Calls Tryd.prog 47 #[.string s] w (ByAns w (strB s)) := by
  refine via fun Q hQ => ?_
  go_enter Tryd.func47, Tryd.ntmps47
  go_wp2_with fail
  refine (rnat s.size _ (by omega)).mono ?_
  rintro e w1 ⟨v1, rfl, ho, hb⟩
  have hln : (natB s.size).length + s.size ≤ 140737488355328 := by have := natB_len s.size (by omega); omega
  have hcv := Lib.run_convert_string_bytes (P := Tryd.prog) w1 9 53 5 s Tryd.underlying9 Tryd.underlying53 Tryd.underlying5
  have hbB := bytesWorld_below w1 5 s
  have hrB := bytesWorld_rows w1 5 s
  generalize Lib.bytesWorld w1 5 s = wB at hcv hbB hrB
  generalize grownCap w1 s.size 0 5 = gc at hcv
  have HR := Lib.hid hrB
  have HO := Lib.hid (ho.below hbB)
  have HB := Lib.hid (below_then hb hbB)
  clear hbB hrB ho hb
  go_wp2_with (at_builtin; go_must (refine appendN w.heap.size 5 1 1 (.int .u8 0) rfl (.tmp 8) (.tmp 10) 53 rfl Tryd.underlying53 (by kernel_rfl) rfl (by decide) (by decide) v1 (bys (natB s.size)) (bys (txt s)) rfl (some ⟨w1.heap.size, 0, none⟩) s.size gc rfl (by rw [bys_len, txt_len]) (by simp) HR.out (bys_one _) (bys_cell _) HO.out HB.out.size (by rw [bys_len, bys_len, txt_len]; omega) ?_); intro v2 w2 hown2 hfr2)
  exact ⟨_, rfl, by rw [strB, ← bys_app]; exact hown2, HO.out.fr_below HB.out HB.out.size hfr2⟩

set_option maxHeartbeats 1000000 in
theorem rstrs (A : Option Addr) (cp : Nat) (ls : List ByteArray) (w : World) (hcp : ls.length ≤ cp)
    (hr : RowsAt w 1 A (ls.map fun s => [.string s])) (hm : (strsB ls).length ≤ 140737488355328) (hm2 : ls.length ≤ 1000000) (hs : ∀ s ∈ ls, s.size ≤ 70000000000) :
    Calls Tryd.prog 49 #[.slice A ls.length cp] w (ByAns w (strsB ls)) := by
  refine via fun Q hQ => ?_
  go_enter Tryd.func49, Tryd.ntmps49
  go_wp2_with fail
  refine (rnat ls.length _ (by omega)).mono ?_
  rintro e w1 ⟨v1, rfl, ho1, hb1⟩
  go_wp2
  go_loopg [3, 12] ls.length (fun g o i wr => ∃ k : Nat, k ≤ ls.length ∧ g = ls.length - k ∧ i = .int .i64 k ∧ Own wr w.heap.size 5 1 o (bys (strsUp ls k)) ∧ Below w.heap.size w wr)
  case atStart => exact ⟨0, Nat.zero_le _, rfl, rfl, by simpa [strsUp] using ho1, hb1⟩
  case round =>
    obtain ⟨k, hk, rfl, rfl, ho, hb⟩ := hrel
    by_cases hlt : k < ls.length
    · obtain ⟨b, off, rfl, hc⟩ := hr k [.string (ls[k]'hlt)] (by simp [hlt])
      have c0 : wr.cell? ⟨b, off + k, none⟩ = some (.string (ls[k]'hlt)) := by
        have := (hb.cell (World.block_lt_of_cell? w _ (hc 0 _ rfl))).trans (hc 0 _ rfl)
        rwa [Nat.mul_one, Nat.add_zero] at this
      have hsk := hs _ (List.getElem_mem hlt)
      have hfl := strsUp_step ls hlt
      have hle := strsUp_len ls (k + 1)
      rw [hfl, List.length_append] at hle
      generalize ls[k] = s at c0 hsk hfl hle
      have HF := Lib.hid hfl
      have HO := Lib.hid ho
      have HB := Lib.hid hb
      have HLE := Lib.hid (Nat.le_trans hle hm)
      clear hr hc hfl ho hb hle hs ho1 hb1
      go_wp2_with fail
      refine (rstr s _ hsk).mono ?_
      rintro e w2 ⟨v2, rfl, ho2, hb2⟩
      obtain ⟨B, c, rfl, hBl, hBc, hBr⟩ := ho2.slv'
      have HO2 := Lib.hid (HO.out.below hb2)
      have HB2 := Lib.hid (below_then HB.out hb2)
      have HBr := Lib.hid hBr
      have HBc := Lib.hid hBc
      simp only [bys_len]
      clear ho2 hb2 hBl hBc hBr
      go_wp2_with (at_builtin; go_must (refine appendN w.heap.size 5 1 1 (.int .u8 0) rfl (.tmp 16) (.tmp 18) 53 rfl Tryd.underlying53 (by kernel_rfl) rfl (by decide) (by decide) u3 (bys (strsUp ls k)) (bys (strB s)) rfl B (strB s).length c rfl (bys_len _).symm HBc.out HBr.out (bys_one _) (bys_cell _) HO2.out HB2.out.size (by have := HLE.out; simp only [bys_len]; omega) ?_); intro v3 w3 hown3 hfr3)
      go_roundg (ls.length - (k + 1))
      case measure => omega
      case rel => exact ⟨k + 1, hlt, rfl, by go_num, by rw [HF.out, ← bys_app]; exact hown3, HO2.out.fr_below HB2.out HB2.out.size hfr3⟩
    · obtain rfl : k = ls.length := by omega
      rw [strsUp_all] at ho
      have HO := Lib.hid ho
      have HB := Lib.hid hb
      clear ho hb hr
      go_wp2
      exact ⟨_, rfl, HO.out, HB.out⟩
end Go.Proofs.YtoejeiaeladgjaaDoor
