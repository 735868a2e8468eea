/- Package octet: numbers and texts put into bytes. -/
import Derived.Test.YtgijnchfonfeaaaDoorOa
import Derived.Test.YtgijnchfonfeaaaDoorFc
import Derived.Deep.DeepMust
namespace Go.Proofs.YtgijnchfonfeaaaDoor
open Go.Proofs.BL Go.Proofs.Peel Go.RowKit
set_option maxRecDepth 100000
set_option linter.unusedVariables false

def ByAns (w : World) (l : List UInt8) (e : Ending) (w' : World) : Prop := ∃ v, e = .returned v ∧ Own w' w.heap.size 5 1 v (bys l) ∧ Below w.heap.size w w'

def arr9 (k : Nat) (low : List UInt8) : Array Value := ((List.replicate (9 - k) (0 : UInt8) ++ low).map fun x => Value.int .u8 x.toNat).toArray

theorem blk_bytes {w : World} {b : Nat} {t : TypeId} (p l : List UInt8) (h : Blk w b ((p ++ l).map fun x => Value.int .u8 x.toNat).toArray t) : RowsAt w 1 (some ⟨b, p.length, none⟩) (bys l) := by
  intro j r hj
  refine ⟨_, _, rfl, fun k u hk => ?_⟩
  rw [List.getElem?_map] at hj
  obtain ⟨x, hx, rfl⟩ := Option.map_eq_some_iff.1 hj
  cases k with
  | succ k => simp [enB] at hk
  | zero =>
    simp [enB] at hk
    subst hk
    refine h.at_ _ ?_
    simp only [List.getElem?_toArray, List.getElem?_map]
    rw [List.getElem?_append_right (by omega), show p.length + j * 1 + 0 - p.length = j from by omega, hx]
    rfl
theorem arr9_at {i : Nat} {low : List UInt8} (h : i ≤ 8) : (arr9 i low)[8 - i]? = some (.int .u8 0) := by
  simp only [arr9, List.getElem?_toArray, List.getElem?_map]
  rw [List.getElem?_append_left (by simp; omega), List.getElem?_replicate, if_pos (by omega)]
  rfl
theorem arr9_set {i : Nat} {low : List UInt8} (h : i ≤ 8) (x : UInt8) (z : Int) (hz : z = x.toNat) : (arr9 i low).setIfInBounds (8 - i) (.int .u8 z) = ((List.replicate (8 - i) (0 : UInt8) ++ x :: low).map fun x => Value.int .u8 x.toNat).toArray := by
  subst hz
  rw [arr9, List.setIfInBounds_toArray]
  congr 1
  rw [show 9 - i = (8 - i) + 1 from by omega, List.replicate_succ', List.append_assoc, List.map_append, List.map_append, List.set_append_right _ _ (by simp)]
  simp
theorem slice9 (b i : Nat) (h : i ≤ 8) (w : World) : (Instr.sliceAt 49 (.pointer (some ⟨b, 0, none⟩)) (some (.int .i64 (8 - (i : Int)))) none none).run Tryd.prog w = .ok (.slice (some ⟨b, 8 - i, none⟩) (i + 1) (i + 1)) w := by
  have al : Tryd.prog.arrayLen 49 = 9 := by kernel_rfl
  have sz : (sizeOf (Tryd.prog.elem 49)).run Tryd.prog w = .ok 1 w := by kernel_rfl
  rw [run_sliceAt_array_l w 49 ⟨b, 0, none⟩ (by kernel_rfl) .i64 (8 - (i : Int)) (by omega) (by rw [al]; omega), sz, al]
  have e : ((8 : Int) - i).toNat = 8 - i := by omega
  simp only [Result.andThen, slicedAt, e]
  rw [if_neg (by omega), Nat.mul_one, show 9 - (8 - i) = i + 1 from by omega]
  simp [Addr.add]
  omega

set_option maxHeartbeats 1000000 in
theorem onat (n : Nat) (w : World) (hn : n < 2 ^ 64) : Calls Tryd.prog 10 #[.int .u64 n] w (ByAns w (natB n)) := by
  refine via fun Q hQ => ?_
  go_enter Tryd.func10, Tryd.ntmps10
  go_wp2_with fail
  go_loopg [4, 5] n (fun g k x wr => ∃ (i : Nat) (low : List UInt8), k = .int .i64 i ∧ x = .int .u64 g ∧ low.length = i ∧ dig n = dig g ++ low ∧ Blk wr w.heap.size (arr9 i low) 49 ∧ Below w.heap.size w wr)
  case atStart => exact ⟨0, [], rfl, rfl, rfl, by simp, Blk.new _ _ _, (Below.refl _ _).alloc (Nat.le_refl _) _⟩
  case round =>
    obtain ⟨i, low, rfl, rfl, hl, hd, hB, hb⟩ := hrel
    have hi8 : i ≤ 8 := by
      have h1 := dig_len 8 n hn
      rw [hd, List.length_append] at h1
      omega
    have HD := Lib.hid hd
    have HB := Lib.hid hB
    have Hb := Lib.hid hb
    have HL := Lib.hid hl
    have c0 : wr.cell? ⟨w.heap.size, 8 - i, none⟩ = some (.int .u8 0) := HB.out.at_ _ (arr9_at hi8)
    have f0 := HB.out.free (8 - i)
    have hws : w.heap.size < wr.heap.size := HB.out.lt
    clear hd hB hb hl
    by_cases h0 : gk = 0
    · subst h0
      have hsl := slice9 w.heap.size i hi8
      have hB2 := HB.out.set (8 - i) (.int .u8 i)
      rw [arr9_set hi8 (UInt8.ofNat i) i (by simp; omega)] at hB2
      have hb2 := Hb.out.setCell (p := ⟨w.heap.size, 8 - i, none⟩) (Nat.le_refl _) (.int .u8 i)
      generalize hw2 : wr.setCell ⟨w.heap.size, 8 - i, none⟩ (.int .u8 i) = w2 at hB2 hb2
      have HB2 := Lib.hid hB2
      have Hb2 := Lib.hid hb2
      have hO2 := Own.lit w2 5 1 0 [] #[] w.heap.size Hb2.out.size rfl (by decide) rfl (fun _ h => by cases h) rfl
      have hB3 := (HB2.out.alloc (.cells #[] 5))
      have hR3 : RowsAt (w2.alloc (.cells #[] 5)) 1 (some ⟨w.heap.size, 8 - i, none⟩) (bys (natB n)) := by
        rw [natB, HD.out, dig_zero, List.nil_append, HL.out]
        have := blk_bytes (List.replicate (8 - i) (0 : UInt8)) _ hB3
        rwa [List.length_replicate] at this
      have HN1 := Lib.hid (show i + 1 = (bys (natB n)).length from by rw [bys_len, natB, HD.out, dig_zero, List.nil_append, List.length_cons, HL.out])
      have hsz3 : w.heap.size ≤ (w2.alloc (.cells #[] 5)).heap.size := by have := Hb2.out.size; simp; omega
      have hln : (([] : List (List Value)).length + (bys (natB n)).length) * 1 ≤ 140737488355328 := by have := natB_len n hn; simp; omega
      go_wp2_with (at_builtin; go_must (refine appendN w.heap.size 5 1 1 (.int .u8 0) rfl (.tmp 23) (.tmp 26) 22 rfl Tryd.underlying22 (by kernel_rfl) rfl (by decide) (by decide) (.slice (some ⟨w2.heap.size, 0, none⟩) 0 0) [] (bys (natB n)) rfl (some ⟨w.heap.size, 8 - i, none⟩) (i + 1) (i + 1) rfl HN1.out (by simp) hR3 (bys_one _) (bys_cell _) hO2 hsz3 hln ?_); intro v1 w1 hown1 hfr1)
      exact ⟨_, rfl, hown1, ((Fr.of_below (S := none_) Hb2.out).alloc _ |>.trans hfr1 (fun k hk hS => by have := (hO2.1.lt k hS).1; omega)).below⟩
    · have hp : 0 < gk := by omega
      have hi7 : i ≤ 7 := by
        have h1 := dig_len 8 n hn
        rw [HD.out, List.length_append, dig_pos h0, List.length_append, List.length_singleton, HL.out] at h1
        omega
      go_wp2_with fail
      go_roundg (gk / 256)
      case measure => exact Nat.div_lt_self hp (by decide)
      case rel => exact ⟨i + 1, UInt8.ofNat gk :: low, by go_num, by go_num, by simp [HL.out], by rw [HD.out, dig_pos h0, List.append_assoc]; rfl, by
          have := HB.out.set (8 - i) (.int .u8 ((gk : Int) % 256))
          rw [arr9_set hi8 (UInt8.ofNat gk) _ (by simp)] at this
          rw [arr9, show 9 - (i + 1) = 8 - i from by omega]
          exact this, Hb.out.setCell (p := ⟨w.heap.size, 8 - i, none⟩) (Nat.le_refl _) _⟩
end Go.Proofs.YtgijnchfonfeaaaDoor
