/- Chapter 2's plain words: numbers and texts as bytes. The faults' texts of this seat. Package octet: numbers and texts put into bytes. Words: what bit operations yield. Package octet: signed numbers, texts, bools, lists put into bytes. Chapter 2's reference: numbers, texts, bools, lists put into bytes. Package octet: the reader: what it is, and its inner functions. Package octet: the reader's raw and nat. Package octet: the reader's nat. Package octet: the reader's Nat, Num, Yes, Str; Err, Place, Left, End. Package octet: the reader's Str, Err, Place, Left, End, Yes; Of. Package octet: the reader's Yes and Strs. Chapter 2's plain law: what was put into bytes is read as it was, and only that. What a reader tells: no fault, or a number that is not 0. append(v, u...) as one step of a region that draws its order. -/
import Derived.Test.YtigffdmpofcdgaaGreatDoorJA
import Derived.Deep.DeepMust
import Derived.Laws.Entries
import Derived.WalkKit
import Derived.Laws.Bits64
import Derived.Great.Walk
import Derived.Deep.QuietTactic
import Derived.BigQuiet
import Derived.Deep.AppendLies
import Derived.Deep.RegionHeld3
section
set_option linter.unusedVariables false
namespace Go.Proofs.BL

/-- A number's bytes, the great ones first, none ahead that is 0. -/
def dig (n : Nat) : List UInt8 := if h : n = 0 then [] else dig (n / 256) ++ [UInt8.ofNat n]
termination_by n
decreasing_by exact Nat.div_lt_self (Nat.pos_of_ne_zero h) (by decide)
theorem dig_zero : dig 0 = [] := by unfold dig; rfl
theorem dig_pos {n : Nat} (h : n ≠ 0) : dig n = dig (n / 256) ++ [UInt8.ofNat n] := by rw [dig]; rw [dif_neg h]
theorem dig_len : ∀ (m n : Nat), n < 256 ^ m → (dig n).length ≤ m
  | 0, n, h => by
    obtain rfl : n = 0 := by simpa using h
    rw [dig_zero]; exact Nat.le_refl _
  | m + 1, n, h => by
    by_cases h0 : n = 0
    · subst h0; rw [dig_zero]; exact Nat.zero_le _
    · rw [dig_pos h0, List.length_append]
      have := dig_len m (n / 256) (by rw [Nat.pow_succ] at h; exact Nat.div_lt_of_lt_mul (by rwa [Nat.mul_comm]))
      simpa using this
/-- A number. -/
def natB (n : Nat) : List UInt8 := UInt8.ofNat (dig n).length :: dig n
/-- A text. -/
def strB (s : ByteArray) : List UInt8 := natB s.size ++ txt s
/-- A number with a sign. -/
def zig (m : Int) : Nat := if m < 0 then (2 * (-1 - m) + 1).toNat else (2 * m).toNat
def yesB (b : Bool) : List UInt8 := [if b then 1 else 0]
def strsB (l : List ByteArray) : List UInt8 := natB l.length ++ (l.map strB).flatten
theorem natB_len (n : Nat) (h : n < 2 ^ 64) : (natB n).length ≤ 9 := by
  have := dig_len 8 n h
  simp [natB]; omega
theorem strB_len (s : ByteArray) (h : s.size < 2 ^ 64) : (strB s).length ≤ 9 + s.size := by
  have := natB_len s.size h
  simp only [strB, List.length_append, txt_len]; omega
/-- A list's bytes, up to a text. -/
def strsUp (l : List ByteArray) (k : Nat) : List UInt8 := natB l.length ++ ((l.take k).map strB).flatten
theorem strsUp_all (l : List ByteArray) : strsUp l l.length = strsB l := by rw [strsUp, List.take_length]; rfl
theorem flat_take (ls : List (List UInt8)) (k : Nat) : (ls.take k).flatten.length ≤ ls.flatten.length := by
  have h : ls.flatten = (ls.take k).flatten ++ (ls.drop k).flatten := by rw [← List.flatten_append, List.take_append_drop]
  rw [h, List.length_append]
  omega
theorem take_step {α : Type} (l : List α) {k : Nat} (h : k < l.length) : l.take (k + 1) = l.take k ++ [l[k]] := by
  rw [List.take_add_one, List.getElem?_eq_getElem h]
  rfl
theorem strsUp_step (l : List ByteArray) {k : Nat} (h : k < l.length) : strsUp l (k + 1) = strsUp l k ++ strB l[k] := by
  rw [strsUp, strsUp, List.append_assoc, take_step l h, List.map_append, List.flatten_append]
  simp only [List.map_cons, List.map_nil, List.flatten_cons, List.flatten_nil, List.append_nil]
theorem strsUp_len (l : List ByteArray) (k : Nat) : (strsUp l k).length ≤ (strsB l).length := by
  have := flat_take (l.map strB) k
  rw [← List.map_take] at this
  simp only [strsUp, strsB, List.length_append]
  omega
/-- What bytes are worth as a number. -/
def val (l : List UInt8) : Nat := l.foldl (fun n x => n * 256 + x.toNat) 0
theorem val_snoc (l : List UInt8) (x : UInt8) : val (l ++ [x]) = val l * 256 + x.toNat := by simp [val]
theorem val_lt (l : List UInt8) : val l < 256 ^ l.length := by
  rw [← List.reverse_reverse l]
  generalize l.reverse = k
  induction k with
  | nil => decide
  | cons x k ih =>
    rw [List.reverse_cons, val_snoc, List.length_append, List.length_singleton, Nat.pow_succ]
    have := x.toNat_lt
    omega
/-- The number that stands at the head, and how many bytes it takes. -/
def pnat : List UInt8 → Option (Nat × Nat)
  | [] => none
  | k :: r => if 8 < k.toNat then none else if r.length < k.toNat then none else if (r.take k.toNat).head? = some 0 then none else some (val (r.take k.toNat), k.toNat + 1)
theorem pnat_len {l : List UInt8} {n k : Nat} (h : pnat l = some (n, k)) : k ≤ l.length ∧ 0 < k ∧ n < 2 ^ 64 := by
  cases l with
  | nil => cases h
  | cons x r =>
    simp only [pnat] at h
    split at h
    · cases h
    · split at h
      · cases h
      · split at h
        · cases h
        · injection h with h
          injection h with h1 h2
          subst h1 h2
          refine ⟨by simp; omega, by omega, Nat.lt_of_lt_of_le (val_lt _) ?_⟩
          have : (r.take x.toNat).length ≤ 8 := by rw [List.length_take]; omega
          exact Nat.le_trans (Nat.pow_le_pow_right (by decide) this) (by decide)
end Go.Proofs.BL
end

section

end

section
namespace Go.Proofs.YtigffdmpofcdgaaGreatDoor
open Go.Proofs.BL Go.Proofs.Peel Go.RowKit
set_option maxRecDepth 100000
set_option linter.unusedVariables false

def ByAns (w : World) (l : List UInt8) (e : Ending) (w' : World) : Prop := ∃ v, e = .returned v ∧ Own w' w.heap.size 5 1 v (bys l) ∧ Below w.heap.size w w'

def arr9 (k : Nat) (low : List UInt8) : Array Value := ((List.replicate (9 - k) (0 : UInt8) ++ low).map fun x => Value.int .u8 x.toNat).toArray

theorem blk_bytes {w : World} {b : Nat} {t : TypeId} (p l : List UInt8) (h : Blk w b ((p ++ l).map fun x => Value.int .u8 x.toNat).toArray t) : RowsAt w 1 (some ⟨b, p.length, none⟩) (bys l) := by
  intro j r hj
  refine ⟨_, _, rfl, fun k u hk => ?_⟩
  rw [List.getElem?_map] at hj
  obtain ⟨x, hx, rfl⟩ := Option.map_eq_some_iff.1 hj
  cases k with
  | succ k => simp [enB] at hk
  | zero =>
    simp [enB] at hk
    subst hk
    refine h.at_ _ ?_
    simp only [List.getElem?_toArray, List.getElem?_map]
    rw [List.getElem?_append_right (by omega), show p.length + j * 1 + 0 - p.length = j from by omega, hx]
    rfl
theorem arr9_at {i : Nat} {low : List UInt8} (h : i ≤ 8) : (arr9 i low)[8 - i]? = some (.int .u8 0) := by
  simp only [arr9, List.getElem?_toArray, List.getElem?_map]
  rw [List.getElem?_append_left (by simp; omega), List.getElem?_replicate, if_pos (by omega)]
  rfl
theorem arr9_set {i : Nat} {low : List UInt8} (h : i ≤ 8) (x : UInt8) (z : Int) (hz : z = x.toNat) : (arr9 i low).setIfInBounds (8 - i) (.int .u8 z) = ((List.replicate (8 - i) (0 : UInt8) ++ x :: low).map fun x => Value.int .u8 x.toNat).toArray := by
  subst hz
  rw [arr9, List.setIfInBounds_toArray]
  congr 1
  rw [show 9 - i = (8 - i) + 1 from by omega, List.replicate_succ', List.append_assoc, List.map_append, List.map_append, List.set_append_right _ _ (by simp)]
  simp
theorem slice9 (b i : Nat) (h : i ≤ 8) (w : World) : (Instr.sliceAt 70 (.pointer (some ⟨b, 0, none⟩)) (some (.int .i64 (8 - (i : Int)))) none none).run Tryz.prog w = .ok (.slice (some ⟨b, 8 - i, none⟩) (i + 1) (i + 1)) w := by
  have al : Tryz.prog.arrayLen 70 = 9 := by kernel_rfl
  have sz : (sizeOf (Tryz.prog.elem 70)).run Tryz.prog w = .ok 1 w := by kernel_rfl
  rw [run_sliceAt_array_l w 70 ⟨b, 0, none⟩ (by kernel_rfl) .i64 (8 - (i : Int)) (by omega) (by rw [al]; omega), sz, al]
  have e : ((8 : Int) - i).toNat = 8 - i := by omega
  simp only [Result.andThen, slicedAt, e]
  rw [if_neg (by omega), Nat.mul_one, show 9 - (8 - i) = i + 1 from by omega]
  simp [Addr.add]
  omega

set_option maxHeartbeats 1000000 in
theorem onat (n : Nat) (w : World) (hn : n < 2 ^ 64) : Calls Tryz.prog 13 #[.int .u64 n] w (ByAns w (natB n)) := by
  refine via fun Q hQ => ?_
  go_enter Tryz.func13, Tryz.ntmps13
  go_wp2_with fail
  go_loopg [4, 5] n (fun g k x wr => ∃ (i : Nat) (low : List UInt8), k = .int .i64 i ∧ x = .int .u64 g ∧ low.length = i ∧ dig n = dig g ++ low ∧ Blk wr w.heap.size (arr9 i low) 70 ∧ Below w.heap.size w wr)
  case atStart => exact ⟨0, [], rfl, rfl, rfl, by simp, Blk.new _ _ _, (Below.refl _ _).alloc (Nat.le_refl _) _⟩
  case round =>
    obtain ⟨i, low, rfl, rfl, hl, hd, hB, hb⟩ := hrel
    have hi8 : i ≤ 8 := by
      have h1 := dig_len 8 n hn
      rw [hd, List.length_append] at h1
      omega
    have HD := Lib.hid hd
    have HB := Lib.hid hB
    have Hb := Lib.hid hb
    have HL := Lib.hid hl
    have c0 : wr.cell? ⟨w.heap.size, 8 - i, none⟩ = some (.int .u8 0) := HB.out.at_ _ (arr9_at hi8)
    have f0 := HB.out.free (8 - i)
    have hws : w.heap.size < wr.heap.size := HB.out.lt
    clear hd hB hb hl
    by_cases h0 : gk = 0
    · subst h0
      have hsl := slice9 w.heap.size i hi8
      have hB2 := HB.out.set (8 - i) (.int .u8 i)
      rw [arr9_set hi8 (UInt8.ofNat i) i (by simp; omega)] at hB2
      have hb2 := Hb.out.setCell (p := ⟨w.heap.size, 8 - i, none⟩) (Nat.le_refl _) (.int .u8 i)
      generalize hw2 : wr.setCell ⟨w.heap.size, 8 - i, none⟩ (.int .u8 i) = w2 at hB2 hb2
      have HB2 := Lib.hid hB2
      have Hb2 := Lib.hid hb2
      have hO2 := Own.lit w2 5 1 0 [] #[] w.heap.size Hb2.out.size rfl (by decide) rfl (fun _ h => by cases h) rfl
      have hB3 := (HB2.out.alloc (.cells #[] 5))
      have hR3 : RowsAt (w2.alloc (.cells #[] 5)) 1 (some ⟨w.heap.size, 8 - i, none⟩) (bys (natB n)) := by
        rw [natB, HD.out, dig_zero, List.nil_append, HL.out]
        have := blk_bytes (List.replicate (8 - i) (0 : UInt8)) _ hB3
        rwa [List.length_replicate] at this
      have HN1 := Lib.hid (show i + 1 = (bys (natB n)).length from by rw [bys_len, natB, HD.out, dig_zero, List.nil_append, List.length_cons, HL.out])
      have hsz3 : w.heap.size ≤ (w2.alloc (.cells #[] 5)).heap.size := by have := Hb2.out.size; simp; omega
      have hln : (([] : List (List Value)).length + (bys (natB n)).length) * 1 ≤ 140737488355328 := by have := natB_len n hn; simp; omega
      go_wp2_with (at_builtin; go_must (refine appendN w.heap.size 5 1 1 (.int .u8 0) rfl (.tmp 23) (.tmp 26) 23 rfl Tryz.underlying23 (by kernel_rfl) rfl (by decide) (by decide) (.slice (some ⟨w2.heap.size, 0, none⟩) 0 0) [] (bys (natB n)) rfl (some ⟨w.heap.size, 8 - i, none⟩) (i + 1) (i + 1) rfl HN1.out (by simp) hR3 (bys_one _) (bys_cell _) hO2 hsz3 hln ?_); intro v1 w1 hown1 hfr1)
      exact ⟨_, rfl, hown1, ((Fr.of_below (S := none_) Hb2.out).alloc _ |>.trans hfr1 (fun k hk hS => by have := (hO2.1.lt k hS).1; omega)).below⟩
    · have hp : 0 < gk := by omega
      have hi7 : i ≤ 7 := by
        have h1 := dig_len 8 n hn
        rw [HD.out, List.length_append, dig_pos h0, List.length_append, List.length_singleton, HL.out] at h1
        omega
      go_wp2_with fail
      go_roundg (gk / 256)
      case measure => exact Nat.div_lt_self hp (by decide)
      case rel => exact ⟨i + 1, UInt8.ofNat gk :: low, by go_num, by go_num, by simp [HL.out], by rw [HD.out, dig_pos h0, List.append_assoc]; rfl, by
          have := HB.out.set (8 - i) (.int .u8 ((gk : Int) % 256))
          rw [arr9_set hi8 (UInt8.ofNat gk) _ (by simp)] at this
          rw [arr9, show 9 - (i + 1) = 8 - i from by omega]
          exact this, Hb.out.setCell (p := ⟨w.heap.size, 8 - i, none⟩) (Nat.le_refl _) _⟩
end Go.Proofs.YtigffdmpofcdgaaGreatDoor
end

section
set_option linter.unusedVariables false
namespace Go.Proofs.BL
theorem ofInt_nat (x : Int) (h0 : 0 ≤ x) (h1 : x < 18446744073709551616) : ((BitVec.ofInt 64 x).toNat : Int) = x := by
  rw [BitVec.toNat_ofInt]
  omega
theorem u64_of (n : Nat) (h : n < 18446744073709551616) : IntKind.u64.wrap (n : Int) = n := by
  show (n : Int) % 18446744073709551616 = n
  omega
theorem xor_zero (x : Int) (h0 : 0 ≤ x) (h1 : x < 18446744073709551616) : bits .xor .u64 x 0 = x := by
  show IntKind.u64.wrap ((BitVec.ofInt 64 x ^^^ BitVec.ofInt 64 0).toNat : Int) = x
  rw [show BitVec.ofInt 64 0 = 0#64 from rfl, BitVec.xor_zero, ofInt_nat x h0 h1]
  show x % 18446744073709551616 = x
  omega
theorem xor_ones (x : Int) (h0 : 0 ≤ x) (h1 : x < 18446744073709551616) : bits .xor .u64 x 18446744073709551615 = 18446744073709551615 - x := by
  show IntKind.u64.wrap ((BitVec.ofInt 64 x ^^^ BitVec.ofInt 64 18446744073709551615).toNat : Int) = _
  rw [show BitVec.ofInt 64 18446744073709551615 = BitVec.allOnes 64 from rfl, BitVec.xor_allOnes, BitVec.toNat_not]
  have := ofInt_nat x h0 h1
  have hlt := (BitVec.ofInt 64 x).isLt
  show (((2 ^ 64 - 1 - (BitVec.ofInt 64 x).toNat : Nat)) : Int) % 18446744073709551616 = _
  omega
theorem xor_sign (x y : Int) (h0 : 0 ≤ x) (h1 : x < 9223372036854775808) (hy : y = 0 ∨ y = -1) : bits .xor .i64 x y = if y = 0 then x else -1 - x := by
  rcases hy with rfl | rfl
  · show IntKind.i64.wrap ((BitVec.ofInt 64 x ^^^ BitVec.ofInt 64 0).toNat : Int) = _
    rw [show BitVec.ofInt 64 0 = 0#64 from rfl, BitVec.xor_zero, ofInt_nat x h0 (by omega), IntKind.wrap_i64, if_pos rfl]
    omega
  · show IntKind.i64.wrap ((BitVec.ofInt 64 x ^^^ BitVec.ofInt 64 (-1)).toNat : Int) = _
    rw [show BitVec.ofInt 64 (-1) = BitVec.allOnes 64 from rfl, BitVec.xor_allOnes, BitVec.toNat_not, IntKind.wrap_i64, if_neg (by decide)]
    have := ofInt_nat x h0 (by omega)
    have hlt := (BitVec.ofInt 64 x).isLt
    omega
theorem and_one (x : Int) (h0 : 0 ≤ x) (h1 : x < 18446744073709551616) : bits .and .u64 x 1 = x % 2 := by
  show IntKind.u64.wrap ((BitVec.ofInt 64 x &&& BitVec.ofInt 64 1).toNat : Int) = _
  rw [BitVec.toNat_and, show (BitVec.ofInt 64 1).toNat = 1 from rfl, Nat.and_one_is_mod]
  have := ofInt_nat x h0 h1
  show (((BitVec.ofInt 64 x).toNat % 2 : Nat) : Int) % 18446744073709551616 = _
  omega
theorem or_low (x y : Nat) (h : x * 256 < 18446744073709551616) (hy : y < 256) : bits .or .u64 ((x : Int) * 256) y = x * 256 + y := by
  show IntKind.u64.wrap ((BitVec.ofInt 64 ((x : Int) * 256) ||| BitVec.ofInt 64 (y : Int)).toNat : Int) = _
  have hx := ofInt_nat ((x : Int) * 256) (by omega) (by omega)
  have hx' : (BitVec.ofInt 64 ((x : Int) * 256)).toNat = x * 256 := by omega
  have hy' : (BitVec.ofInt 64 (y : Int)).toNat = y := by have := ofInt_nat (y : Int) (by omega) (by omega); omega
  rw [BitVec.toNat_or, hx', hy', show x * 256 = x <<< 8 from by rw [Nat.shiftLeft_eq], ← Nat.shiftLeft_add_eq_or_of_lt (by omega), Nat.shiftLeft_eq]
  show (((x * 2 ^ 8 + y : Nat)) : Int) % 18446744073709551616 = _
  omega
end Go.Proofs.BL
end

section
namespace Go.Proofs.YtigffdmpofcdgaaGreatDoor
open Go.Proofs.BL Go.Proofs.Peel Go.RowKit
set_option maxRecDepth 100000
set_option linter.unusedVariables false

theorem zig_lt (m : Int) (h1 : -9223372036854775808 ≤ m) (h2 : m ≤ 9223372036854775807) : zig m < 2 ^ 64 := by
  unfold zig; split <;> omega
theorem zig_bits (m : Int) (h1 : -9223372036854775808 ≤ m) (h2 : m ≤ 9223372036854775807) : bits BinOp.xor IntKind.u64 (IntKind.u64.wrap (IntKind.u64.wrap m * 2)) (IntKind.u64.wrap (m / 9223372036854775808)) = (zig m : Int) := by
  simp only [IntKind.wrap_u64]
  unfold zig
  by_cases h : m < 0
  · rw [if_pos h, show m / 9223372036854775808 % 18446744073709551616 = 18446744073709551615 from by omega, xor_ones _ (by omega) (by omega)]
    omega
  · rw [if_neg h, show m / 9223372036854775808 % 18446744073709551616 = 0 from by omega, xor_zero _ (by omega) (by omega)]
    omega

set_option maxHeartbeats 400000 in
theorem onum (m : Int) (w : World) (h1 : -9223372036854775808 ≤ m) (h2 : m ≤ 9223372036854775807) : Calls Tryz.prog 17 #[.int .i64 m] w (ByAns w (natB (zig m))) := by
  refine via fun Q hQ => ?_
  go_enter Tryz.func17, Tryz.ntmps17
  go_wp2_with fail
  rw [show bits BinOp.xor IntKind.u64 (IntKind.u64.wrap (IntKind.u64.wrap m * 2)) (IntKind.u64.wrap (m / 9223372036854775808)) = (zig m : Int) from zig_bits m h1 h2]
  refine (onat (zig m) _ (zig_lt m h1 h2)).mono ?_
  rintro e w1 ⟨v1, rfl, ho, hb⟩
  go_wp2
  exact ⟨_, rfl, ho, hb⟩

set_option maxHeartbeats 400000 in
theorem ostr (s : ByteArray) (w : World) (hs : s.size ≤ 70000000000) : Calls Tryz.prog 15 #[.string s] w (ByAns w (strB s)) := by
  refine via fun Q hQ => ?_
  go_enter Tryz.func15, Tryz.ntmps15
  go_wp2_with fail
  refine (onat s.size _ (by omega)).mono ?_
  rintro e w1 ⟨v1, rfl, ho, hb⟩
  have hln : (natB s.size).length + s.size ≤ 140737488355328 := by have := natB_len s.size (by omega); omega
  go_wp2_with (at_builtin; go_must (refine appendS w.heap.size 5 rfl (.tmp 6) (.tmp 7) 23 9 rfl Tryz.underlying23 Tryz.underlying9 (by kernel_rfl) v1 (natB s.size) s rfl rfl ho hb.size hln ?_); intro v2 w2 hown2 hfr2)
  exact ⟨_, rfl, hown2, ho.fr_below hb hb.size hfr2⟩

theorem oyes (b : Bool) (w : World) : Calls Tryz.prog 16 #[.bool b] w (ByAns w (yesB b)) := by
  refine via fun Q hQ => ?_
  cases b
  all_goals
    go_enter Tryz.func16, Tryz.ntmps16
    go_wp2
    exact ⟨_, rfl, Own.lit w 5 1 1 _ _ w.heap.size (Nat.le_refl _) rfl (by decide) rfl (bys_one _) rfl, (Below.refl _ _).alloc (Nat.le_refl _) _⟩

set_option maxHeartbeats 1000000 in
theorem oseq (A : Option Addr) (cp : Nat) (ls : List (List UInt8)) (vs : List Value) (w : World) (hl : vs.length = ls.length) (hcp : ls.length ≤ cp)
    (hr : RowsAt w 1 A (vs.map fun v => [v])) (hv : ∀ (k : Nat) v l, vs[k]? = some v → ls[k]? = some l → ∃ (B : Option Addr) (c : Nat), v = Value.slice B l.length c ∧ (B = none → c = 0) ∧ RowsAt w 1 B (bys l)) (hm : ls.flatten.length ≤ 140737488355328) (hm2 : ls.length ≤ 1000000) :
    Calls Tryz.prog 14 #[.slice A ls.length cp] w (ByAns w ls.flatten) := by
  refine via fun Q hQ => ?_
  go_enter Tryz.func14, Tryz.ntmps14
  go_wp2
  go_loopg [3, 8] ls.length (fun g o i wr => ∃ k : Nat, k ≤ ls.length ∧ g = ls.length - k ∧ i = .int .i64 k ∧ Own wr w.heap.size 5 1 o (bys (ls.take k).flatten) ∧ Below w.heap.size w wr)
  case atStart => exact ⟨0, Nat.zero_le _, rfl, rfl, Own.nil _ _ _ _, Below.refl _ _⟩
  case round =>
    obtain ⟨k, hk, rfl, rfl, ho, hb⟩ := hrel
    by_cases hlt : k < ls.length
    · obtain ⟨v, hvk⟩ : ∃ v, vs[k]? = some v := ⟨vs[k]'(by omega), List.getElem?_eq_getElem (by omega)⟩
      obtain ⟨l, hlk⟩ : ∃ l, ls[k]? = some l := ⟨ls[k]'(by omega), List.getElem?_eq_getElem (by omega)⟩
      obtain ⟨b, off, rfl, hc⟩ := hr k [v] (by rw [List.getElem?_map, hvk]; rfl)
      have c0 : wr.cell? ⟨b, off + k, none⟩ = some v := by
        have := (hb.cell (World.block_lt_of_cell? w _ (hc 0 v rfl))).trans (hc 0 v rfl)
        rwa [Nat.mul_one, Nat.add_zero] at this
      obtain ⟨B, c, rfl, hBc, hB⟩ := hv k v l hvk hlk
      have hfl : (ls.take (k + 1)).flatten = (ls.take k).flatten ++ l := by rw [List.take_add_one, hlk]; simp
      have hle : (bys (ls.take k).flatten).length * 1 + 0 + (bys l).length * 1 ≤ 140737488355328 := by
        have h1 : (ls.take (k + 1)).flatten.length ≤ ls.flatten.length := flat_take ls (k + 1)
        rw [hfl, List.length_append] at h1
        simp only [bys_len]; omega
      have HR := Lib.hid (hB.below hb)
      have HF := Lib.hid hfl
      have HO := Lib.hid ho
      have HB := Lib.hid hb
      have HBc := Lib.hid hBc
      have HLE := Lib.hid hle
      clear hr hv hvk hlk hc hB hfl ho hb hBc hle hl
      go_wp2_with (at_builtin; go_must (refine appendN w.heap.size 5 1 1 (.int .u8 0) rfl (.tmp 12) (.tmp 13) 23 rfl Tryz.underlying23 (by kernel_rfl) rfl (by decide) (by decide) u3 (bys (ls.take k).flatten) (bys l) rfl B l.length c rfl (bys_len l).symm HBc.out HR.out (bys_one _) (bys_cell _) HO.out HB.out.size (by have := HLE.out; omega) ?_); intro v1 w1 hown1 hfr1)
      go_roundg (ls.length - (k + 1))
      case measure => omega
      case rel => exact ⟨k + 1, hlt, rfl, by go_num, by rw [HF.out, ← bys_app]; exact hown1, HO.out.fr_below HB.out HB.out.size hfr1⟩
    · obtain rfl : k = ls.length := by omega
      rw [List.take_length] at ho
      have HO := Lib.hid ho
      have HB := Lib.hid hb
      clear ho hb hr hv
      go_wp2
      exact ⟨_, rfl, HO.out, HB.out⟩

end Go.Proofs.YtigffdmpofcdgaaGreatDoor
end

section
namespace Go.Proofs.YtigffdmpofcdgaaGreatDoor
open Go.Proofs.BL Go.Proofs.Peel Go.RowKit
set_option maxRecDepth 100000
set_option linter.unusedVariables false

set_option maxHeartbeats 1000000 in
theorem rnat (n : Nat) (w : World) (hn : n < 2 ^ 64) : Calls Tryz.prog 18 #[.int .u64 n] w (ByAns w (natB n)) := by
  refine via fun Q hQ => ?_
  go_enter Tryz.func18, Tryz.ntmps18
  go_wp2
  go_loopg [0, 3] n (fun g x o wr => x = .int .u64 g ∧ g ≤ n ∧ ∃ low, dig n = dig g ++ low ∧ Own wr w.heap.size 5 1 o (bys low) ∧ Below w.heap.size w wr)
  case atStart => exact ⟨rfl, Nat.le_refl _, [], by simp, Own.nil _ _ _ _, Below.refl _ _⟩
  case round =>
    obtain ⟨rfl, hgn, low, hd, ho, hb⟩ := hrel
    have h8 := dig_len 8 n hn
    rw [hd, List.length_append] at h8
    have HD := Lib.hid hd
    have HO := Lib.hid ho
    have HB := Lib.hid hb
    obtain ⟨B, c, rfl, hBl, hBc, hBr⟩ := ho.slv'
    simp only [bys_len] at hBl ⊢
    have hal : Below wr.heap.size wr (wr.alloc (.cells #[.int .u8 ((gk : Int) % 256)] 5)) := (Below.refl _ _).alloc (Nat.le_refl _) _
    have HBc := Lib.hid hBc
    by_cases h0 : gk = 0
    · subst h0
      have hal2 : Below wr.heap.size wr (wr.alloc (.cells #[.int .u8 (low.length : Int)] 5)) := (Below.refl _ _).alloc (Nat.le_refl _) _
      have HR := Lib.hid (hBr.below hal2)
      have hO2 := Own.lit wr 5 1 1 [[.int .u8 (low.length : Int)]] #[.int .u8 (low.length : Int)] w.heap.size hb.size rfl (by decide) rfl (by simp) rfl
      have HO2 := Lib.hid hO2
      have HB2 := Lib.hid (below_then hb hal2)
      have hsz := HB2.out.size
      clear hd ho hb hBr hBc hal hal2 hO2
      go_wp2_with (at_builtin; go_must (refine appendN w.heap.size 5 1 1 (.int .u8 0) rfl (.tmp 17) (.tmp 18) 23 rfl Tryz.underlying23 (by kernel_rfl) rfl (by decide) (by decide) (.slice (some ⟨wr.heap.size, 0, none⟩) 1 1) [[.int .u8 (low.length : Int)]] (bys low) rfl B low.length c rfl (bys_len _).symm HBc.out HR.out (bys_one _) (bys_cell _) HO2.out HB2.out.size (by simp; omega) ?_); intro v3 w3 hown3 hfr3)
      have hb8 : (low.length : Int) = (UInt8.ofNat low.length).toNat := by simp; omega
      exact ⟨_, rfl, by rw [natB, HD.out, dig_zero, List.nil_append, bys, List.map_cons, enB, ← hb8]; exact hown3, HO2.out.fr_below HB2.out HB2.out.size hfr3⟩
    · have hp : 0 < gk := by omega
      have hO2 := Own.lit wr 5 1 1 [[.int .u8 ((gk : Int) % 256)]] #[.int .u8 ((gk : Int) % 256)] w.heap.size hb.size rfl (by decide) rfl (by simp) rfl
      have HO2 := Lib.hid hO2
      have HR := Lib.hid (hBr.below hal)
      have HB2 := Lib.hid (below_then hb hal)
      clear hd ho hb hBr hBc hal hO2
      go_wp2_with (at_builtin; go_must (refine appendN w.heap.size 5 1 1 (.int .u8 0) rfl (.tmp 9) (.tmp 10) 23 rfl Tryz.underlying23 (by kernel_rfl) rfl (by decide) (by decide) (.slice (some ⟨wr.heap.size, 0, none⟩) 1 1) [[.int .u8 ((gk : Int) % 256)]] (bys low) rfl B low.length c rfl (bys_len _).symm HBc.out HR.out (bys_one _) (bys_cell _) HO2.out HB2.out.size (by simp; omega) ?_); intro v3 w3 hown3 hfr3)
      go_roundg (gk / 256)
      case measure => exact Nat.div_lt_self hp (by decide)
      case rel => exact ⟨by first | go_num | (rw [IntKind.wrap_u64]; congr 1; omega), Nat.le_trans (Nat.div_le_self _ _) hgn, UInt8.ofNat gk :: low, by rw [HD.out, dig_pos h0, List.append_assoc]; rfl, by
          have hb8 : (gk : Int) % 256 = (UInt8.ofNat gk).toNat := by simp
          rw [bys, List.map_cons, enB, ← hb8]
          exact hown3, HO2.out.fr_below HB2.out HB2.out.size hfr3⟩

theorem ryes (b : Bool) (w : World) : Calls Tryz.prog 20 #[.bool b] w (ByAns w (yesB b)) := by
  refine via fun Q hQ => ?_
  cases b
  all_goals
    go_enter Tryz.func20, Tryz.ntmps20
    go_wp2
    exact ⟨_, rfl, Own.lit w 5 1 1 _ _ w.heap.size (Nat.le_refl _) rfl (by decide) rfl (bys_one _) rfl, (Below.refl _ _).alloc (Nat.le_refl _) _⟩


set_option maxHeartbeats 400000 in
theorem rnum (m : Int) (w : World) (h1 : -9223372036854775808 ≤ m) (h2 : m ≤ 9223372036854775807) : Calls Tryz.prog 21 #[.int .i64 m] w (ByAns w (natB (zig m))) := by
  refine via fun Q hQ => ?_
  go_enter Tryz.func21, Tryz.ntmps21
  by_cases h : m < 0
  · have hz : zig m = (2 * (-1 - m) + 1).toNat := by unfold zig; rw [if_pos h]
    go_wp2_with fail
    rw [show (2 * (-1 - m) + 1 : Int) = (zig m : Int) from by rw [hz]; omega]
    refine (rnat (zig m) _ (zig_lt m h1 h2)).mono ?_
    rintro e w1 ⟨v1, rfl, ho, hb⟩
    go_wp2
    exact ⟨_, rfl, ho, hb⟩
  · have hz : zig m = (2 * m).toNat := by unfold zig; rw [if_neg h]
    go_wp2_with fail
    rw [show (2 * m : Int) = (zig m : Int) from by rw [hz]; omega]
    refine (rnat (zig m) _ (zig_lt m h1 h2)).mono ?_
    rintro e w1 ⟨v1, rfl, ho, hb⟩
    go_wp2
    exact ⟨_, rfl, ho, hb⟩

set_option maxHeartbeats 400000 in
theorem rstr (s : ByteArray) (w : World) (hs : s.size ≤ 70000000000) : Calls Tryz.prog 19 #[.string s] w (ByAns w (strB s)) := by
  refine via fun Q hQ => ?_
  go_enter Tryz.func19, Tryz.ntmps19
  go_wp2_with fail
  refine (rnat s.size _ (by omega)).mono ?_
  rintro e w1 ⟨v1, rfl, ho, hb⟩
  have hln : (natB s.size).length + s.size ≤ 140737488355328 := by have := natB_len s.size (by omega); omega
  have hcv := Lib.run_convert_string_bytes (P := Tryz.prog) w1 9 23 5 s Tryz.underlying9 Tryz.underlying23 Tryz.underlying5
  have hbB := bytesWorld_below w1 5 s
  have hrB := bytesWorld_rows w1 5 s
  generalize Lib.bytesWorld w1 5 s = wB at hcv hbB hrB
  generalize grownCap w1 s.size 0 5 = gc at hcv
  have HR := Lib.hid hrB
  have HO := Lib.hid (ho.below hbB)
  have HB := Lib.hid (below_then hb hbB)
  clear hbB hrB ho hb
  go_wp2_with (at_builtin; go_must (refine appendN w.heap.size 5 1 1 (.int .u8 0) rfl (.tmp 8) (.tmp 10) 23 rfl Tryz.underlying23 (by kernel_rfl) rfl (by decide) (by decide) v1 (bys (natB s.size)) (bys (txt s)) rfl (some ⟨w1.heap.size, 0, none⟩) s.size gc rfl (by rw [bys_len, txt_len]) (by simp) HR.out (bys_one _) (bys_cell _) HO.out HB.out.size (by rw [bys_len, bys_len, txt_len]; omega) ?_); intro v2 w2 hown2 hfr2)
  exact ⟨_, rfl, by rw [strB, ← bys_app]; exact hown2, HO.out.fr_below HB.out HB.out.size hfr2⟩

end Go.Proofs.YtigffdmpofcdgaaGreatDoor
end

section
namespace Go.Proofs.YtigffdmpofcdgaaGreatDoor
open Go.Proofs.BL Go.Proofs.Peel Go.RowKit
set_option maxRecDepth 100000
set_option linter.unusedVariables false

/-- A reader at block p: its bytes, its place, what was wrong. -/
def Rd (w : World) (p : Nat) (bs : List UInt8) (at_ : Nat) (c : List Lk) : Prop :=
  ∃ A cp ve, Blk w p #[.slice A bs.length cp, .int .i64 at_, ve] 75 ∧ bs.length ≤ cp ∧ at_ ≤ bs.length ∧ RowsAt w 1 A (bys bs) ∧ (bs ≠ [] → ∀ a, A = some a → a.block < p) ∧ Chn w ve c

theorem lt_ne {A : Option Addr} {bs : List UInt8} {p : Nat} (h : bs ≠ [] → ∀ a, A = some a → a.block < p) : bs ≠ [] → ∀ a, A = some a → a.block ≠ p := fun hn a ha => Nat.ne_of_lt (h hn a ha)
theorem rows_set {w : World} {A : Option Addr} {bs : List UInt8} {p : Nat} (h : RowsAt w 1 A (bys bs)) (hp : bs ≠ [] → ∀ a, A = some a → a.block ≠ p) {w' : World} (hf : Fr (only p) w w') : RowsAt w' 1 A (bys bs) := by
  by_cases hb : bs = []
  · subst hb; exact RowsAt.nil _ _ _
  · exact h.fr hf (fun a ha => hp hb a ha)
theorem chn_set {w w' : World} {p : Nat} {cs : Array Value} (hB : Blk w p cs 75) (hf : Fr (only p) w w') {c : List Lk} {v : Value} (h : Chn w v c) : Chn w' v c :=
  h.fr hf (fun k cs' t f hk hh => by
    cases hk
    unfold Blk at hB
    rw [hB] at hh
    injection hh with hh
    injection hh with _ e
    subst e
    decide)
theorem Rd.below {w w' : World} {p : Nat} {bs : List UInt8} {at_ : Nat} {c : List Lk} (h : Rd w p bs at_ c) (hb : Below w.heap.size w w') : Rd w' p bs at_ c := by
  obtain ⟨A, cp, ve, hB, h1, h2, hr, hp, hc⟩ := h
  exact ⟨A, cp, ve, hB.below hb, h1, h2, hr.below hb, hp, hc.below hb⟩

theorem rbad_nil (w : World) : Calls Tryz.prog 39 #[.pointer none] w (fun e w' => e = .returned (.bool true) ∧ w' = w) := by
  refine via fun Q hQ => ?_
  go_enter Tryz.func39, Tryz.ntmps39
  go_wp2
theorem rbad {p : Nat} {bs : List UInt8} {at_ : Nat} {c : List Lk} (w : World) (h : Rd w p bs at_ c) : Calls Tryz.prog 39 #[.pointer (some ⟨p, 0, none⟩)] w (fun e w' => e = .returned (.bool (decide (c ≠ []))) ∧ w' = w) := by
  obtain ⟨A, cp, ve, hB, _, _, _, _, hc⟩ := h
  have c2 : w.cell? ⟨p, 2, none⟩ = some ve := hB.at_ 2 rfl
  clear hB
  refine via fun Q hQ => ?_
  cases c with
  | nil =>
    obtain rfl : ve = .nilIface := hc
    go_enter Tryz.func39, Tryz.ntmps39
    go_wp2
  | cons x r =>
    obtain ⟨b, u, rfl, _⟩ := hc
    go_enter Tryz.func39, Tryz.ntmps39
    go_wp2

set_option maxHeartbeats 1000000 in
theorem rfail {p : Nat} {bs : List UInt8} {at_ : Nat} {c : List Lk} (w : World) (from_ : Nat) (e : Int) (h : Rd w p bs at_ c) (hfrom : from_ ≤ bs.length) (he : e ≠ 0) :
    Calls Tryz.prog 41 #[.pointer (some ⟨p, 0, none⟩), .int .i64 from_, .int .i64 e] w (fun r w' => r = .returned (.tuple #[]) ∧ Rd w' p bs from_ (if c = [] then [.at_ from_, .num e] else c) ∧ Fr (only p) w w') := by
  obtain ⟨A, cp, ve, hB, h1, h2, hr, hp, hc⟩ := h
  have c0 : w.cell? ⟨p, 0, none⟩ = some (.slice A bs.length cp) := hB.at_ 0 rfl
  have c1 : w.cell? ⟨p, 1, none⟩ = some (.int .i64 at_) := hB.at_ 1 rfl
  have c2 : w.cell? ⟨p, 2, none⟩ = some ve := hB.at_ 2 rfl
  have f1 := hB.free 1
  have HB := Lib.hid hB
  have HR := Lib.hid hr
  have HP := Lib.hid hp
  clear hB hr hp
  refine via fun Q hQ => ?_
  cases c with
  | nil =>
    obtain rfl : ve = .nilIface := hc
    go_enter Tryz.func41, Tryz.ntmps41
    go_wp2_with fail
    refine (fnew e _).mono ?_
    rintro r w1 ⟨v1, rfl, hc1, hb1⟩
    rw [if_neg he] at hc1
    go_wp2_with fail
    refine (fat from_ v1 _ _ hc1).mono ?_
    rintro r w2 ⟨v2, rfl, hc2, hb2⟩
    rw [if_neg (by simp)] at hc2
    have hb02 := below_then hb1 hb2
    have hB2 := HB.out.below hb02
    have f2 := hB2.free 2
    have f21 := hB2.free 1
    have c22 : w2.cell? ⟨p, 2, none⟩ = some .nilIface := hB2.at_ 2 rfl
    have c21 : w2.cell? ⟨p, 1, none⟩ = some (.int .i64 at_) := hB2.at_ 1 rfl
    obtain ⟨b, u, hv2, _⟩ := id hc2
    subst hv2
    have HB2 := Lib.hid hB2
    have HC2 := Lib.hid hc2
    have Hb := Lib.hid hb02
    have HR2 := Lib.hid (HR.out.below hb02)
    clear hc1 hb1 hb2 hc2 hb02 hB2 c0 c1 c2 f1
    go_wp2
    have hfin := (HB2.out.set 2 (.iface (Lk.at_ from_).kind.t1 (.pointer (some ⟨b, 0, none⟩)))).set 1 (.int .i64 from_)
    have hf1 := ((Fr.refl (only p) w2).setCell (p := ⟨p, 2, none⟩) (.inr rfl) (.iface (Lk.at_ from_).kind.t1 (.pointer (some ⟨b, 0, none⟩)))).setCell (p := ⟨p, 1, none⟩) (.inr rfl) (.int .i64 from_)
    refine Great.bodyPost_end0 rfl rfl ?_
    exact hQ _ _ ⟨rfl, ⟨A, cp, _, hfin, h1, hfrom, rows_set HR2.out (lt_ne HP.out) hf1, HP.out, by simpa using chn_set HB2.out hf1 HC2.out⟩, (Fr.of_below (S := only p) Hb.out).trans hf1 (fun _ _ h => h)⟩
  | cons x r =>
    have HC := Lib.hid hc
    obtain ⟨b, u, rfl, _⟩ := hc
    go_enter Tryz.func41, Tryz.ntmps41
    go_wp2
    have hf1 := (Fr.refl (only p) w).setCell (p := ⟨p, 1, none⟩) (.inr rfl) (.int .i64 from_)
    refine Great.bodyPost_end0 rfl rfl ?_
    exact hQ _ _ ⟨rfl, ⟨A, cp, _, HB.out.set 1 (.int .i64 from_), h1, hfrom, rows_set HR.out (lt_ne HP.out) hf1, HP.out, by simpa using chn_set HB.out hf1 HC.out⟩, hf1⟩
end Go.Proofs.YtigffdmpofcdgaaGreatDoor
end

section
namespace Go.Proofs.YtigffdmpofcdgaaGreatDoor
open Go.Proofs.BL Go.Proofs.Peel Go.RowKit
set_option maxRecDepth 100000
set_option linter.unusedVariables false

def RawPost (p : Nat) (bs : List UInt8) (at_ : Nat) (c : List Lk) (n : Nat) (w : World) (e : Ending) (w' : World) : Prop :=
  Fr (only p) w w' ∧
  (n ≤ bs.length - at_ → ∃ A cp, e = .returned (.tuple #[.slice A n cp, .bool true]) ∧ n ≤ cp ∧ RowsAt w' 1 A (bys ((bs.drop at_).take n)) ∧ (n ≠ 0 → ∀ a, A = some a → a.block ≠ p) ∧ Rd w' p bs (at_ + n) c) ∧
  (¬ n ≤ bs.length - at_ → e = .returned (.tuple #[.slice none 0 0, .bool false]) ∧ Rd w' p bs at_ c)


theorem rows_drop {w : World} {A : Option Addr} {bs : List UInt8} {k n cp : Nat} (h : RowsAt w 1 A (bys bs)) (hn : k + n ≤ bs.length) (hc : bs.length ≤ cp) :
    RowsAt w 1 (if cp = k then A else Option.map (fun x => x.add k) A) (bys ((bs.drop k).take n)) := by
  by_cases h0 : n = 0
  · subst h0; rw [List.take_zero]; exact RowsAt.nil _ _ _
  · rw [if_neg (by omega)]
    intro i r hi
    rw [List.getElem?_map, List.getElem?_take] at hi
    split at hi
    · rename_i hin
      rw [List.getElem?_drop, ← List.getElem?_map] at hi
      obtain ⟨b, o, rfl, hc⟩ := h (k + i) r hi
      refine ⟨b, o + k, ?_, fun j u hj => ?_⟩
      · simp only [Option.map_some, Addr.add]
        split <;> simp_all
      · have := hc j u hj
        rwa [show o + (k + i) * 1 + j = o + k + i * 1 + j from by omega] at this
    · simp at hi
theorem block_drop {A : Option Addr} {bs : List UInt8} {p k n cp : Nat} (h : bs ≠ [] → ∀ a, A = some a → a.block ≠ p) (hn : k + n ≤ bs.length) :
    n ≠ 0 → ∀ a, (if cp = k then A else Option.map (fun x => x.add k) A) = some a → a.block ≠ p := by
  intro h0 a ha
  have hne : bs ≠ [] := fun e => by subst e; simp at hn; omega
  split at ha
  · exact h hne a ha
  · obtain ⟨a', ha', rfl⟩ := Option.map_eq_some_iff.1 ha
    have := h hne a' ha'
    unfold Addr.add
    split <;> simp_all

set_option maxHeartbeats 1000000 in
theorem rraw {p : Nat} {bs : List UInt8} {at_ : Nat} {c : List Lk} (w : World) (n : Nat) (hn : n < 18446744073709551616) (hl : bs.length ≤ 1099511627776) (h : Rd w p bs at_ c) :
    Calls Tryz.prog 44 #[.pointer (some ⟨p, 0, none⟩), .int .u64 n] w (RawPost p bs at_ c n w) := by
  have HRD := Lib.hid h
  obtain ⟨A, cp, ve, hB, h1, h2, hr, hp, hc⟩ := h
  have c0 : w.cell? ⟨p, 0, none⟩ = some (.slice A bs.length cp) := hB.at_ 0 rfl
  have c1 : w.cell? ⟨p, 1, none⟩ = some (.int .i64 at_) := hB.at_ 1 rfl
  have f1 := hB.free 1
  have HB := Lib.hid hB
  have HR := Lib.hid hr
  have HP := Lib.hid hp
  have HC := Lib.hid hc
  clear hB hr hp hc
  refine via fun Q hQ => ?_
  go_enter Tryz.func44, Tryz.ntmps44
  go_wp2_with fail
  go_quiet (fail)
  generalize nq = nz
  by_cases hnl : n ≤ bs.length - at_
  · have t0 : ¬ ((bs.length : Int) - at_ < n) := by omega
    have w1 : IntKind.i64.wrap ((at_ : Int) + n) = (at_ : Int) + n := by rw [IntKind.wrap_i64]; omega
    have w2 : (0 : Int) ≤ (at_ : Int) + n := by omega
    have w3 : ((at_ : Int) + n).toNat = at_ + n := by omega
    have w4 : (at_ : Int) ≤ (at_ : Int) + n := by omega
    have w5 : (at_ : Int) + n ≤ (cp : Int) := by omega
    go_wp2_with fail
    go_quiet (fail)
    have hrd := rows_drop (k := at_) (n := n) (cp := cp) HR.out (by omega) h1
    have hbd := block_drop (k := at_) (n := n) (cp := cp) (lt_ne HP.out) (by omega)
    generalize (if cp = at_ then A else Option.map (fun x => x.add at_) A) = A' at hrd hbd ⊢
    have HRD2 := Lib.hid hrd
    have HBD2 := Lib.hid hbd
    clear hrd hbd
    go_wp2
    have hf1 : Fr (only p) w ((w.drewN (nz + nq)).setCell ⟨p, 1, none⟩ (.int .i64 ((at_ : Int) + n))) := ((Fr.refl (only p) w).drewN (nz + nq)).setCell (p := ⟨p, 1, none⟩) (.inr rfl) _
    have hB2 : Blk ((w.drewN (nz + nq)).setCell ⟨p, 1, none⟩ (.int .i64 ((at_ : Int) + n))) p _ 75 := (HB.out.below (drew_below w (nz + nq))).set 1 (.int .i64 ((at_ : Int) + n))
    refine ⟨hf1, fun _ => ⟨_, _, rfl, by omega, ?_, ?_, ⟨A, cp, ve, hB2, h1, by omega, rows_set HR.out (lt_ne HP.out) hf1, HP.out, chn_set HB.out hf1 HC.out⟩⟩, fun h => absurd hnl h⟩
    · by_cases h0 : n = 0
      · subst h0; rw [List.take_zero]; exact RowsAt.nil _ _ _
      · exact RowsAt.fr (S := only p) HRD2.out hf1 (fun a ha => HBD2.out h0 a ha)
    · exact HBD2.out
  · have t0 : ((bs.length : Int) - at_ < n) := by omega
    go_wp2_with fail
    exact ⟨Fr.of_below (drew_below _ _), fun h => absurd h hnl, fun _ => ⟨rfl, HRD.out.below (drew_below _ _)⟩⟩
end Go.Proofs.YtigffdmpofcdgaaGreatDoor
end

section
namespace Go.Proofs.YtigffdmpofcdgaaGreatDoor
open Go.Proofs.BL Go.Proofs.Peel Go.RowKit
set_option maxRecDepth 100000
set_option linter.unusedVariables false

def NatPost (p : Nat) (bs : List UInt8) (at_ : Nat) (c : List Lk) (w : World) (e : Ending) (w' : World) : Prop :=
  Fr (only p) w w' ∧
  (∀ n k, pnat (bs.drop at_) = some (n, k) → e = .returned (.tuple #[.int .u64 n, .bool true]) ∧ Rd w' p bs (at_ + k) c) ∧
  (pnat (bs.drop at_) = none → e = .returned (.tuple #[.int .u64 0, .bool false]) ∧ ∃ at', Rd w' p bs at' c)

set_option maxHeartbeats 2000000 in
theorem rnat_ {p : Nat} {bs : List UInt8} {at_ : Nat} {c : List Lk} (w : World) (hl : bs.length ≤ 1099511627776) (h : Rd w p bs at_ c) :
    Calls Tryz.prog 40 #[.pointer (some ⟨p, 0, none⟩)] w (NatPost p bs at_ c w) := by
  have hat : at_ ≤ bs.length := by obtain ⟨_, _, _, _, _, h2, _⟩ := h; exact h2
  refine via fun Q hQ => ?_
  go_enter Tryz.func40, Tryz.ntmps40
  go_wp2_with fail
  refine (rraw w 1 (by decide) hl h).mono ?_
  rintro e w1 ⟨hf1, hy, hn⟩
  have HF1 := Lib.hid hf1
  cases hd : bs.drop at_ with
  | nil =>
    have hlen : bs.length - at_ = 0 := by have := congrArg List.length hd; simpa using this
    obtain ⟨rfl, hrd⟩ := hn (by clear hy hn; omega)
    have HRD := Lib.hid hrd
    have HD := Lib.hid hd
    clear hy hn hf1 h hrd hd
    go_wp2
    exact ⟨HF1.out, (by rw [HD.out]; intro _ _ h; cases h), fun _ => ⟨rfl, _, HRD.out⟩⟩
  | cons k r =>
    have hlen : bs.length - at_ = r.length + 1 := by have := congrArg List.length hd; simpa using this
    have hdr : bs.drop (at_ + 1) = r := by rw [← List.drop_drop, hd]; rfl
    obtain ⟨A, cp, rfl, hcp, hr, hbl, hrd⟩ := hy (by clear hy hn; omega)
    rw [hd] at hr
    obtain ⟨b, o, rfl, hc⟩ := hr 0 (enB k) rfl
    have c0 : w1.cell? ⟨b, o, none⟩ = some (.int .u8 k.toNat) := hc 0 _ rfl
    have hlt := k.toNat_lt
    have HRD := Lib.hid hrd
    have HD := Lib.hid hd
    have HDR := Lib.hid hdr
    clear hy hn hf1 h hrd hd hr hc hbl hdr
    by_cases h8 : 8 < k.toNat
    · go_wp2
      exact ⟨HF1.out, (by rw [HD.out, pnat, if_pos h8]; intro _ _ h; cases h), fun _ => ⟨rfl, _, HRD.out⟩⟩
    · go_wp2_with fail
      refine (rraw w1 k.toNat (by omega) hl HRD.out).mono ?_
      rintro e w2 ⟨hf2, hy, hn⟩
      have HF2 := Lib.hid (HF1.out.trans hf2 (fun _ _ h => h))
      by_cases hsh : r.length < k.toNat
      · obtain ⟨rfl, hrd⟩ := hn (by clear hy hn; omega)
        have HRD2 := Lib.hid hrd
        clear hy hn hf2 hrd
        go_wp2
        exact ⟨HF2.out, (by rw [HD.out, pnat, if_neg h8, if_pos hsh]; intro _ _ h; cases h), fun _ => ⟨rfl, _, HRD2.out⟩⟩
      · obtain ⟨A2, cp2, rfl, hcp2, hr2, _, hrd2⟩ := hy (by clear hy hn; omega)
        rw [HDR.out] at hr2
        have hpn : pnat (bs.drop at_) = if (r.take k.toNat).head? = some 0 then none else some (val (r.take k.toNat), k.toNat + 1) := by
          rw [HD.out, pnat, if_neg h8, if_neg hsh]
        have hdl : (r.take k.toNat).length = k.toNat := by rw [List.length_take]; omega
        have HRD2 := Lib.hid hrd2
        clear hy hn hf2 hrd2
        generalize r.take k.toNat = dg at hr2 hpn hdl
        generalize hkn : k.toNat = kn at *
        have HK1 := Lib.hid (show at_ + (kn + 1) = at_ + 1 + kn from by omega)
        clear hkn
        cases dg with
        | nil =>
          obtain rfl : kn = 0 := by simpa using hdl.symm
          have HPN := Lib.hid (hpn.trans (if_neg (by simp)))
          have HR2 := Lib.hid hr2
          have HDL := Lib.hid hdl
          clear hr2 hpn hdl
          go_wp2_with fail
          go_loopg [7, 47] 0 (fun g n i wr => g = 0 ∧ i = .int .i64 0 ∧ n = .int .u64 0 ∧ w2 = wr)
          case atStart => exact ⟨rfl, rfl, rfl, rfl⟩
          case round =>
            obtain ⟨rfl, rfl, rfl, rfl⟩ := hrel
            go_wp2
            exact ⟨HF2.out, fun n k h => by rw [HPN.out] at h; injection h with h; injection h with h1 h2; subst h1 h2; exact ⟨rfl, HRD2.out⟩, (by rw [HPN.out]; intro h; cases h)⟩
        | cons x dg' =>
          obtain ⟨b2, o2, rfl, hc2⟩ := hr2 0 (enB x) rfl
          have c2 : w2.cell? ⟨b2, o2, none⟩ = some (.int .u8 x.toNat) := hc2 0 _ rfl
          have hxlt := x.toNat_lt
          have hkn0 : 0 < kn := by rw [List.length_cons] at hdl; omega
          have HR2 := Lib.hid hr2
          have HDL := Lib.hid hdl
          clear hr2 hc2 hdl
          by_cases hx0 : x = 0
          · subst hx0
            have HPN := Lib.hid (hpn.trans (if_pos rfl))
            clear hpn
            go_wp2
            exact ⟨HF2.out, (by rw [HPN.out]; intro _ _ h; cases h), fun _ => ⟨rfl, _, HRD2.out⟩⟩
          · have g0 : ((x.toNat : Int) == 0) = false := int_diff (fun e => hx0 (UInt8.toNat_inj.1 (by simpa using e)))
            have HPN := Lib.hid (hpn.trans (if_neg (by simp [hx0])))
            clear hpn hx0
            generalize (x.toNat : Int) = z at c2 g0
            go_wp2_with fail
            generalize x :: dg' = L at HR2 HDL HPN
            go_loopg [7, 47] kn (fun g n i wr => ∃ j : Nat, j ≤ kn ∧ g = kn - j ∧ i = .int .i64 j ∧ n = .int .u64 (val (L.take j)) ∧ w2 = wr)
            case atStart => exact ⟨0, Nat.zero_le _, rfl, rfl, rfl, rfl⟩
            case round =>
              obtain ⟨j, hj, rfl, rfl, rfl, rfl⟩ := hrel
              by_cases hlt : j < kn
              · obtain ⟨b3, o3, e3, hc3⟩ := HR2.out j (enB ((L)[j]'(by have := HDL.out; omega))) (by rw [List.getElem?_map, List.getElem?_eq_getElem (by have := HDL.out; omega)]; rfl)
                have c3 : w2.cell? ⟨b3, o3 + j, none⟩ = some (.int .u8 ((L)[j]'(by have := HDL.out; omega)).toNat) := by
                  have := hc3 0 _ rfl
                  rwa [Nat.mul_one, Nat.add_zero] at this
                have hst : val ((L).take (j + 1)) = val ((L).take j) * 256 + ((L)[j]'(by have := HDL.out; omega)).toNat := by rw [take_step _ (by have := HDL.out; omega), val_snoc]
                have hvl : val ((L).take j) * 256 < 18446744073709551616 := by
                  have h1 := val_lt ((L).take j)
                  have h2 : ((L).take j).length ≤ 7 := by rw [List.length_take]; omega
                  have h3 : 256 ^ ((L).take j).length ≤ 256 ^ 7 := Nat.pow_le_pow_right (by decide) h2
                  have : val ((L).take j) < 256 ^ 7 := Nat.lt_of_lt_of_le h1 h3
                  omega
                generalize hxe : (L)[j]'(by have := HDL.out; omega) = y at c3 hst
                have hylt := y.toNat_lt
                generalize hve : val ((L).take j) = vv at hst hvl
                have HST := Lib.hid hst
                have hor := or_low vv y.toNat hvl hylt
                have HOR := Lib.hid hor
                injection e3 with e3; injection e3 with e3 e4; subst e3 e4
                clear hc3 hst hor hve hxe
                go_wp2
                go_roundg (kn - (j + 1))
                case measure => omega
                case rel => exact ⟨j + 1, hlt, rfl, by go_num, by rw [HST.out, HOR.out]; congr 1, rfl⟩
              · obtain rfl : j = kn := by omega
                have hall : val ((L).take j) = val (L) := by rw [List.take_of_length_le (by have := HDL.out; omega)]
                generalize val ((L).take j) = vv at hall
                have HALL := Lib.hid hall
                clear hall
                go_wp2
                exact ⟨HF2.out, fun n k h => by rw [HPN.out] at h; injection h with h; injection h with h1 h2; subst h1 h2; rw [← HALL.out, HK1.out]; exact ⟨rfl, HRD2.out⟩, (by rw [HPN.out]; intro h; cases h)⟩

end Go.Proofs.YtigffdmpofcdgaaGreatDoor
end

section
namespace Go.Proofs.YtigffdmpofcdgaaGreatDoor
open Go.Proofs.BL Go.Proofs.Peel Go.RowKit
set_option maxRecDepth 100000
set_option linter.unusedVariables false

def RdAns (p : Nat) (bs : List UInt8) (w : World) (v : Value) (st : Nat × List Lk) (e : Ending) (w' : World) : Prop := e = .returned v ∧ Rd w' p bs st.1 st.2 ∧ Fr (only p) w w'
theorem Rd.at_le {w : World} {p : Nat} {bs : List UInt8} {a : Nat} {c : List Lk} (h : Rd w p bs a c) : a ≤ bs.length := by obtain ⟨_, _, _, _, _, h2, _⟩ := h; exact h2
theorem Rd.c1 {w : World} {p : Nat} {bs : List UInt8} {a : Nat} {c : List Lk} (h : Rd w p bs a c) : w.cell? ⟨p, 1, none⟩ = some (.int .i64 a) := by obtain ⟨_, _, _, h, _⟩ := h; exact h.at_ 1 rfl
theorem Rd.c2 {w : World} {p : Nat} {bs : List UInt8} {a : Nat} {c : List Lk} (h : Rd w p bs a c) : ∃ ve, w.cell? ⟨p, 2, none⟩ = some ve ∧ Chn w ve c := by obtain ⟨_, _, ve, h, _, _, _, _, hc⟩ := h; exact ⟨ve, h.at_ 2 rfl, hc⟩
theorem Rd.c0 {w : World} {p : Nat} {bs : List UInt8} {a : Nat} {c : List Lk} (h : Rd w p bs a c) : ∃ A cp, w.cell? ⟨p, 0, none⟩ = some (.slice A bs.length cp) := by obtain ⟨A, cp, _, h, _⟩ := h; exact ⟨A, cp, h.at_ 0 rfl⟩

def bad6 (a : Nat) : List Lk := [.at_ a, .num 6]
def rdNat (bs : List UInt8) (a : Nat) (c : List Lk) : Nat × Nat × List Lk :=
  if c = [] then (match pnat (bs.drop a) with | some (n, k) => (n, a + k, []) | none => (0, a, bad6 a)) else (0, a, c)

set_option maxHeartbeats 1000000 in
theorem mNat {p : Nat} {bs : List UInt8} {a : Nat} {c : List Lk} (w : World) (hl : bs.length ≤ 1099511627776) (h : Rd w p bs a c) :
    Calls Tryz.prog 23 #[.pointer (some ⟨p, 0, none⟩)] w (RdAns p bs w (.int .u64 (rdNat bs a c).1) (rdNat bs a c).2) := by
  have ha := h.at_le
  have c1 := h.c1
  have HRD := Lib.hid h
  clear h
  by_cases hc : c = []
  · subst hc
    cases hp : pnat (bs.drop a) with
    | some nk =>
      obtain ⟨n, k⟩ := nk
      have E : rdNat bs a [] = (n, a + k, []) := by simp [rdNat, hp]
      have HP := Lib.hid hp
      rw [E]
      clear E hp
      refine via fun Q hQ => ?_
      go_enter Tryz.func23, Tryz.ntmps23
      go_wp2_with fail
      refine (rbad w HRD.out).mono ?_
      rintro e w1 ⟨rfl, rfl⟩
      go_wp2_with fail
      refine (rnat_ _ hl HRD.out).mono ?_
      rintro e w2 ⟨hf, hs, hn⟩
      obtain ⟨rfl, hrd⟩ := hs n k HP.out
      have HR2 := Lib.hid hrd
      have HF := Lib.hid hf
      clear hs hn hrd hf
      go_wp2
      exact ⟨rfl, HR2.out, HF.out⟩
    | none =>
      have E : rdNat bs a [] = (0, a, bad6 a) := by simp [rdNat, hp]
      have HP := Lib.hid hp
      rw [E]
      clear E hp
      refine via fun Q hQ => ?_
      go_enter Tryz.func23, Tryz.ntmps23
      go_wp2_with fail
      refine (rbad w HRD.out).mono ?_
      rintro e w1 ⟨rfl, rfl⟩
      go_wp2_with fail
      refine (rnat_ _ hl HRD.out).mono ?_
      rintro e w2 ⟨hf, hs, hn⟩
      obtain ⟨rfl, at', hrd⟩ := hn HP.out
      have HR2 := Lib.hid hrd
      have HF := Lib.hid hf
      clear hs hn hrd hf
      go_wp2_with fail
      refine (rfail _ a 6 HR2.out ha (by decide)).mono ?_
      rintro e w3 ⟨rfl, hrd3, hf3⟩
      have HR3 := Lib.hid hrd3
      have HF3 := Lib.hid (HF.out.trans hf3 (fun _ _ h => h))
      clear hrd3 hf3
      go_wp2
      exact ⟨rfl, by simpa [bad6] using HR3.out, HF3.out⟩
  · have E : rdNat bs a c = (0, a, c) := by simp [rdNat, hc]
    rw [E]
    have hd : decide (c ≠ []) = true := by simp [hc]
    refine via fun Q hQ => ?_
    go_enter Tryz.func23, Tryz.ntmps23
    go_wp2_with fail
    refine (rbad w HRD.out).mono ?_
    rintro e w1 ⟨rfl, rfl⟩
    rw [hd]
    go_wp2
    exact ⟨rfl, HRD.out, Fr.refl _ _⟩

/-- A number with a sign, from one without. -/
def zag (n : Nat) : Int := if n % 2 = 1 then -1 - (n / 2 : Nat) else (n / 2 : Nat)
theorem zag_bits (n : Nat) (hn : n < 2 ^ 64) : bits BinOp.xor IntKind.i64 ((n : Int) / 2) (wrap64 (-wrap64 (bits BinOp.and IntKind.u64 n 1))) = zag n := by
  rw [and_one _ (by omega) (by omega), show wrap64 (-wrap64 ((n : Int) % 2)) = -((n : Int) % 2) from by unfold wrap64; omega, xor_sign _ _ (by omega) (by omega) (by omega)]
  unfold zag
  split <;> split <;> omega
set_option maxHeartbeats 400000 in
theorem osigned (n : Nat) (w : World) (hn : n < 2 ^ 64) : Calls Tryz.prog 45 #[.int .u64 n] w (fun e w' => e = .returned (.int .i64 (zag n)) ∧ w' = w) := by
  refine via fun Q hQ => ?_
  go_enter Tryz.func45, Tryz.ntmps45
  go_wp2
  exact zag_bits n hn
def rdNum (bs : List UInt8) (a : Nat) (c : List Lk) : Int × Nat × List Lk := (zag (rdNat bs a c).1, (rdNat bs a c).2)
theorem rdNat_lt (bs : List UInt8) (a : Nat) (c : List Lk) : (rdNat bs a c).1 < 2 ^ 64 := by
  unfold rdNat
  split
  · cases hp : pnat (bs.drop a) with
    | some nk => exact (pnat_len (n := nk.1) (k := nk.2) hp).2.2
    | none => exact (by decide : (0 : Nat) < 2 ^ 64)
  · exact (by decide : (0 : Nat) < 2 ^ 64)
theorem mNum {p : Nat} {bs : List UInt8} {a : Nat} {c : List Lk} (w : World) (hl : bs.length ≤ 1099511627776) (h : Rd w p bs a c) :
    Calls Tryz.prog 27 #[.pointer (some ⟨p, 0, none⟩)] w (RdAns p bs w (.int .i64 (rdNum bs a c).1) (rdNum bs a c).2) := by
  have hlt := rdNat_lt bs a c
  have h0 := mNat w hl h
  unfold rdNum
  generalize rdNat bs a c = st at hlt h0 ⊢
  obtain ⟨n, a', c'⟩ := st
  simp only at hlt
  refine via fun Q hQ => ?_
  go_enter Tryz.func27, Tryz.ntmps27
  go_wp2_with fail
  refine h0.mono ?_
  rintro e w1 ⟨rfl, hrd, hf⟩
  have HR := Lib.hid hrd
  have HF := Lib.hid hf
  clear hrd hf h0
  go_wp2_with fail
  refine (osigned n _ hlt).mono ?_
  rintro e w2 ⟨rfl, rfl⟩
  go_wp2
  exact ⟨rfl, HR.out, HF.out⟩
end Go.Proofs.YtigffdmpofcdgaaGreatDoor
end

section
namespace Go.Proofs.YtigffdmpofcdgaaGreatDoor
open Go.Proofs.BL Go.Proofs.Peel Go.RowKit
set_option maxRecDepth 100000
set_option linter.unusedVariables false

abbrev noB : ByteArray := ⟨#[]⟩
def bad7 (a : Nat) : List Lk := [.at_ a, .num 7]
/-- What the next text is; what is wrong with it; where the reader stands. -/
def pstr (bs : List UInt8) (a : Nat) (most : Int) : Option (ByteArray × Nat) × Int :=
  match pnat (bs.drop a) with
  | none => (none, 6)
  | some (n, k) => if (n : Int) > max most 0 then (none, 7) else if n > bs.length - (a + k) then (none, 6) else (some (⟨((bs.drop (a + k)).take n).toArray⟩, a + k + n), 0)
def rdStr (bs : List UInt8) (a : Nat) (c : List Lk) (most : Int) : ByteArray × Nat × List Lk :=
  if c = [] then (match pstr bs a most with | (some (s, a'), _) => (s, a', []) | (none, e) => (noB, a, [.at_ a, .num e])) else (noB, a, c)
def StrPost (p : Nat) (bs : List UInt8) (a : Nat) (most : Int) (c : List Lk) (w : World) (e : Ending) (w' : World) : Prop :=
  Fr (only p) w w' ∧
  (∀ s a' x, pstr bs a most = (some (s, a'), x) → e = .returned (.tuple #[.string s, .int .i64 0]) ∧ Rd w' p bs a' c) ∧
  (∀ x, pstr bs a most = (none, x) → e = .returned (.tuple #[.string noB, .int .i64 x]) ∧ ∃ a', Rd w' p bs a' c)

set_option maxHeartbeats 1000000 in
theorem rstr_ {p : Nat} {bs : List UInt8} {a : Nat} {c : List Lk} (w : World) (most : Int) (hl : bs.length ≤ 1099511627776) (hm1 : -9223372036854775808 ≤ most) (hm2 : most ≤ 9223372036854775807) (h : Rd w p bs a c) :
    Calls Tryz.prog 43 #[.pointer (some ⟨p, 0, none⟩), .int .i64 most] w (StrPost p bs a most c w) := by
  refine via fun Q hQ => ?_
  go_enter Tryz.func43, Tryz.ntmps43
  go_wp2_with fail
  refine (rnat_ _ hl h).mono ?_
  rintro e w1 ⟨hf, hs, hn⟩
  have HF := Lib.hid hf
  cases hp : pnat (bs.drop a) with
  | none =>
    obtain ⟨rfl, at', hrd⟩ := hn hp
    have HR := Lib.hid hrd
    have HP := Lib.hid (show pstr bs a most = (none, 6) by simp only [pstr, hp])
    clear hs hn hrd hf hp h
    go_wp2
    exact ⟨HF.out, (fun s a' x h => by rw [HP.out] at h; cases h), fun x h => by rw [HP.out] at h; injection h with _ h; subst h; exact ⟨rfl, _, HR.out⟩⟩
  | some nk =>
    obtain ⟨n, k⟩ := nk
    obtain ⟨rfl, hrd⟩ := hs n k hp
    have hlt := (pnat_len hp).2.2
    have hmx : 0 ≤ max most 0 ∧ max most 0 ≤ 9223372036854775807 := by omega
    have HR := Lib.hid hrd
    have hpe : pstr bs a most = if (n : Int) > max most 0 then (none, 7) else if n > bs.length - (a + k) then (none, 6) else (some (⟨((bs.drop (a + k)).take n).toArray⟩, a + k + n), 0) := by simp only [pstr, hp]
    have HPE := Lib.hid hpe
    clear hs hn hrd hf hp h hpe
    by_cases hb : (n : Int) > max most 0
    · have HP := Lib.hid (HPE.out.trans (if_pos hb))
      go_wp2
      exact ⟨HF.out, (fun s a' x h => by rw [HP.out] at h; cases h), fun x h => by rw [HP.out] at h; injection h with _ h; subst h; exact ⟨rfl, _, HR.out⟩⟩
    · have HNB := Lib.hid (Int.not_lt.1 hb)
      go_wp2_with fail
      refine (rraw _ n hlt hl HR.out).mono ?_
      rintro e w2 ⟨hf2, hy, hn⟩
      have HF2 := Lib.hid (HF.out.trans hf2 (fun _ _ h => h))
      by_cases hb2 : n > bs.length - (a + k)
      · obtain ⟨rfl, hrd⟩ := hn (by clear hy hn; omega)
        have HR2 := Lib.hid hrd
        have HP := Lib.hid (HPE.out.trans ((if_neg (Int.not_lt.2 HNB.out)).trans (if_pos hb2)))
        clear hy hn hf2 hrd
        go_wp2
        exact ⟨HF2.out, (fun s a' x h => by rw [HP.out] at h; cases h), fun x h => by rw [HP.out] at h; injection h with _ h; subst h; exact ⟨rfl, _, HR2.out⟩⟩
      · obtain ⟨A, cp, rfl, hcp, hr, _, hrd⟩ := hy (by clear hy hn; omega)
        have hle := HR.out.at_le
        have hcv := run_str (P := Tryz.prog) w2 23 9 5 Tryz.underlying23 Tryz.underlying5 Tryz.underlying9 A n cp ((bs.drop (a + k)).take n) (by rw [List.length_take, List.length_drop]; clear hy hn; omega) hr
        have HR2 := Lib.hid hrd
        have HP := Lib.hid (HPE.out.trans ((if_neg (Int.not_lt.2 HNB.out)).trans (if_neg hb2)))
        generalize (⟨((bs.drop (a + k)).take n).toArray⟩ : ByteArray) = sx at hcv HP
        clear hy hn hf2 hrd hr
        go_wp2
        exact ⟨HF2.out, (fun s a' x h => by rw [HP.out] at h; injection h with h1 h2; injection h1 with h1; injection h1 with h1 h3; subst h1 h3; exact ⟨rfl, HR2.out⟩), fun x h => by rw [HP.out] at h; cases h⟩

set_option maxHeartbeats 1000000 in
theorem mStr {p : Nat} {bs : List UInt8} {a : Nat} {c : List Lk} (w : World) (most : Int) (hl : bs.length ≤ 1099511627776) (hm1 : -9223372036854775808 ≤ most) (hm2 : most ≤ 9223372036854775807) (h : Rd w p bs a c) :
    Calls Tryz.prog 25 #[.pointer (some ⟨p, 0, none⟩), .int .i64 most] w (RdAns p bs w (.string (rdStr bs a c most).1) (rdStr bs a c most).2) := by
  have ha := h.at_le
  have c1 := h.c1
  have HRD := Lib.hid h
  clear h
  by_cases hc : c = []
  · subst hc
    cases hp : pstr bs a most with
    | mk o x =>
    have HP := Lib.hid hp
    cases o with
    | some sa =>
      obtain ⟨s, a'⟩ := sa
      have E : rdStr bs a [] most = (s, a', []) := by simp [rdStr, hp]
      rw [E]
      clear E hp
      refine via fun Q hQ => ?_
      go_enter Tryz.func25, Tryz.ntmps25
      go_wp2_with fail
      refine (rbad w HRD.out).mono ?_
      rintro e w1 ⟨rfl, rfl⟩
      go_wp2_with fail
      refine (rstr_ _ most hl hm1 hm2 HRD.out).mono ?_
      rintro e w2 ⟨hf, hs, hn⟩
      obtain ⟨rfl, hrd⟩ := hs s a' x HP.out
      have HR2 := Lib.hid hrd
      have HF := Lib.hid hf
      clear hs hn hrd hf
      go_wp2
      exact ⟨rfl, HR2.out, HF.out⟩
    | none =>
      have E : rdStr bs a [] most = (noB, a, [.at_ a, .num x]) := by simp [rdStr, hp]
      have hx : x ≠ 0 ∧ x = 6 ∨ x = 7 := by
        unfold pstr at hp
        split at hp
        · injection hp with _ hp; subst hp; exact .inl ⟨by decide, rfl⟩
        · split at hp
          · injection hp with _ hp; subst hp; exact .inr rfl
          · split at hp
            · injection hp with _ hp; subst hp; exact .inl ⟨by decide, rfl⟩
            · injection hp with hp; cases hp
      have hx0 : (x == 0) = false := by rcases hx with ⟨_, rfl⟩ | rfl <;> rfl
      have hx1 : x ≠ 0 := by rcases hx with ⟨_, rfl⟩ | rfl <;> decide
      have HX := Lib.hid hx1
      rw [E]
      clear E hp hx hx1
      refine via fun Q hQ => ?_
      go_enter Tryz.func25, Tryz.ntmps25
      go_wp2_with fail
      refine (rbad w HRD.out).mono ?_
      rintro e w1 ⟨rfl, rfl⟩
      go_wp2_with fail
      refine (rstr_ _ most hl hm1 hm2 HRD.out).mono ?_
      rintro e w2 ⟨hf, hs, hn⟩
      obtain ⟨rfl, at', hrd⟩ := hn x HP.out
      have HR2 := Lib.hid hrd
      have HF := Lib.hid hf
      clear hs hn hrd hf
      go_wp2_with fail
      refine (rfail _ a x HR2.out ha HX.out).mono ?_
      rintro e w3 ⟨rfl, hrd3, hf3⟩
      have HR3 := Lib.hid hrd3
      have HF3 := Lib.hid (HF.out.trans hf3 (fun _ _ h => h))
      clear hrd3 hf3
      go_wp2
      exact ⟨rfl, by simpa using HR3.out, HF3.out⟩
  · have E : rdStr bs a c most = (noB, a, c) := by simp [rdStr, hc]
    rw [E]
    have hd : decide (c ≠ []) = true := by simp [hc]
    refine via fun Q hQ => ?_
    go_enter Tryz.func25, Tryz.ntmps25
    go_wp2_with fail
    refine (rbad w HRD.out).mono ?_
    rintro e w1 ⟨rfl, rfl⟩
    rw [hd]
    go_wp2
    exact ⟨rfl, HRD.out, Fr.refl _ _⟩

theorem mErr {p : Nat} {bs : List UInt8} {a : Nat} {c : List Lk} (w : World) (hE : ErrT w) (h : Rd w p bs a c) :
    Calls Tryz.prog 24 #[.pointer (some ⟨p, 0, none⟩)] w (Ans w (.int .i64 (codeOf c))) := by
  obtain ⟨ve, c2, hc⟩ := h.c2
  refine via fun Q hQ => ?_
  go_enter Tryz.func24, Tryz.ntmps24
  go_wp2_with fail
  refine (fcode ve c w hE hc).mono ?_
  rintro e w1 ⟨rfl, hb⟩
  go_wp2
  exact ⟨rfl, hb⟩
/-- The end, asked: what is wrong then. -/
def rdEnd (bs : List UInt8) (a : Nat) (c : List Lk) : List Lk := if c = [] ∧ a < bs.length then bad6 a else c
theorem ErrT.set {w w' : World} {p : Nat} {cs : Array Value} (h : ErrT w) (hB : Blk w p cs 75) (h0 : ∀ u, cs[0]? ≠ some (rty u)) (hf : Fr (only p) w w') : ErrT w' := by
  unfold ErrT at *
  have hne : 0 ≠ p := by
    rintro rfl
    have := hB.cell 0
    rw [h] at this
    exact h0 _ this.symm
  exact (World.cell?_of_block (w := w) (hf.block _ (World.block_lt_of_cell? w _ h) (fun e => hne e))).trans h
theorem Rd.errT {w w' : World} {p : Nat} {bs : List UInt8} {a : Nat} {c : List Lk} (h : Rd w p bs a c) (hE : ErrT w) (hf : Fr (only p) w w') : ErrT w' := by
  obtain ⟨A, cp, ve, hB, _⟩ := h
  exact ErrT.set hE hB (fun u e => by simp [rty] at e) hf
def AnsFr (p : Nat) (bs : List UInt8) (w : World) (v : Value) (a : Nat) (c : List Lk) (e : Ending) (w' : World) : Prop := e = .returned v ∧ Rd w' p bs a c ∧ Fr (only p) w w'

set_option maxHeartbeats 1000000 in
theorem mEnd {p : Nat} {bs : List UInt8} {a : Nat} {c : List Lk} (w : World) (hE : ErrT w) (hl : bs.length ≤ 1099511627776) (h : Rd w p bs a c) :
    Calls Tryz.prog 28 #[.pointer (some ⟨p, 0, none⟩)] w (AnsFr p bs w (.int .i64 (codeOf (rdEnd bs a c))) a (rdEnd bs a c)) := by
  have HE := Lib.hid hE
  clear hE
  obtain ⟨A, cp, c0⟩ := h.c0
  have c1 := h.c1
  have ha := h.at_le
  have HRD := Lib.hid h
  obtain ⟨ve, c2, hc⟩ := h.c2
  clear h
  refine via fun Q hQ => ?_
  cases c with
  | nil =>
    obtain rfl : ve = .nilIface := hc
    by_cases hlt : a < bs.length
    · have E : rdEnd bs a [] = bad6 a := by simp [rdEnd, hlt]
      rw [E] at hQ
      clear E
      go_enter Tryz.func28, Tryz.ntmps28
      go_wp2_with fail
      have t0 : decide ((a : Int) < (bs.length : Int)) = true := by simpa using hlt
      go_quiet (fail)
      go_wp2_with fail
      refine (rfail _ a 6 (HRD.out.below (drew_below w nq)) ha (by decide)).mono ?_
      rintro e w2 ⟨rfl, hrd, hf⟩
      have hrd' : Rd w2 p bs a (bad6 a) := by simpa [bad6] using hrd
      have hf0 : Fr (only p) w w2 := (Fr.of_below (S := only p) (drew_below w nq)).trans hf (fun _ _ h => h)
      have HR := Lib.hid hrd'
      have HF := Lib.hid hf0
      clear hrd hrd' hf hf0
      go_wp2_with fail
      refine (mErr _ (HRD.out.errT HE.out HF.out) HR.out).mono ?_
      rintro e w3 ⟨rfl, hb⟩
      have HR3 := Lib.hid (HR.out.below hb)
      have HF3 := Lib.hid (HF.out.then_below hb)
      clear hb
      go_wp2
      exact ⟨rfl, HR3.out, HF3.out⟩
    · have E : rdEnd bs a [] = [] := by simp [rdEnd, hlt]
      rw [E] at hQ
      clear E
      go_enter Tryz.func28, Tryz.ntmps28
      go_wp2_with fail
      have t0 : decide ((a : Int) < (bs.length : Int)) = false := by simpa using hlt
      go_quiet (fail)
      go_wp2_with fail
      refine (mErr _ (HE.out.below (drew_below w nq)) (HRD.out.below (drew_below w nq))).mono ?_
      rintro e w3 ⟨rfl, hb⟩
      have HR3 := Lib.hid (HRD.out.below (below_then (drew_below w nq) hb))
      have HF3 := Lib.hid (Fr.of_below (S := only p) (below_then (drew_below w nq) hb))
      clear hb
      go_wp2
      exact ⟨rfl, HR3.out, HF3.out⟩
  | cons x r =>
    have E : rdEnd bs a (x :: r) = x :: r := by simp [rdEnd]
    rw [E] at hQ
    clear E
    obtain ⟨b, u, rfl, _⟩ := hc
    go_enter Tryz.func28, Tryz.ntmps28
    go_wp2_with fail
    go_quiet (fail)
    go_wp2_with fail
    refine (mErr _ (HE.out.below (drew_below w nq)) (HRD.out.below (drew_below w nq))).mono ?_
    rintro e w3 ⟨rfl, hb⟩
    have HR3 := Lib.hid (HRD.out.below (below_then (drew_below w nq) hb))
    have HF3 := Lib.hid (Fr.of_below (S := only p) (below_then (drew_below w nq) hb))
    clear hb
    go_wp2
    exact ⟨rfl, HR3.out, HF3.out⟩

theorem oof (A : Option Addr) (cp : Nat) (bs : List UInt8) (w : World) (hcp : bs.length ≤ cp) (hr : RowsAt w 1 A (bys bs)) :
    Calls Tryz.prog 22 #[.slice A bs.length cp] w (fun e w' => e = .returned (.pointer (some ⟨w.heap.size, 0, none⟩)) ∧ Rd w' w.heap.size bs 0 [] ∧ Below w.heap.size w w') := by
  have HR := Lib.hid hr
  clear hr
  refine via fun Q hQ => ?_
  go_enter Tryz.func22, Tryz.ntmps22
  go_wp2
  have hb : Below w.heap.size w (w.alloc (.cells #[.slice A bs.length cp, .int .i64 0, .nilIface] 75)) := (Below.refl _ _).alloc (Nat.le_refl _) _
  refine ⟨rfl, ⟨A, cp, .nilIface, Blk.new _ _ _, hcp, Nat.zero_le _, HR.out.below hb, fun hne a ha => ?_, rfl⟩, hb⟩
  obtain ⟨x, xs, rfl⟩ := List.exists_cons_of_ne_nil hne
  obtain ⟨b, o, e, hc⟩ := HR.out 0 (enB x) rfl
  rw [e] at ha
  injection ha with ha
  subst ha
  exact World.block_lt_of_cell? w _ (hc 0 _ rfl)
end Go.Proofs.YtigffdmpofcdgaaGreatDoor
end

section
namespace Go.Proofs.YtigffdmpofcdgaaGreatDoor
open Go.Proofs.BL Go.Proofs.Peel Go.RowKit
set_option maxRecDepth 100000
set_option linter.unusedVariables false

def rdYes (bs : List UInt8) (a : Nat) (c : List Lk) : Bool × Nat × List Lk :=
  if c = [] then (match bs.drop a with | x :: _ => if 1 < x.toNat then (false, a, bad6 a) else (x.toNat == 1, a + 1, []) | [] => (false, a, bad6 a)) else (false, a, c)

set_option maxHeartbeats 1000000 in
theorem mYes {p : Nat} {bs : List UInt8} {a : Nat} {c : List Lk} (w : World) (hl : bs.length ≤ 1099511627776) (h : Rd w p bs a c) :
    Calls Tryz.prog 26 #[.pointer (some ⟨p, 0, none⟩)] w (RdAns p bs w (.bool (rdYes bs a c).1) (rdYes bs a c).2) := by
  have ha := h.at_le
  have c1 := h.c1
  have HRD := Lib.hid h
  clear h
  by_cases hc : c = []
  · subst hc
    cases hd : bs.drop a with
    | nil =>
      have E : rdYes bs a [] = (false, a, bad6 a) := by simp [rdYes, hd]
      have hlen : ¬ 1 ≤ bs.length - a := by have := congrArg List.length hd; simp at this; omega
      rw [E]
      clear E hd
      refine via fun Q hQ => ?_
      go_enter Tryz.func26, Tryz.ntmps26
      go_wp2_with fail
      refine (rbad w HRD.out).mono ?_
      rintro e w1 ⟨rfl, rfl⟩
      go_wp2_with fail
      refine (rraw _ 1 (by decide) hl HRD.out).mono ?_
      rintro e w2 ⟨hf, hy, hn⟩
      obtain ⟨rfl, hrd⟩ := hn hlen
      have HR2 := Lib.hid hrd
      have HF := Lib.hid hf
      clear hy hn hrd hf
      go_wp2_with fail
      refine (rfail _ a 6 HR2.out ha (by decide)).mono ?_
      rintro e w3 ⟨rfl, hrd3, hf3⟩
      have HR3 := Lib.hid hrd3
      have HF3 := Lib.hid (HF.out.trans hf3 (fun _ _ h => h))
      clear hrd3 hf3
      go_wp2
      exact ⟨rfl, by simpa [bad6] using HR3.out, HF3.out⟩
    | cons x r =>
      have hlen : 1 ≤ bs.length - a := by have := congrArg List.length hd; simp at this; omega
      have hx := x.toNat_lt
      by_cases h1 : 1 < x.toNat
      · have E : rdYes bs a [] = (false, a, bad6 a) := by simp [rdYes, hd, h1]
        have HD := Lib.hid hd
        rw [E]
        clear E hd
        refine via fun Q hQ => ?_
        go_enter Tryz.func26, Tryz.ntmps26
        go_wp2_with fail
        refine (rbad w HRD.out).mono ?_
        rintro e w1 ⟨rfl, rfl⟩
        go_wp2_with fail
        refine (rraw _ 1 (by decide) hl HRD.out).mono ?_
        rintro e w2 ⟨hf, hy, hn⟩
        obtain ⟨A, cp, rfl, hcp, hr, _, hrd⟩ := hy hlen
        rw [HD.out] at hr
        obtain ⟨b, o, rfl, hcc⟩ := hr 0 (enB x) rfl
        have g0 : w2.cell? ⟨b, o, none⟩ = some (.int .u8 x.toNat) := hcc 0 _ rfl
        have HR2 := Lib.hid hrd
        have HF := Lib.hid hf
        clear hy hn hrd hf hr hcc
        go_wp2_with fail
        refine (rfail _ a 6 HR2.out ha (by decide)).mono ?_
        rintro e w3 ⟨rfl, hrd3, hf3⟩
        have HR3 := Lib.hid hrd3
        have HF3 := Lib.hid (HF.out.trans hf3 (fun _ _ h => h))
        clear hrd3 hf3
        go_wp2
        exact ⟨rfl, by simpa [bad6] using HR3.out, HF3.out⟩
      · have E : rdYes bs a [] = (x.toNat == 1, a + 1, []) := by simp [rdYes, hd, h1]
        have HD := Lib.hid hd
        rw [E]
        clear E hd
        refine via fun Q hQ => ?_
        go_enter Tryz.func26, Tryz.ntmps26
        go_wp2_with fail
        refine (rbad w HRD.out).mono ?_
        rintro e w1 ⟨rfl, rfl⟩
        go_wp2_with fail
        refine (rraw _ 1 (by decide) hl HRD.out).mono ?_
        rintro e w2 ⟨hf, hy, hn⟩
        obtain ⟨A, cp, rfl, hcp, hr, _, hrd⟩ := hy hlen
        rw [HD.out] at hr
        obtain ⟨b, o, rfl, hcc⟩ := hr 0 (enB x) rfl
        have g0 : w2.cell? ⟨b, o, none⟩ = some (.int .u8 x.toNat) := hcc 0 _ rfl
        have HR2 := Lib.hid hrd
        have HF := Lib.hid hf
        clear hy hn hrd hf hr hcc
        have hb1 : (((x.toNat : Nat) : Int) == 1) = (x.toNat == 1) := by
          rcases (show x.toNat = 0 ∨ x.toNat = 1 from by omega) with h | h <;> rw [h] <;> rfl
        generalize hbb : (x.toNat == 1) = bb at hb1
        generalize hz : ((x.toNat : Nat) : Int) = z at g0 hb1
        have hz1 : z ≤ 1 := by omega
        have hz0 : 0 ≤ z := by omega
        have HBB := Lib.hid hbb
        clear hz hbb h1 hx
        go_wp2
        exact ⟨by rw [HBB.out]; rfl, HR2.out, HF.out⟩
  · have E : rdYes bs a c = (false, a, c) := by simp [rdYes, hc]
    rw [E]
    have hd : decide (c ≠ []) = true := by simp [hc]
    refine via fun Q hQ => ?_
    go_enter Tryz.func26, Tryz.ntmps26
    go_wp2_with fail
    refine (rbad w HRD.out).mono ?_
    rintro e w1 ⟨rfl, rfl⟩
    rw [hd]
    go_wp2
    exact ⟨rfl, HRD.out, Fr.refl _ _⟩
end Go.Proofs.YtigffdmpofcdgaaGreatDoor
end

section
set_option linter.unusedVariables false
namespace Go.Proofs.BL

theorem val_dig : ∀ n : Nat, val (dig n) = n := by
  intro n
  induction n using Nat.strongRecOn with
  | ind n ih =>
    by_cases h : n = 0
    · subst h; rw [dig_zero]; rfl
    · rw [dig_pos h, val_snoc, ih (n / 256) (Nat.div_lt_self (Nat.pos_of_ne_zero h) (by decide))]
      simp
      omega
theorem dig_ne {n : Nat} (h : n ≠ 0) : dig n ≠ [] := by rw [dig_pos h]; simp
theorem dig_head : ∀ n : Nat, (dig n).head? ≠ some 0 := by
  intro n
  induction n using Nat.strongRecOn with
  | ind n ih =>
    by_cases h : n = 0
    · subst h; rw [dig_zero]; simp
    · rw [dig_pos h]
      by_cases h2 : n / 256 = 0
      · rw [h2, dig_zero]
        intro e
        have e1 : UInt8.ofNat n = 0 := by simpa using e
        have e2 := congrArg UInt8.toNat e1
        simp at e2
        omega
      · have := ih (n / 256) (Nat.div_lt_self (Nat.pos_of_ne_zero h) (by decide))
        obtain ⟨x, r, e⟩ := List.exists_cons_of_ne_nil (dig_ne h2)
        rw [e] at this ⊢
        simpa using this
theorem dig_val : ∀ l : List UInt8, l.head? ≠ some 0 → dig (val l) = l := by
  intro l
  rw [← List.reverse_reverse l]
  generalize l.reverse = k
  induction k with
  | nil => intro _; exact dig_zero
  | cons x k ih =>
    intro h
    rw [List.reverse_cons] at h ⊢
    have hx := x.toNat_lt
    cases hk : k.reverse with
    | nil =>
      rw [hk] at h
      have hx0 : x.toNat ≠ 0 := fun e => h (by rw [show x = 0 from UInt8.toNat_inj.1 (by simpa using e)]; rfl)
      have hv : val ([] ++ [x]) = x.toNat := by rw [val_snoc]; simp [val]
      rw [hv, dig_pos hx0, show x.toNat / 256 = 0 from by omega, dig_zero]
      simp
    | cons y r =>
      rw [hk] at h ih
      have ih' := ih (by simpa using h)
      have hne : val (y :: r) ≠ 0 := fun e => by rw [e, dig_zero] at ih'; cases ih'
      rw [val_snoc, dig_pos (by omega), show (val (y :: r) * 256 + x.toNat) / 256 = val (y :: r) from by omega, ih']
      congr 2
      apply UInt8.toNat_inj.1
      simp
theorem natB_pos (n : Nat) : (natB n).length = (dig n).length + 1 := by simp [natB]
theorem pnat_natB {n : Nat} (h : n < 2 ^ 64) (rest : List UInt8) : pnat (natB n ++ rest) = some (n, (natB n).length) := by
  have h8 := dig_len 8 n h
  have hk : (UInt8.ofNat (dig n).length).toNat = (dig n).length := by simp; omega
  rw [natB, List.cons_append, pnat, hk, if_neg (by omega), if_neg (by simp), List.take_left, if_neg (dig_head n), val_dig]
  simp
theorem pnat_inv {l : List UInt8} {n k : Nat} (h : pnat l = some (n, k)) : l.take k = natB n ∧ k = (natB n).length := by
  cases l with
  | nil => cases h
  | cons x r =>
    simp only [pnat] at h
    split at h
    · cases h
    · split at h
      · cases h
      · split at h
        · cases h
        · rename_i h1 h2 h3
          injection h with h
          injection h with h4 h5
          subst h4 h5
          have hd := dig_val _ h3
          have hl : (r.take x.toNat).length = x.toNat := by rw [List.length_take]; omega
          rw [natB, hd, hl]
          refine ⟨by simp, by simp; omega⟩
theorem pnat_cut {n : Nat} (h : n < 2 ^ 64) (rest : List UInt8) {k : Nat} (hk : k < (natB n).length) : pnat ((natB n ++ rest).take k) = none := by
  have h8 := dig_len 8 n h
  have hkk : (UInt8.ofNat (dig n).length).toNat = (dig n).length := by simp; omega
  rw [natB_pos] at hk
  rw [List.take_append_of_le_length (by rw [natB_pos]; omega)]
  cases k with
  | zero => rfl
  | succ k =>
    rw [natB, List.take_succ_cons, pnat, hkk, if_neg (by omega), if_pos (by rw [List.length_take]; omega)]
end Go.Proofs.BL
end

section
namespace Go.Proofs.YtigffdmpofcdgaaGreatDoor
open Go.Proofs.BL Go.Proofs.Peel Go.RowKit
set_option linter.unusedVariables false

theorem bad6_ne (a : Nat) : bad6 a ≠ [] := by simp [bad6]
theorem rdEnd_nil {bs : List UInt8} {a : Nat} {c : List Lk} (h : rdEnd bs a c = []) : c = [] ∧ bs.length ≤ a := by
  unfold rdEnd at h
  split at h
  · exact absurd h (bad6_ne a)
  · rename_i h1
    subst h
    exact ⟨rfl, Nat.le_of_not_lt (fun h2 => h1 ⟨rfl, h2⟩)⟩
theorem rdNat_inv {bs : List UInt8} {a n a' : Nat} (h : rdNat bs a [] = (n, a', [])) : bs.drop a = natB n ++ bs.drop a' ∧ n < 2 ^ 64 := by
  rw [rdNat, if_pos rfl] at h
  cases hp : pnat (bs.drop a) with
  | none => rw [hp] at h; injection h with _ h; injection h with _ h; exact absurd h (bad6_ne a)
  | some nk =>
    obtain ⟨n1, k⟩ := nk
    rw [hp] at h
    injection h with h1 h2
    injection h2 with h2 _
    subst h1 h2
    obtain ⟨h3, h4⟩ := pnat_inv hp
    refine ⟨?_, (pnat_len hp).2.2⟩
    rw [← h3, ← List.drop_drop, List.take_append_drop]
theorem zig_zag (n : Nat) : zig (zag n) = n := by
  unfold zag zig
  by_cases h : n % 2 = 1
  · rw [if_pos h, if_pos (by omega)]; omega
  · rw [if_neg h, if_neg (by omega)]; omega
theorem rdStr_inv {bs : List UInt8} {a a' : Nat} {s : ByteArray} {most : Int} (h : rdStr bs a [] most = (s, a', [])) : bs.drop a = strB s ++ bs.drop a' := by
  rw [rdStr, if_pos rfl] at h
  cases hp : pstr bs a most with
  | mk o e =>
    rw [hp] at h
    cases o with
    | none => simp at h
    | some sa =>
      obtain ⟨s1, a1⟩ := sa
      simp only [Prod.mk.injEq, and_true] at h
      obtain ⟨rfl, rfl⟩ := h
      rw [pstr] at hp
      cases hq : pnat (bs.drop a) with
      | none => rw [hq] at hp; simp at hp
      | some nk =>
        obtain ⟨n, k⟩ := nk
        rw [hq] at hp
        simp only at hp
        split at hp
        · simp at hp
        · split at hp
          · simp at hp
          · rename_i h1 h2
            simp only [Prod.mk.injEq, Option.some.injEq] at hp
            obtain ⟨⟨rfl, rfl⟩, _⟩ := hp
            obtain ⟨h3, h4⟩ := pnat_inv hq
            have hlen : ((bs.drop (a + k)).take n).length = n := by rw [List.length_take, List.length_drop]; omega
            have hs : (⟨((bs.drop (a + k)).take n).toArray⟩ : ByteArray).size = n := hlen
            have ht : txt (⟨((bs.drop (a + k)).take n).toArray⟩ : ByteArray) = (bs.drop (a + k)).take n := rfl
            rw [strB, hs, ht, ← h3, List.append_assoc, show a + k + n = (a + k) + n from rfl, ← List.drop_drop (i := n) (j := a + k), List.take_append_drop, ← List.drop_drop, List.take_append_drop]
def Tells (c : List Lk) : Prop := c = [] ∨ codeOf c ≠ 0
theorem tells_nil {c : List Lk} (h : Tells c) (h0 : codeOf c = 0) : c = [] := h.resolve_right (fun h1 => h1 h0)
theorem tells_bad6 (a : Nat) : Tells (bad6 a) := .inr (show (6 : Int) ≠ 0 by decide)
theorem tells_bad7 (a : Nat) : Tells (bad7 a) := .inr (show (7 : Int) ≠ 0 by decide)
theorem tells_end {bs : List UInt8} {a : Nat} {c : List Lk} (h : Tells c) : Tells (rdEnd bs a c) := by
  unfold rdEnd
  split
  · exact tells_bad6 a
  · exact h
theorem tells_nat (bs : List UInt8) (a : Nat) {c : List Lk} (h : Tells c) : Tells (rdNat bs a c).2.2 := by
  unfold rdNat
  split
  · split
    · exact .inl rfl
    · exact tells_bad6 a
  · exact h
theorem tells_num (bs : List UInt8) (a : Nat) {c : List Lk} (h : Tells c) : Tells (rdNum bs a c).2.2 := tells_nat bs a h
theorem pstr_num {bs : List UInt8} {a : Nat} {most : Int} {e : Int} (h : pstr bs a most = (none, e)) : e ≠ 0 := by
  unfold pstr at h
  split at h
  · injection h with _ h; omega
  · split at h
    · injection h with _ h; omega
    · split at h
      · injection h with _ h; omega
      · injection h with h _; cases h
theorem tells_str (bs : List UInt8) (a : Nat) (most : Int) {c : List Lk} (h : Tells c) : Tells (rdStr bs a c most).2.2 := by
  unfold rdStr
  split
  · split
    · exact .inl rfl
    · rename_i e hp
      exact .inr (show e ≠ 0 from pstr_num hp)
  · exact h
end Go.Proofs.YtigffdmpofcdgaaGreatDoor
end

section
set_option linter.unusedVariables false
namespace Go.Proofs.YtigffdmpofcdgaaGreatDoor
open Go.Proofs.BL Go.Proofs.Peel Go.RowKit
theorem stepN {P : Program} {ops : Array Oper} {o : Oper} {a : Act} {W : World} {K : Act → World → Prop} {Q : Exit → Act → World → Prop} {F : Prop} (base : Nat) (E : TypeId) (sz bytes : Nat) (z : Value) (hgd : o.guard = none) (s x : Operand) (t : TypeId)
    (ho : o.op = .call { callee := .builtin .append, args := #[s, x], argTypes := #[t, t] })
    (ht : P.underlying t = some (.slice E)) (hinfo : (P.info? E).map (fun i => (i.zero, i.size, i.bytes)) = some (some z, sz, bytes)) (hz : z.cells.size = sz) (hs0 : 0 < sz) (hb0 : 0 < bytes)
    (v : Value) (rows ys : List (List Value)) (hs : a.eval s = v) (g n c : Nat) (hx : a.eval x = .slice (some ⟨g, 0, none⟩) n c) (hn : n = ys.length) (hn0 : 0 < n) (HR : RowsAt W sz (some ⟨g, 0, none⟩) ys)
    (hys : ∀ r, r ∈ ys → r.length = sz) (h1 : ∀ r, r ∈ ys → ∀ u ∈ r, u.oneCell' = true)
    (HO : Own W base E sz v rows) (hbase : base ≤ W.heap.size) (hl : (rows.length + ys.length) * bytes ≤ 140737488355328)
    (h : ∀ v1 w1, Own w1 base E sz v1 (rows ++ ys) → Fr (fun k => v.ownBlock = some k) W w1 → K (a.put o.dst v1) w1) :
    if Region.wanted o (yielded ops a.tmps) = true then Oper.wp P o a W K Q else F := by
  obtain ⟨i0, hi, hzz⟩ := Option.map_eq_some_iff.1 hinfo
  simp only [Prod.mk.injEq] at hzz
  obtain ⟨hz0, hz1, hz2⟩ := hzz
  subst hn
  have hlen : rows.length + ys.length ≤ 140737488355328 := Nat.le_trans (Nat.le_mul_of_pos_right _ hb0) hl
  have hfl : ys.flatten.length = ys.length * sz := by
    clear HR h hl hlen hx hn0
    induction ys with
    | nil => simp
    | cons y ys ih => rw [List.flatten_cons, List.length_append, hys y (by simp), ih (fun r hr => hys r (by simp [hr])) (fun r hr => h1 r (by simp [hr])), List.length_cons, Nat.succ_mul]; omega
  have hnews : ∀ j u, ys.flatten[j]? = some u → W.cell? ((⟨g, 0, none⟩ : Addr).add j) = some u := fun j u hj => by
    have := HR.flat g 0 _ hys j u hj
    rwa [show (⟨g, 0, none⟩ : Addr).add j = ⟨g, 0 + j, none⟩ from by unfold Addr.add; split <;> simp_all]
  refine step_append_lies W hgd s x t ho base E i0 z sz bytes ht hi hz0 hz1 hz2 hz hs0 v rows.length rows.flatten hs HO.1 ⟨g, 0, none⟩ ys.length c ys.flatten hx hfl hnews
    (fun u hu => by obtain ⟨r, hr, hur⟩ := List.mem_flatten.1 hu; exact h1 r hr u hur) hn0 (by simp only [maxLen]; omega) hl hbase W.heap.size rfl ?_
  intro g' cap w1 hown hg hloc _
  refine h _ w1 ⟨by simpa using hown, fun r hr => ?_⟩ ⟨hg.os, hg.tape, hg.output, hg.size, fun k hk hn => hg.block k hk (fun e => hn e.symm)⟩
  rcases List.mem_append.1 hr with hr | hr
  · exact HO.2 r hr
  · exact hys r hr
/-- A row that is not empty, of one's own: its address. -/
theorem own_bys {w : World} {base : Nat} {E : TypeId} {v : Value} {l : List UInt8} (h : Own w base E 1 v (bys l)) (hn : l ≠ []) : ∃ g c, v = .slice (some ⟨g, 0, none⟩) l.length c ∧ l.length ≤ c ∧ RowsAt w 1 (some ⟨g, 0, none⟩) (bys l) := by
  obtain ⟨g, c, e, h1, _⟩ := own_some h (fun e => hn (List.map_eq_nil_iff.1 e))
  obtain ⟨A, c', e', _, _, hr⟩ := h.slv'
  rw [e] at e'
  injection e' with e1 _ _
  subst e1
  rw [bys_len] at e h1
  exact ⟨g, c, e, h1, hr⟩
theorem natB_ne (n : Nat) : natB n ≠ [] := by simp [natB]
theorem seq2_flat (a b : List UInt8) : [a, b].flatten = a ++ b := by simp
/-- octet.Seq of two. -/
theorem seq2 (w : World) (v1 v2 : Value) (a b : List UInt8) (B1 B2 : Nat) (h1 : Own w B1 5 1 v1 (bys a)) (h2 : Own w B2 5 1 v2 (bys b)) (hl : a.length + b.length ≤ 100000000) :
    Calls Tryz.prog 14 #[.slice (some ⟨w.heap.size, 0, none⟩) 2 2] (w.alloc (.cells #[v1, v2] 23)) (ByAns (w.alloc (.cells #[v1, v2] 23)) [a, b].flatten) := by
  have hal := (Below.refl w.heap.size w).alloc (Nat.le_refl _) (.cells #[v1, v2] 23)
  refine oseq (some ⟨w.heap.size, 0, none⟩) 2 [a, b] [v1, v2] _ rfl (Nat.le_refl _) (fun i r hi => ⟨w.heap.size, 0, rfl, fun j u hj => ?_⟩) (fun k v l hv hl => ?_) (by rw [seq2_flat, List.length_append]; omega) (by show 2 ≤ 1000000; decide)
  · have hb := Blk.new w #[v1, v2] 23
    match i, hi with
    | 0, hi => injection hi with hi; subst hi; match j, hj with | 0, hj => injection hj with hj; subst hj; exact hb.at_ 0 rfl
    | 1, hi => injection hi with hi; subst hi; match j, hj with | 0, hj => injection hj with hj; subst hj; exact hb.at_ 1 rfl
  · match k, hv, hl with
    | 0, hv, hl =>
      injection hv with hv
      injection hl with hl
      subst hv hl
      obtain ⟨A, c, e, _, hc, hr⟩ := (h1.below hal).slv'
      exact ⟨A, c, by rw [e, bys_len], hc, hr⟩
    | 1, hv, hl =>
      injection hv with hv
      injection hl with hl
      subst hv hl
      obtain ⟨A, c, e, _, hc, hr⟩ := (h2.below hal).slv'
      exact ⟨A, c, by rw [e, bys_len], hc, hr⟩
end Go.Proofs.YtigffdmpofcdgaaGreatDoor
end
