/- Words: what bit operations yield. -/
import Derived.Laws.Entries
import Derived.WalkKit
set_option linter.unusedVariables false
namespace Go.Proofs.BL
theorem ofInt_nat (x : Int) (h0 : 0 ≤ x) (h1 : x < 18446744073709551616) : ((BitVec.ofInt 64 x).toNat : Int) = x := by
  rw [BitVec.toNat_ofInt]
  omega
theorem u64_of (n : Nat) (h : n < 18446744073709551616) : IntKind.u64.wrap (n : Int) = n := by
  show (n : Int) % 18446744073709551616 = n
  omega
theorem xor_zero (x : Int) (h0 : 0 ≤ x) (h1 : x < 18446744073709551616) : bits .xor .u64 x 0 = x := by
  show IntKind.u64.wrap ((BitVec.ofInt 64 x ^^^ BitVec.ofInt 64 0).toNat : Int) = x
  rw [show BitVec.ofInt 64 0 = 0#64 from rfl, BitVec.xor_zero, ofInt_nat x h0 h1]
  show x % 18446744073709551616 = x
  omega
theorem xor_ones (x : Int) (h0 : 0 ≤ x) (h1 : x < 18446744073709551616) : bits .xor .u64 x 18446744073709551615 = 18446744073709551615 - x := by
  show IntKind.u64.wrap ((BitVec.ofInt 64 x ^^^ BitVec.ofInt 64 18446744073709551615).toNat : Int) = _
  rw [show BitVec.ofInt 64 18446744073709551615 = BitVec.allOnes 64 from rfl, BitVec.xor_allOnes, BitVec.toNat_not]
  have := ofInt_nat x h0 h1
  have hlt := (BitVec.ofInt 64 x).isLt
  show (((2 ^ 64 - 1 - (BitVec.ofInt 64 x).toNat : Nat)) : Int) % 18446744073709551616 = _
  omega
theorem xor_sign (x y : Int) (h0 : 0 ≤ x) (h1 : x < 9223372036854775808) (hy : y = 0 ∨ y = -1) : bits .xor .i64 x y = if y = 0 then x else -1 - x := by
  rcases hy with rfl | rfl
  · show IntKind.i64.wrap ((BitVec.ofInt 64 x ^^^ BitVec.ofInt 64 0).toNat : Int) = _
    rw [show BitVec.ofInt 64 0 = 0#64 from rfl, BitVec.xor_zero, ofInt_nat x h0 (by omega), IntKind.wrap_i64, if_pos rfl]
    omega
  · show IntKind.i64.wrap ((BitVec.ofInt 64 x ^^^ BitVec.ofInt 64 (-1)).toNat : Int) = _
    rw [show BitVec.ofInt 64 (-1) = BitVec.allOnes 64 from rfl, BitVec.xor_allOnes, BitVec.toNat_not, IntKind.wrap_i64, if_neg (by decide)]
    have := ofInt_nat x h0 (by omega)
    have hlt := (BitVec.ofInt 64 x).isLt
    omega
theorem and_one (x : Int) (h0 : 0 ≤ x) (h1 : x < 18446744073709551616) : bits .and .u64 x 1 = x % 2 := by
  show IntKind.u64.wrap ((BitVec.ofInt 64 x &&& BitVec.ofInt 64 1).toNat : Int) = _
  rw [BitVec.toNat_and, show (BitVec.ofInt 64 1).toNat = 1 from rfl, Nat.and_one_is_mod]
  have := ofInt_nat x h0 h1
  show (((BitVec.ofInt 64 x).toNat % 2 : Nat) : Int) % 18446744073709551616 = _
  omega
theorem or_low (x y : Nat) (h : x * 256 < 18446744073709551616) (hy : y < 256) : bits .or .u64 ((x : Int) * 256) y = x * 256 + y := by
  show IntKind.u64.wrap ((BitVec.ofInt 64 ((x : Int) * 256) ||| BitVec.ofInt 64 (y : Int)).toNat : Int) = _
  have hx := ofInt_nat ((x : Int) * 256) (by omega) (by omega)
  have hx' : (BitVec.ofInt 64 ((x : Int) * 256)).toNat = x * 256 := by omega
  have hy' : (BitVec.ofInt 64 (y : Int)).toNat = y := by have := ofInt_nat (y : Int) (by omega) (by omega); omega
  rw [BitVec.toNat_or, hx', hy', show x * 256 = x <<< 8 from by rw [Nat.shiftLeft_eq], ← Nat.shiftLeft_add_eq_or_of_lt (by omega), Nat.shiftLeft_eq]
  show (((x * 2 ^ 8 + y : Nat)) : Int) % 18446744073709551616 = _
  omega
end Go.Proofs.BL
