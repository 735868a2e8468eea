/- Chapter 2's plain words: numbers and texts as bytes. -/
import Derived.Test.YtgijnchfonfeaaaDoorSb
set_option linter.unusedVariables false
namespace Go.Proofs.BL

/-- A number's bytes, the great ones first, none ahead that is 0. -/
def dig (n : Nat) : List UInt8 := if h : n = 0 then [] else dig (n / 256) ++ [UInt8.ofNat n]
termination_by n
decreasing_by exact Nat.div_lt_self (Nat.pos_of_ne_zero h) (by decide)
theorem dig_zero : dig 0 = [] := by unfold dig; rfl
theorem dig_pos {n : Nat} (h : n ≠ 0) : dig n = dig (n / 256) ++ [UInt8.ofNat n] := by rw [dig]; rw [dif_neg h]
theorem dig_len : ∀ (m n : Nat), n < 256 ^ m → (dig n).length ≤ m
  | 0, n, h => by
    obtain rfl : n = 0 := by simpa using h
    rw [dig_zero]; exact Nat.le_refl _
  | m + 1, n, h => by
    by_cases h0 : n = 0
    · subst h0; rw [dig_zero]; exact Nat.zero_le _
    · rw [dig_pos h0, List.length_append]
      have := dig_len m (n / 256) (by rw [Nat.pow_succ] at h; exact Nat.div_lt_of_lt_mul (by rwa [Nat.mul_comm]))
      simpa using this
/-- A number. -/
def natB (n : Nat) : List UInt8 := UInt8.ofNat (dig n).length :: dig n
/-- A text. -/
def strB (s : ByteArray) : List UInt8 := natB s.size ++ txt s
/-- A number with a sign. -/
def zig (m : Int) : Nat := if m < 0 then (2 * (-1 - m) + 1).toNat else (2 * m).toNat
def yesB (b : Bool) : List UInt8 := [if b then 1 else 0]
def strsB (l : List ByteArray) : List UInt8 := natB l.length ++ (l.map strB).flatten
theorem natB_len (n : Nat) (h : n < 2 ^ 64) : (natB n).length ≤ 9 := by
  have := dig_len 8 n h
  simp [natB]; omega
theorem strB_len (s : ByteArray) (h : s.size < 2 ^ 64) : (strB s).length ≤ 9 + s.size := by
  have := natB_len s.size h
  simp only [strB, List.length_append, txt_len]; omega
/-- A list's bytes, up to a text. -/
def strsUp (l : List ByteArray) (k : Nat) : List UInt8 := natB l.length ++ ((l.take k).map strB).flatten
theorem strsUp_all (l : List ByteArray) : strsUp l l.length = strsB l := by rw [strsUp, List.take_length]; rfl
theorem flat_take (ls : List (List UInt8)) (k : Nat) : (ls.take k).flatten.length ≤ ls.flatten.length := by
  have h : ls.flatten = (ls.take k).flatten ++ (ls.drop k).flatten := by rw [← List.flatten_append, List.take_append_drop]
  rw [h, List.length_append]
  omega
theorem take_step {α : Type} (l : List α) {k : Nat} (h : k < l.length) : l.take (k + 1) = l.take k ++ [l[k]] := by
  rw [List.take_add_one, List.getElem?_eq_getElem h]
  rfl
theorem strsUp_step (l : List ByteArray) {k : Nat} (h : k < l.length) : strsUp l (k + 1) = strsUp l k ++ strB l[k] := by
  rw [strsUp, strsUp, List.append_assoc, take_step l h, List.map_append, List.flatten_append]
  simp only [List.map_cons, List.map_nil, List.flatten_cons, List.flatten_nil, List.append_nil]
theorem strsUp_len (l : List ByteArray) (k : Nat) : (strsUp l k).length ≤ (strsB l).length := by
  have := flat_take (l.map strB) k
  rw [← List.map_take] at this
  simp only [strsUp, strsB, List.length_append]
  omega
/-- What bytes are worth as a number. -/
def val (l : List UInt8) : Nat := l.foldl (fun n x => n * 256 + x.toNat) 0
theorem val_snoc (l : List UInt8) (x : UInt8) : val (l ++ [x]) = val l * 256 + x.toNat := by simp [val]
theorem val_lt (l : List UInt8) : val l < 256 ^ l.length := by
  rw [← List.reverse_reverse l]
  generalize l.reverse = k
  induction k with
  | nil => decide
  | cons x k ih =>
    rw [List.reverse_cons, val_snoc, List.length_append, List.length_singleton, Nat.pow_succ]
    have := x.toNat_lt
    omega
/-- The number that stands at the head, and how many bytes it takes. -/
def pnat : List UInt8 → Option (Nat × Nat)
  | [] => none
  | k :: r => if 8 < k.toNat then none else if r.length < k.toNat then none else if (r.take k.toNat).head? = some 0 then none else some (val (r.take k.toNat), k.toNat + 1)
theorem pnat_len {l : List UInt8} {n k : Nat} (h : pnat l = some (n, k)) : k ≤ l.length ∧ 0 < k ∧ n < 2 ^ 64 := by
  cases l with
  | nil => cases h
  | cons x r =>
    simp only [pnat] at h
    split at h
    · cases h
    · split at h
      · cases h
      · split at h
        · cases h
        · injection h with h
          injection h with h1 h2
          subst h1 h2
          refine ⟨by simp; omega, by omega, Nat.lt_of_lt_of_le (val_lt _) ?_⟩
          have : (r.take x.toNat).length ≤ 8 := by rw [List.length_take]; omega
          exact Nat.le_trans (Nat.pow_le_pow_right (by decide) this) (by decide)
end Go.Proofs.BL
