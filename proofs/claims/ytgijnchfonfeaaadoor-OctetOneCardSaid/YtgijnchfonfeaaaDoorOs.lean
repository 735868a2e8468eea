/- What was put into bytes is read as it was: the plain law of the reader. -/
import Derived.Test.YtgijnchfonfeaaaDoorOr
import Derived.Test.YtgijnchfonfeaaaDoorOn
namespace Go.Proofs.YtgijnchfonfeaaaDoor
open Go.Proofs.BL Go.Proofs.Peel Go.RowKit
set_option linter.unusedVariables false

theorem drop_step {bs x rest : List UInt8} {a : Nat} (h : bs.drop a = x ++ rest) : bs.drop (a + x.length) = rest := by
  rw [← List.drop_drop, h, List.drop_left]
theorem drop_len {bs x rest : List UInt8} {a : Nat} (h : bs.drop a = x ++ rest) (hx : 0 < x.length) : a + x.length ≤ bs.length := by
  have := congrArg List.length h
  rw [List.length_drop, List.length_append] at this
  omega
theorem rdNat_at {bs rest : List UInt8} {a n : Nat} (h : bs.drop a = natB n ++ rest) (hn : n < 2 ^ 64) : rdNat bs a [] = (n, a + (natB n).length, []) := by
  rw [rdNat, if_pos rfl, h, pnat_natB hn]
theorem zag_zig {m : Int} (h1 : -9223372036854775808 ≤ m) (h2 : m ≤ 9223372036854775807) : zag (zig m) = m := by
  unfold zag zig
  by_cases h : m < 0
  · rw [if_pos h, if_pos (by omega)]; omega
  · rw [if_neg h, if_neg (by omega)]; omega
theorem rdNum_at {bs rest : List UInt8} {a : Nat} {m : Int} (h : bs.drop a = natB (zig m) ++ rest) (h1 : -9223372036854775808 ≤ m) (h2 : m ≤ 9223372036854775807) : rdNum bs a [] = (m, a + (natB (zig m)).length, []) := by
  rw [rdNum, rdNat_at h (zig_lt m h1 h2), zag_zig h1 h2]
theorem txt_len (s : ByteArray) : (txt s).length = s.size := rfl
theorem rdStr_at {bs rest : List UInt8} {a : Nat} {s : ByteArray} {most : Int} (h : bs.drop a = strB s ++ rest) (hs : s.size < 2 ^ 64) (hm : (s.size : Int) ≤ max most 0) : rdStr bs a [] most = (s, a + (strB s).length, []) := by
  have h1 : bs.drop a = natB s.size ++ (txt s ++ rest) := by rw [h, strB, List.append_assoc]
  have h2 := drop_step h1
  have h3 := drop_len h1 (by rw [natB_pos]; omega)
  have h4 : s.size ≤ bs.length - (a + (natB s.size).length) := by
    have := congrArg List.length h2
    rw [List.length_drop, List.length_append, txt_len] at this
    omega
  have hp : pstr bs a most = (some (s, a + (natB s.size).length + s.size), 0) := by
    rw [pstr, h1, pnat_natB hs]
    simp only
    rw [if_neg (by omega), if_neg (by omega), h2, ← txt_len s, List.take_left]
    rfl
  rw [rdStr, if_pos rfl, hp]
  simp only [strB, List.length_append, txt_len, Nat.add_assoc]
theorem rdYes_at {bs rest : List UInt8} {a : Nat} {b : Bool} (h : bs.drop a = yesB b ++ rest) : rdYes bs a [] = (b, a + 1, []) := by
  rw [rdYes, if_pos rfl, h]
  cases b <;> rfl
theorem rdMany_at {bs : List UInt8} {most : Int} : ∀ (l : List ByteArray) (acc : List ByteArray) (a : Nat) (rest : List UInt8), bs.drop a = (l.map strB).flatten ++ rest → (∀ s ∈ l, s.size < 2 ^ 64 ∧ (s.size : Int) ≤ max most 0) →
    rdMany bs most l.length a [] acc = (acc ++ l, a + (l.map strB).flatten.length, [])
  | [], acc, a, rest, _, _ => by simp [rdMany]
  | s :: l, acc, a, rest, h, hs => by
    have h1 : bs.drop a = strB s ++ ((l.map strB).flatten ++ rest) := by rw [h, List.map_cons, List.flatten_cons, List.append_assoc]
    have hss := hs s (by simp)
    rw [List.length_cons, rdMany, if_pos rfl, rdStr_at h1 hss.1 hss.2]
    simp only
    rw [rdMany_at l (acc ++ [s]) _ rest (drop_step h1) (fun x hx => hs x (by simp [hx]))]
    simp [Nat.add_assoc]
theorem rdStrs_at {bs rest : List UInt8} {a : Nat} {l : List ByteArray} {many most : Int} (h : bs.drop a = strsB l ++ rest) (hl : l.length < 2 ^ 64) (hm : (l.length : Int) ≤ max many 0) (hs : ∀ s ∈ l, s.size < 2 ^ 64 ∧ (s.size : Int) ≤ max most 0) :
    rdStrs bs a [] many most = (l, a + (strsB l).length, []) := by
  have h1 : bs.drop a = natB l.length ++ ((l.map strB).flatten ++ rest) := by rw [h, strsB, List.append_assoc]
  have h2 := rdMany_at (most := most) l [] _ rest (drop_step h1) hs
  rw [rdStrs, if_pos rfl, rdNat_at h1 hl]
  simp only
  rw [if_neg (by omega), h2, if_pos rfl]
  simp [strsB, Nat.add_assoc]
/-- The whole of it, read from the beginning on. -/
theorem back_all (n : Nat) (m : Int) (s : ByteArray) (b : Bool) (l : List ByteArray) (hn : n < 2 ^ 64) (h1 : -9223372036854775808 ≤ m) (h2 : m ≤ 9223372036854775807) (hs : s.size ≤ 300) (hl : l.length ≤ 20) (hls : ∀ x ∈ l, x.size ≤ 300)
    (bs : List UInt8) (hbs : bs = natB n ++ natB (zig m) ++ strB s ++ yesB b ++ strsB l) :
    ∃ a1 a2 a3 a4 : Nat, rdNat bs 0 [] = (n, a1, []) ∧ rdNum bs a1 [] = (m, a2, []) ∧ rdStr bs a2 [] s.size = (s, a3, []) ∧ rdYes bs a3 [] = (b, a4, []) ∧ rdStrs bs a4 [] 20 300 = (l, bs.length, []) := by
  have e0 : bs.drop 0 = natB n ++ (natB (zig m) ++ (strB s ++ (yesB b ++ (strsB l ++ [])))) := by rw [hbs]; simp
  have e1 := drop_step e0
  have e2 := drop_step e1
  have e3 := drop_step e2
  have e4 := drop_step e3
  refine ⟨_, _, _, _, rdNat_at e0 hn, rdNum_at e1 h1 h2, rdStr_at e2 (by omega) (by omega), rdYes_at e3, ?_⟩
  have e4' : bs.drop (0 + (natB n).length + (natB (zig m)).length + (strB s).length + 1) = strsB l ++ [] := e4
  rw [rdStrs_at e4' (by omega) (by omega) (fun x hx => ⟨by have := hls x hx; omega, by have := hls x hx; omega⟩)]
  rw [hbs]
  simp [yesB, Nat.add_assoc]
  omega
end Go.Proofs.YtgijnchfonfeaaaDoor
