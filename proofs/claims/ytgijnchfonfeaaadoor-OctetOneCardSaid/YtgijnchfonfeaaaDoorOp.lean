/- Chapter 2's laws, walked: OctetCuts. -/
import Derived.Test.YtgijnchfonfeaaaDoorOn
import Derived.Test.YtgijnchfonfeaaaDoorOj
import Derived.Deep.RegionHeld3
import Derived.Deep.RegionHeld2
namespace Go.Proofs.YtgijnchfonfeaaaDoor
open Go.Proofs.BL Go.Proofs.Peel Go.RowKit
set_option maxRecDepth 100000
set_option linter.unusedVariables false

theorem pstr_cutN {n : Nat} (h : n < 2 ^ 64) {k : Nat} (hk : k < (natB n).length) : pstr ((natB n).take k) 0 300 = (none, 6) := by
  have := pnat_cut h [] hk
  rw [List.append_nil] at this
  simp only [pstr, List.drop_zero, this]
theorem pstr_cutS {s : ByteArray} (h : s.size ≤ 300) {k : Nat} (hk : k < (strB s).length) : pstr ((strB s).take k) 0 300 = (none, 6) := by
  by_cases hc : k < (natB s.size).length
  · have := pnat_cut (n := s.size) (by omega) (txt s) hc
    simp only [pstr, List.drop_zero, strB, this]
  · have h1 : (strB s).take k = natB s.size ++ (txt s).take (k - (natB s.size).length) := by
      rw [strB, List.take_append, List.take_of_length_le (by omega)]
    have h2 := pnat_natB (n := s.size) (by omega) ((txt s).take (k - (natB s.size).length))
    simp only [strB, List.length_append, txt_len] at hk
    simp only [pstr, List.drop_zero, h1, h2]
    rw [if_neg (by omega), if_pos (by simp only [List.length_append, List.length_take, txt_len]; omega)]
theorem rdNat_cut {n : Nat} (h : n < 2 ^ 64) {k : Nat} (hk : k < (natB n).length) : rdNat ((natB n).take k) 0 [] = (0, 0, bad6 0) := by
  have := pnat_cut h [] hk
  rw [List.append_nil] at this
  simp [rdNat, this]

/-- Bytes do not lie in a reader's block. -/
theorem rows_ne {w : World} {q : Nat} {bs bl : List UInt8} {a : Nat} {c : List Lk} {A : Option Addr} (h : Rd w q bs a c) (hr : RowsAt w 1 A (bys bl)) (hne : bl ≠ []) : ∀ x, A = some x → x.block ≠ q := by
  intro x hx e
  obtain ⟨y, ys, rfl⟩ := List.exists_cons_of_ne_nil hne
  obtain ⟨b, o, e2, hc⟩ := hr 0 (enB y) rfl
  rw [e2] at hx
  injection hx with hx
  subst hx
  obtain ⟨A', cp, ve, hB, _, _, _, _, hcn⟩ := h
  have h1 := hc 0 _ rfl
  simp only at e
  subst e
  have h2 := (hB.cell (o + 0 * 1 + 0)).symm.trans h1
  rcases (show o + 0 * 1 + 0 = 0 ∨ o + 0 * 1 + 0 = 1 ∨ o + 0 * 1 + 0 = 2 ∨ 3 ≤ o + 0 * 1 + 0 from by omega) with h3 | h3 | h3 | h3
  · rw [h3] at h2; simp at h2
  · rw [h3] at h2; simp at h2
  · rw [h3] at h2
    cases c with
    | nil => rw [show ve = .nilIface from hcn] at h2; simp at h2
    | cons x r => obtain ⟨_, _, e4, _⟩ := hcn; rw [e4] at h2; simp at h2
  · rw [Array.getElem?_eq_none (by simpa using h3)] at h2; cases h2
theorem rows_rd {w w' : World} {q : Nat} {bs bl : List UInt8} {a : Nat} {c : List Lk} {A : Option Addr} (h : Rd w q bs a c) (hr : RowsAt w 1 A (bys bl)) (hf : Fr (only q) w w') : RowsAt w' 1 A (bys bl) :=
  rows_set hr (fun hne => rows_ne h hr hne) hf
theorem Rd.other {w w' : World} {p q : Nat} {bs bs' : List UInt8} {a a' : Nat} {c c' : List Lk} (h : Rd w p bs a c) (h' : Rd w q bs' a' c') (hne : p ≠ q) (hf : Fr (only q) w w') : Rd w' p bs a c := by
  have h2 := h'
  obtain ⟨A, cp, ve, hB, h1, hle, hr, hp, hc⟩ := h
  obtain ⟨_, _, _, hB', _⟩ := h2
  exact ⟨A, cp, ve, hB.fr hf (fun e => hne e), h1, hle, rows_rd h' hr hf, hp, chn_set hB' hf hc⟩

end Go.Proofs.YtgijnchfonfeaaaDoor
