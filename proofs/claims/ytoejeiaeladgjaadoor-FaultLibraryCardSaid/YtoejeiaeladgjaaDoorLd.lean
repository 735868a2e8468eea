/- Chapter 1: lists of texts held against one another. -/
import Derived.Test.YtoejeiaeladgjaaDoorLc
namespace Go.Proofs.YtoejeiaeladgjaaDoor
open Go.Proofs.BL Go.Proofs.Peel Go.RowKit
set_option maxRecDepth 100000
set_option linter.unusedVariables false

set_option maxHeartbeats 1000000 in
/-- Two lists of one-cell things: are they the same? -/
theorem rtexts (a b : List ByteArray) (va vb : Value) (w : World) (ha : SlV w 1 va (a.map fun s => [.string s])) (hb : SlV w 1 vb (b.map fun s => [.string s])) (hal : a.length ≤ 9223372036854775806) (hbl : b.length ≤ 9223372036854775806) :
    Calls Tryd.prog 26 #[va, vb] w (Ans w (.bool (decide (a = b)))) := by
  obtain ⟨A, ca, rfl, hla, hra⟩ := ha
  obtain ⟨B, cb, rfl, hlb, hrb⟩ := hb
  simp only [List.length_map] at hla hlb ⊢
  refine via fun Q hQ => ?_
  by_cases hl : a.length = b.length
  · have g0 : ((a.length : Int) != (b.length : Int)) = false := by simp [hl]
    have HL := Lib.hid hl
    clear hl
    go_enter Tryd.func26, Tryd.ntmps26
    go_wp2
    go_loopg [13] (a.length) (fun n i wr => ∃ k : Nat, k ≤ a.length ∧ n = a.length - k ∧ i = .int .i64 k ∧ a.take k = b.take k ∧ Below w.heap.size w wr)
    case atStart => exact ⟨0, Nat.zero_le _, rfl, rfl, rfl, Below.refl _ _⟩
    case round =>
      obtain ⟨k, hk, rfl, rfl, hn, hbw⟩ := hrel
      have HN := Lib.hid hn
      have HB := Lib.hid hbw
      by_cases hlt : k < a.length
      · have hltb : k < b.length := by have := HL.out; omega
        obtain ⟨b1, o1, rfl, h1⟩ := hra k [.string a[k]] (by simp [hlt])
        obtain ⟨b2, o2, rfl, h2⟩ := hrb k [.string b[k]] (by simp [hltb])
        have hta : a.take (k + 1) = a.take k ++ [a[k]] := List.take_succ_eq_append_getElem hlt
        have htb : b.take (k + 1) = b.take k ++ [b[k]] := List.take_succ_eq_append_getElem hltb
        have hga : a[k]? = some a[k] := List.getElem?_eq_getElem hlt
        have hgb : b[k]? = some b[k] := List.getElem?_eq_getElem hltb
        generalize a[k] = x at h1 hta hga
        generalize b[k] = y at h2 htb hgb
        have HTA := Lib.hid hta
        have HTB := Lib.hid htb
        have HGA := Lib.hid hga
        have HGB := Lib.hid hgb
        have c1 : wr.cell? ⟨b1, o1 + k, none⟩ = some (.string x) := by
          have := (hbw.cell (World.block_lt_of_cell? w _ (h1 0 _ rfl))).trans (h1 0 _ rfl)
          rwa [Nat.mul_one, Nat.add_zero] at this
        have c2 : wr.cell? ⟨b2, o2 + k, none⟩ = some (.string y) := by
          have := (hbw.cell (World.block_lt_of_cell? w _ (h2 0 _ rfl))).trans (h2 0 _ rfl)
          rwa [Nat.mul_one, Nat.add_zero] at this
        have i1 : (k : Int) < (a.length : Int) := by omega
        have i2 : (k : Int) < (b.length : Int) := by omega
        have i0 : (0 : Int) ≤ (k : Int) := by omega
        clear hn hbw hra hrb h1 h2 hta htb hga hgb
        by_cases hxy : x = y
        · have g1 := str_same hxy
          have HXY := Lib.hid hxy
          clear hxy
          go_wp2
          go_quiet (fail)
          go_wp2
          go_roundg (a.length - (k + 1))
          case measure => omega
          case rel => exact ⟨k + 1, by omega, rfl, by go_num, by rw [HTA.out, HTB.out, HN.out, HXY.out], ⟨HB.out.os, HB.out.tape, HB.out.output, HB.out.size, HB.out.block⟩⟩
        · have g1 := str_diff hxy
          have HXY := Lib.hid hxy
          clear hxy
          go_wp2
          go_quiet (fail)
          go_wp2
          refine ⟨?_, ⟨HB.out.os, HB.out.tape, HB.out.output, HB.out.size, HB.out.block⟩⟩
          rw [decide_eq_false (fun e => HXY.out (by
            have h1 := HGA.out
            rw [e, HGB.out] at h1
            exact (Option.some.inj h1).symm))]
          rfl
      · clear hn hbw hra hrb
        go_wp2
        refine ⟨?_, HB.out⟩
        have e := HN.out
        rw [List.take_of_length_le (by omega), List.take_of_length_le (by have := HL.out; omega)] at e
        rw [decide_eq_true e]
        rfl
  · have g0 : ((a.length : Int) != (b.length : Int)) = true := by simp; omega
    have HL := Lib.hid hl
    clear hl hra hrb
    go_enter Tryd.func26, Tryd.ntmps26
    go_wp2
    exact ⟨by rw [decide_eq_false (fun e => HL.out (congrArg List.length e))]; rfl, Below.refl _ _⟩

end Go.Proofs.YtoejeiaeladgjaaDoor
