/- ops.letters, walked (given to the print). ops.letters and the document's Fits, walked (given to the print). -/
import Derived.Test.YtigffdmpofcdgaaGreatDoorJA
import Derived.Test.YtigffdmpofcdgaaGreatDoorProg
import Derived.Lib.Hide
import Derived.Deep.QuietTactic
import Derived.BigQuiet
import Derived.Deep.LoopGhost
import Derived.Lib.ConvBytes
import Derived.Test.YtigffdmpofcdgaaGreatDoorJP
section
set_option linter.unusedVariables false
set_option maxRecDepth 100000
namespace Go.Proofs.YtigffdmpofcdgaaGreatDoor.Gv
open Go.Proofs.BL Go.Proofs.Peel Go.RowKit Go.Proofs.YtigffdmpofcdgaaGreatDoor
/-- A letter of a key. -/
def okN (n : Int) : Bool := decide ((97 ≤ n ∧ n ≤ 122) ∨ (48 ≤ n ∧ n ≤ 57) ∨ n = 46 ∨ n = 95)
theorem ok_yes {n : Int} (h : (97 ≤ n ∧ n ≤ 122) ∨ (48 ≤ n ∧ n ≤ 57) ∨ n = 46 ∨ n = 95) : okN n = true := decide_eq_true h
theorem ok_no {n : Int} (h : ¬ ((97 ≤ n ∧ n ≤ 122) ∨ (48 ≤ n ∧ n ≤ 57) ∨ n = 46 ∨ n = 95)) : okN n = false := decide_eq_false h
def letB (l : List UInt8) : Bool := l.all (fun c => okN c.toNat) && !l.isEmpty
def LetPost (s : ByteArray) (w : World) (e : Ending) (w' : World) : Prop := e = .returned (.bool (letB (BL.txt s))) ∧ Below w.heap.size w w'
theorem all_take {α : Type} {p : α → Bool} {l : List α} {j : Nat} {x : α} (h : (l.take j).all p = true) (hx : l[j]? = some x) (hp : p x = true) : (l.take (j + 1)).all p = true := by
  have hj := (List.getElem?_eq_some_iff.1 hx).1
  have e : l[j] = x := (List.getElem?_eq_some_iff.1 hx).2
  rw [List.take_succ_eq_append_getElem hj, List.all_append, h, e]
  simp [hp]
theorem all_not {α : Type} {p : α → Bool} {l : List α} {j : Nat} {x : α} (hx : l[j]? = some x) (hp : p x = false) : l.all p = false := by
  rw [← Bool.not_eq_true, List.all_eq_true]
  intro h
  have := h x (List.mem_of_getElem? hx)
  rw [hp] at this
  cases this
set_option maxHeartbeats 4000000 in
theorem letters_calls (s : ByteArray) (w : World) (hs : s.size ≤ 1000) : Calls Tryz.prog 86 #[.string s] w (LetPost s w) := by
  refine via fun Q hQ => ?_
  have hcv := Lib.run_convert_string_bytes (P := Tryz.prog) w 9 23 5 s Tryz.underlying9 Tryz.underlying23 Tryz.underlying5
  have hbB := bytesWorld_below w 5 s
  have hrB := bytesWorld_rows w 5 s
  generalize Lib.bytesWorld w 5 s = wB at hcv hbB hrB
  generalize grownCap w s.size 0 5 = gc at hcv
  have htl := txt_len s
  have hemp : (!((BL.txt s).isEmpty)) = decide (0 < s.size) := by
    rw [← htl]
    cases BL.txt s <;> simp
  have hstr : s.toList.isEmpty = decide (s.size = 0) := by
    rw [ByteArray.toList_eq, ← htl]
    show (BL.txt s).isEmpty = _
    cases BL.txt s <;> simp
  generalize hls : BL.txt s = l at htl hemp hstr hrB
  have HLS := Lib.hid hls
  clear hls
  have HR := Lib.hid hrB
  have HB := Lib.hid hbB
  have HL := Lib.hid htl
  have HE := Lib.hid hemp
  have HSt := Lib.hid hstr
  clear hstr hbB hrB htl hemp
  go_enter Tryz.func86, Tryz.ntmps86
  go_wp2_with fail
  go_loopg [8] s.size (fun g i wr => ∃ j : Nat, j ≤ s.size ∧ g = s.size - j ∧ i = .int .i64 j ∧ (l.take j).all (fun c => okN c.toNat) = true ∧ wB = wr)
  case atStart => exact ⟨0, Nat.zero_le _, rfl, rfl, rfl, rfl⟩
  case round =>
    obtain ⟨j, hj, rfl, rfl, hall, rfl⟩ := hrel
    have HA := Lib.hid hall
    clear hall
    by_cases hlt : j < s.size
    · have hx : l[j]? = some (l[j]'(by rw [HL.out]; exact hlt)) := List.getElem?_eq_getElem _
      obtain ⟨c, hc⟩ : ∃ c, l[j]'(by rw [HL.out]; exact hlt) = c := ⟨_, rfl⟩
      rw [hc] at hx
      have HX := Lib.hid hx
      have hcell : wB.cell? ⟨w.heap.size, j, none⟩ = some (.int .u8 c.toNat) := by
        obtain ⟨b, o, e, hcc⟩ := HR.out j _ (by rw [List.getElem?_map, hx]; rfl)
        injection e with e
        injection e with e1 e2
        subst e1 e2
        have := hcc 0 _ rfl
        rwa [show 0 + j * 1 + 0 = j from by omega] at this
      clear hx hc
      have hc0 : (0 : Int) ≤ (c.toNat : Int) := by omega
      have hc1 : (c.toNat : Int) ≤ 255 := by have := c.toNat_lt; omega
      generalize hcn : (c.toNat : Int) = n at *
      have HCN := Lib.hid hcn
      clear hcn
      have hcase : (n < 46 ∨ n = 47 ∨ (58 ≤ n ∧ n ≤ 94) ∨ n = 96 ∨ 123 ≤ n) ∨ (n = 46 ∨ n = 95 ∨ (48 ≤ n ∧ n ≤ 57) ∨ (97 ≤ n ∧ n ≤ 122)) := by omega
      rcases hcase with hno | hyes
      · have hno1 : okN (c.toNat : Int) = false := ok_no (by rw [HCN.out]; omega)
        have HN := Lib.hid (show letB l = false by rw [letB, all_not HX.out hno1]; rfl)
        clear hno1
        have h1 : ¬ (97 ≤ n ∧ n ≤ 122) ∧ ¬ (48 ≤ n ∧ n ≤ 57) := by omega
        have h2 : (n == 46) = false := by simp; omega
        have h3 : (n == 95) = false := by simp; omega
        have HC := Lib.hid hno
        clear hno
        rcases HC.out with h | h | h | h | h
        all_goals
          by_cases g1 : 97 ≤ n
          all_goals by_cases g2 : 48 ≤ n
          all_goals by_cases g3 : n ≤ 57
          all_goals by_cases g4 : n ≤ 122
          all_goals first | (exfalso; omega) | skip
        all_goals
          clear h h1
          go_wp2_with fail
          exact ⟨by rw [HLS.out, HN.out], HB.out⟩
      · have hy : okN (c.toNat : Int) = true := ok_yes (by rw [HCN.out]; omega)
        have HN := Lib.hid (all_take HA.out HX.out hy)
        clear hy
        rcases hyes with h | h | h | h
        all_goals
          by_cases g1 : 97 ≤ n
          all_goals by_cases g2 : 48 ≤ n
          all_goals by_cases g3 : n ≤ 57
          all_goals by_cases g4 : n ≤ 122
          all_goals first | (exfalso; omega) | skip
        all_goals
          first | (subst h) | (clear h)
          go_wp2_with fail
          go_roundg (s.size - (j + 1))
          case rel => exact ⟨j + 1, by omega, rfl, rfl, HN.out, rfl⟩
          case measure => omega
    · obtain rfl : j = s.size := by omega
      have hv : letB l = !(decide (s.size = 0)) := by
        have h1 : l.all (fun c => okN c.toNat) = true := by have := HA.out; rwa [List.take_of_length_le (by rw [HL.out]; exact Nat.le_refl _)] at this
        rw [letB, h1, HE.out, Bool.true_and]
        by_cases h : s.size = 0
        · simp [h]
        · simp [h]; omega
      have HV := Lib.hid hv
      clear hv
      go_wp2_with fail
      exact ⟨by rw [HLS.out, HV.out, ← HSt.out]; rfl, HB.out⟩
/-- The same in the print's form: of texts that are not too long. -/
def ops_letters (s : ByteArray) : Option Bool := if s.size ≤ 1000 then some (letB (BL.txt s)) else none
theorem ops_letters_calls (s : ByteArray) (r : Bool) (w : World) (h : ops_letters s = some r) :
    Calls Tryz.prog 86 #[.string s] w fun e w' => e = .returned (.bool r) ∧ Below w.heap.size w w' := by
  unfold ops_letters at h
  split at h
  · rename_i hs
    have := letters_calls s w hs
    unfold LetPost at this
    rw [Option.some.inj h] at this
    exact this
  · cases h
end Go.Proofs.YtigffdmpofcdgaaGreatDoor.Gv
end

section
set_option linter.unusedVariables false
set_option maxRecDepth 100000
namespace Go.Proofs.YtigffdmpofcdgaaGreatDoor.Gv
open Go.Proofs.BL Go.Proofs.Peel Go.RowKit Go.Proofs.YtigffdmpofcdgaaGreatDoor
open Go.Proofs.Ky in
def fitV (a b : Int) : Int × Bool := if in64 (a + b) then (a + b, true) else (0, false)
open Go.Proofs.Ky in
theorem fit_yes {a b : Int} (h : -9223372036854775808 ≤ a + b ∧ a + b ≤ 9223372036854775807) : fitV a b = (a + b, true) := if_pos h
open Go.Proofs.Ky in
theorem fit_no {a b : Int} (h : ¬ (-9223372036854775808 ≤ a + b ∧ a + b ≤ 9223372036854775807)) : fitV a b = (0, false) := if_neg h
end Go.Proofs.YtigffdmpofcdgaaGreatDoor.Gv
end
