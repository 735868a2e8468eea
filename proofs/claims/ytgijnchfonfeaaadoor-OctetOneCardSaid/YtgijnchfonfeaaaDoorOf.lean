/- Package octet: the reader's raw and nat. -/
import Derived.Test.YtgijnchfonfeaaaDoorOe
import Derived.Deep.QuietTactic
import Derived.BigQuiet
namespace Go.Proofs.YtgijnchfonfeaaaDoor
open Go.Proofs.BL Go.Proofs.Peel Go.RowKit
set_option maxRecDepth 100000
set_option linter.unusedVariables false

def RawPost (p : Nat) (bs : List UInt8) (at_ : Nat) (c : List Lk) (n : Nat) (w : World) (e : Ending) (w' : World) : Prop :=
  Fr (only p) w w' ∧
  (n ≤ bs.length - at_ → ∃ A cp, e = .returned (.tuple #[.slice A n cp, .bool true]) ∧ n ≤ cp ∧ RowsAt w' 1 A (bys ((bs.drop at_).take n)) ∧ (n ≠ 0 → ∀ a, A = some a → a.block ≠ p) ∧ Rd w' p bs (at_ + n) c) ∧
  (¬ n ≤ bs.length - at_ → e = .returned (.tuple #[.slice none 0 0, .bool false]) ∧ Rd w' p bs at_ c)

theorem drew_below (w : World) (n : Nat) : Below w.heap.size w (w.drewN n) := ⟨rfl, rfl, rfl, Nat.le_refl _, fun _ _ => rfl⟩

theorem rows_drop {w : World} {A : Option Addr} {bs : List UInt8} {k n cp : Nat} (h : RowsAt w 1 A (bys bs)) (hn : k + n ≤ bs.length) (hc : bs.length ≤ cp) :
    RowsAt w 1 (if cp = k then A else Option.map (fun x => x.add k) A) (bys ((bs.drop k).take n)) := by
  by_cases h0 : n = 0
  · subst h0; rw [List.take_zero]; exact RowsAt.nil _ _ _
  · rw [if_neg (by omega)]
    intro i r hi
    rw [List.getElem?_map, List.getElem?_take] at hi
    split at hi
    · rename_i hin
      rw [List.getElem?_drop, ← List.getElem?_map] at hi
      obtain ⟨b, o, rfl, hc⟩ := h (k + i) r hi
      refine ⟨b, o + k, ?_, fun j u hj => ?_⟩
      · simp only [Option.map_some, Addr.add]
        split <;> simp_all
      · have := hc j u hj
        rwa [show o + (k + i) * 1 + j = o + k + i * 1 + j from by omega] at this
    · simp at hi
theorem block_drop {A : Option Addr} {bs : List UInt8} {p k n cp : Nat} (h : bs ≠ [] → ∀ a, A = some a → a.block ≠ p) (hn : k + n ≤ bs.length) :
    n ≠ 0 → ∀ a, (if cp = k then A else Option.map (fun x => x.add k) A) = some a → a.block ≠ p := by
  intro h0 a ha
  have hne : bs ≠ [] := fun e => by subst e; simp at hn; omega
  split at ha
  · exact h hne a ha
  · obtain ⟨a', ha', rfl⟩ := Option.map_eq_some_iff.1 ha
    have := h hne a' ha'
    unfold Addr.add
    split <;> simp_all

set_option maxHeartbeats 1000000 in
theorem rraw {p : Nat} {bs : List UInt8} {at_ : Nat} {c : List Lk} (w : World) (n : Nat) (hn : n < 18446744073709551616) (hl : bs.length ≤ 1099511627776) (h : Rd w p bs at_ c) :
    Calls Tryd.prog 22 #[.pointer (some ⟨p, 0, none⟩), .int .u64 n] w (RawPost p bs at_ c n w) := by
  have HRD := Lib.hid h
  obtain ⟨A, cp, ve, hB, h1, h2, hr, hp, hc⟩ := h
  have c0 : w.cell? ⟨p, 0, none⟩ = some (.slice A bs.length cp) := hB.at_ 0 rfl
  have c1 : w.cell? ⟨p, 1, none⟩ = some (.int .i64 at_) := hB.at_ 1 rfl
  have f1 := hB.free 1
  have HB := Lib.hid hB
  have HR := Lib.hid hr
  have HP := Lib.hid hp
  have HC := Lib.hid hc
  clear hB hr hp hc
  refine via fun Q hQ => ?_
  go_enter Tryd.func22, Tryd.ntmps22
  go_wp2_with fail
  go_quiet (fail)
  generalize nq = nz
  by_cases hnl : n ≤ bs.length - at_
  · have t0 : ¬ ((bs.length : Int) - at_ < n) := by omega
    have w1 : IntKind.i64.wrap ((at_ : Int) + n) = (at_ : Int) + n := by rw [IntKind.wrap_i64]; omega
    have w2 : (0 : Int) ≤ (at_ : Int) + n := by omega
    have w3 : ((at_ : Int) + n).toNat = at_ + n := by omega
    have w4 : (at_ : Int) ≤ (at_ : Int) + n := by omega
    have w5 : (at_ : Int) + n ≤ (cp : Int) := by omega
    go_wp2_with fail
    go_quiet (fail)
    have hrd := rows_drop (k := at_) (n := n) (cp := cp) HR.out (by omega) h1
    have hbd := block_drop (k := at_) (n := n) (cp := cp) (lt_ne HP.out) (by omega)
    generalize (if cp = at_ then A else Option.map (fun x => x.add at_) A) = A' at hrd hbd ⊢
    have HRD2 := Lib.hid hrd
    have HBD2 := Lib.hid hbd
    clear hrd hbd
    go_wp2
    have hf1 : Fr (only p) w ((w.drewN (nz + nq)).setCell ⟨p, 1, none⟩ (.int .i64 ((at_ : Int) + n))) := ((Fr.refl (only p) w).drewN (nz + nq)).setCell (p := ⟨p, 1, none⟩) (.inr rfl) _
    have hB2 : Blk ((w.drewN (nz + nq)).setCell ⟨p, 1, none⟩ (.int .i64 ((at_ : Int) + n))) p _ 42 := (HB.out.below (drew_below w (nz + nq))).set 1 (.int .i64 ((at_ : Int) + n))
    refine ⟨hf1, fun _ => ⟨_, _, rfl, by omega, ?_, ?_, ⟨A, cp, ve, hB2, h1, by omega, rows_set HR.out (lt_ne HP.out) hf1, HP.out, chn_set HB.out hf1 HC.out⟩⟩, fun h => absurd hnl h⟩
    · by_cases h0 : n = 0
      · subst h0; rw [List.take_zero]; exact RowsAt.nil _ _ _
      · exact RowsAt.fr (S := only p) HRD2.out hf1 (fun a ha => HBD2.out h0 a ha)
    · exact HBD2.out
  · have t0 : ((bs.length : Int) - at_ < n) := by omega
    go_wp2_with fail
    exact ⟨Fr.of_below (drew_below _ _), fun h => absurd h hnl, fun _ => ⟨rfl, HRD.out.below (drew_below _ _)⟩⟩
end Go.Proofs.YtgijnchfonfeaaaDoor
