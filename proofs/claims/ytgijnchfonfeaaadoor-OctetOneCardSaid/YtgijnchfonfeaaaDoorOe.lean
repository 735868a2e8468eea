/- Package octet: the reader: what it is, and its inner functions. -/
import Derived.Test.YtgijnchfonfeaaaDoorOc
import Derived.Great.Walk
namespace Go.Proofs.YtgijnchfonfeaaaDoor
open Go.Proofs.BL Go.Proofs.Peel Go.RowKit
set_option maxRecDepth 100000
set_option linter.unusedVariables false

/-- A reader at block p: its bytes, its place, what was wrong. -/
def Rd (w : World) (p : Nat) (bs : List UInt8) (at_ : Nat) (c : List Lk) : Prop :=
  ∃ A cp ve, Blk w p #[.slice A bs.length cp, .int .i64 at_, ve] 42 ∧ bs.length ≤ cp ∧ at_ ≤ bs.length ∧ RowsAt w 1 A (bys bs) ∧ (bs ≠ [] → ∀ a, A = some a → a.block < p) ∧ Chn w ve c

theorem lt_ne {A : Option Addr} {bs : List UInt8} {p : Nat} (h : bs ≠ [] → ∀ a, A = some a → a.block < p) : bs ≠ [] → ∀ a, A = some a → a.block ≠ p := fun hn a ha => Nat.ne_of_lt (h hn a ha)
theorem rows_set {w : World} {A : Option Addr} {bs : List UInt8} {p : Nat} (h : RowsAt w 1 A (bys bs)) (hp : bs ≠ [] → ∀ a, A = some a → a.block ≠ p) {w' : World} (hf : Fr (only p) w w') : RowsAt w' 1 A (bys bs) := by
  by_cases hb : bs = []
  · subst hb; exact RowsAt.nil _ _ _
  · exact h.fr hf (fun a ha => hp hb a ha)
theorem chn_set {w w' : World} {p : Nat} {cs : Array Value} (hB : Blk w p cs 42) (hf : Fr (only p) w w') {c : List Lk} {v : Value} (h : Chn w v c) : Chn w' v c :=
  h.fr hf (fun k cs' t f hk hh => by
    cases hk
    unfold Blk at hB
    rw [hB] at hh
    injection hh with hh
    injection hh with _ e
    subst e
    decide)
theorem Rd.below {w w' : World} {p : Nat} {bs : List UInt8} {at_ : Nat} {c : List Lk} (h : Rd w p bs at_ c) (hb : Below w.heap.size w w') : Rd w' p bs at_ c := by
  obtain ⟨A, cp, ve, hB, h1, h2, hr, hp, hc⟩ := h
  exact ⟨A, cp, ve, hB.below hb, h1, h2, hr.below hb, hp, hc.below hb⟩

theorem rbad_nil (w : World) : Calls Tryd.prog 15 #[.pointer none] w (fun e w' => e = .returned (.bool true) ∧ w' = w) := by
  refine via fun Q hQ => ?_
  go_enter Tryd.func15, Tryd.ntmps15
  go_wp2
theorem rbad {p : Nat} {bs : List UInt8} {at_ : Nat} {c : List Lk} (w : World) (h : Rd w p bs at_ c) : Calls Tryd.prog 15 #[.pointer (some ⟨p, 0, none⟩)] w (fun e w' => e = .returned (.bool (decide (c ≠ []))) ∧ w' = w) := by
  obtain ⟨A, cp, ve, hB, _, _, _, _, hc⟩ := h
  have c2 : w.cell? ⟨p, 2, none⟩ = some ve := hB.at_ 2 rfl
  clear hB
  refine via fun Q hQ => ?_
  cases c with
  | nil =>
    obtain rfl : ve = .nilIface := hc
    go_enter Tryd.func15, Tryd.ntmps15
    go_wp2
  | cons x r =>
    obtain ⟨b, u, rfl, _⟩ := hc
    go_enter Tryd.func15, Tryd.ntmps15
    go_wp2

set_option maxHeartbeats 1000000 in
theorem rfail {p : Nat} {bs : List UInt8} {at_ : Nat} {c : List Lk} (w : World) (from_ : Nat) (e : Int) (h : Rd w p bs at_ c) (hfrom : from_ ≤ bs.length) (he : e ≠ 0) :
    Calls Tryd.prog 17 #[.pointer (some ⟨p, 0, none⟩), .int .i64 from_, .int .i64 e] w (fun r w' => r = .returned (.tuple #[]) ∧ Rd w' p bs from_ (if c = [] then [.at_ from_, .num e] else c) ∧ Fr (only p) w w') := by
  obtain ⟨A, cp, ve, hB, h1, h2, hr, hp, hc⟩ := h
  have c0 : w.cell? ⟨p, 0, none⟩ = some (.slice A bs.length cp) := hB.at_ 0 rfl
  have c1 : w.cell? ⟨p, 1, none⟩ = some (.int .i64 at_) := hB.at_ 1 rfl
  have c2 : w.cell? ⟨p, 2, none⟩ = some ve := hB.at_ 2 rfl
  have f1 := hB.free 1
  have HB := Lib.hid hB
  have HR := Lib.hid hr
  have HP := Lib.hid hp
  clear hB hr hp
  refine via fun Q hQ => ?_
  cases c with
  | nil =>
    obtain rfl : ve = .nilIface := hc
    go_enter Tryd.func17, Tryd.ntmps17
    go_wp2_with fail
    refine (fnew e _).mono ?_
    rintro r w1 ⟨v1, rfl, hc1, hb1⟩
    rw [if_neg he] at hc1
    go_wp2_with fail
    refine (fat from_ v1 _ _ hc1).mono ?_
    rintro r w2 ⟨v2, rfl, hc2, hb2⟩
    rw [if_neg (by simp)] at hc2
    have hb02 := below_then hb1 hb2
    have hB2 := HB.out.below hb02
    have f2 := hB2.free 2
    have f21 := hB2.free 1
    have c22 : w2.cell? ⟨p, 2, none⟩ = some .nilIface := hB2.at_ 2 rfl
    have c21 : w2.cell? ⟨p, 1, none⟩ = some (.int .i64 at_) := hB2.at_ 1 rfl
    obtain ⟨b, u, hv2, _⟩ := id hc2
    subst hv2
    have HB2 := Lib.hid hB2
    have HC2 := Lib.hid hc2
    have Hb := Lib.hid hb02
    have HR2 := Lib.hid (HR.out.below hb02)
    clear hc1 hb1 hb2 hc2 hb02 hB2 c0 c1 c2 f1
    go_wp2
    have hfin := (HB2.out.set 2 (.iface (Lk.at_ from_).kind.t1 (.pointer (some ⟨b, 0, none⟩)))).set 1 (.int .i64 from_)
    have hf1 := ((Fr.refl (only p) w2).setCell (p := ⟨p, 2, none⟩) (.inr rfl) (.iface (Lk.at_ from_).kind.t1 (.pointer (some ⟨b, 0, none⟩)))).setCell (p := ⟨p, 1, none⟩) (.inr rfl) (.int .i64 from_)
    refine Great.bodyPost_end0 rfl rfl ?_
    exact hQ _ _ ⟨rfl, ⟨A, cp, _, hfin, h1, hfrom, rows_set HR2.out (lt_ne HP.out) hf1, HP.out, by simpa using chn_set HB2.out hf1 HC2.out⟩, (Fr.of_below (S := only p) Hb.out).trans hf1 (fun _ _ h => h)⟩
  | cons x r =>
    have HC := Lib.hid hc
    obtain ⟨b, u, rfl, _⟩ := hc
    go_enter Tryd.func17, Tryd.ntmps17
    go_wp2
    have hf1 := (Fr.refl (only p) w).setCell (p := ⟨p, 1, none⟩) (.inr rfl) (.int .i64 from_)
    refine Great.bodyPost_end0 rfl rfl ?_
    exact hQ _ _ ⟨rfl, ⟨A, cp, _, HB.out.set 1 (.int .i64 from_), h1, hfrom, rows_set HR.out (lt_ne HP.out) hf1, HP.out, by simpa using chn_set HB.out hf1 HC.out⟩, hf1⟩
end Go.Proofs.YtgijnchfonfeaaaDoor
