/- Package octet: the reader's Nat, Num, Yes, Str; Err, Place, Left, End. -/
import Derived.Test.YtgijnchfonfeaaaDoorOg
namespace Go.Proofs.YtgijnchfonfeaaaDoor
open Go.Proofs.BL Go.Proofs.Peel Go.RowKit
set_option maxRecDepth 100000
set_option linter.unusedVariables false

def RdAns (p : Nat) (bs : List UInt8) (w : World) (v : Value) (st : Nat × List Lk) (e : Ending) (w' : World) : Prop := e = .returned v ∧ Rd w' p bs st.1 st.2 ∧ Fr (only p) w w'
theorem Rd.at_le {w : World} {p : Nat} {bs : List UInt8} {a : Nat} {c : List Lk} (h : Rd w p bs a c) : a ≤ bs.length := by obtain ⟨_, _, _, _, _, h2, _⟩ := h; exact h2
theorem Rd.c1 {w : World} {p : Nat} {bs : List UInt8} {a : Nat} {c : List Lk} (h : Rd w p bs a c) : w.cell? ⟨p, 1, none⟩ = some (.int .i64 a) := by obtain ⟨_, _, _, h, _⟩ := h; exact h.at_ 1 rfl
theorem Rd.c2 {w : World} {p : Nat} {bs : List UInt8} {a : Nat} {c : List Lk} (h : Rd w p bs a c) : ∃ ve, w.cell? ⟨p, 2, none⟩ = some ve ∧ Chn w ve c := by obtain ⟨_, _, ve, h, _, _, _, _, hc⟩ := h; exact ⟨ve, h.at_ 2 rfl, hc⟩
theorem Rd.c0 {w : World} {p : Nat} {bs : List UInt8} {a : Nat} {c : List Lk} (h : Rd w p bs a c) : ∃ A cp, w.cell? ⟨p, 0, none⟩ = some (.slice A bs.length cp) := by obtain ⟨A, cp, _, h, _⟩ := h; exact ⟨A, cp, h.at_ 0 rfl⟩

def bad6 (a : Nat) : List Lk := [.at_ a, .num 6]
def rdNat (bs : List UInt8) (a : Nat) (c : List Lk) : Nat × Nat × List Lk :=
  if c = [] then (match pnat (bs.drop a) with | some (n, k) => (n, a + k, []) | none => (0, a, bad6 a)) else (0, a, c)

set_option maxHeartbeats 1000000 in
theorem mNat {p : Nat} {bs : List UInt8} {a : Nat} {c : List Lk} (w : World) (hl : bs.length ≤ 1099511627776) (h : Rd w p bs a c) :
    Calls Tryd.prog 5 #[.pointer (some ⟨p, 0, none⟩)] w (RdAns p bs w (.int .u64 (rdNat bs a c).1) (rdNat bs a c).2) := by
  have ha := h.at_le
  have c1 := h.c1
  have HRD := Lib.hid h
  clear h
  by_cases hc : c = []
  · subst hc
    cases hp : pnat (bs.drop a) with
    | some nk =>
      obtain ⟨n, k⟩ := nk
      have E : rdNat bs a [] = (n, a + k, []) := by simp [rdNat, hp]
      have HP := Lib.hid hp
      rw [E]
      clear E hp
      refine via fun Q hQ => ?_
      go_enter Tryd.func5, Tryd.ntmps5
      go_wp2_with fail
      refine (rbad w HRD.out).mono ?_
      rintro e w1 ⟨rfl, rfl⟩
      go_wp2_with fail
      refine (rnat_ _ hl HRD.out).mono ?_
      rintro e w2 ⟨hf, hs, hn⟩
      obtain ⟨rfl, hrd⟩ := hs n k HP.out
      have HR2 := Lib.hid hrd
      have HF := Lib.hid hf
      clear hs hn hrd hf
      go_wp2
      exact ⟨rfl, HR2.out, HF.out⟩
    | none =>
      have E : rdNat bs a [] = (0, a, bad6 a) := by simp [rdNat, hp]
      have HP := Lib.hid hp
      rw [E]
      clear E hp
      refine via fun Q hQ => ?_
      go_enter Tryd.func5, Tryd.ntmps5
      go_wp2_with fail
      refine (rbad w HRD.out).mono ?_
      rintro e w1 ⟨rfl, rfl⟩
      go_wp2_with fail
      refine (rnat_ _ hl HRD.out).mono ?_
      rintro e w2 ⟨hf, hs, hn⟩
      obtain ⟨rfl, at', hrd⟩ := hn HP.out
      have HR2 := Lib.hid hrd
      have HF := Lib.hid hf
      clear hs hn hrd hf
      go_wp2_with fail
      refine (rfail _ a 6 HR2.out ha (by decide)).mono ?_
      rintro e w3 ⟨rfl, hrd3, hf3⟩
      have HR3 := Lib.hid hrd3
      have HF3 := Lib.hid (HF.out.trans hf3 (fun _ _ h => h))
      clear hrd3 hf3
      go_wp2
      exact ⟨rfl, by simpa [bad6] using HR3.out, HF3.out⟩
  · have E : rdNat bs a c = (0, a, c) := by simp [rdNat, hc]
    rw [E]
    have hd : decide (c ≠ []) = true := by simp [hc]
    refine via fun Q hQ => ?_
    go_enter Tryd.func5, Tryd.ntmps5
    go_wp2_with fail
    refine (rbad w HRD.out).mono ?_
    rintro e w1 ⟨rfl, rfl⟩
    rw [hd]
    go_wp2
    exact ⟨rfl, HRD.out, Fr.refl _ _⟩

/-- A number with a sign, from one without. -/
def zag (n : Nat) : Int := if n % 2 = 1 then -1 - (n / 2 : Nat) else (n / 2 : Nat)
theorem zag_bits (n : Nat) (hn : n < 2 ^ 64) : bits BinOp.xor IntKind.i64 ((n : Int) / 2) (wrap64 (-wrap64 (bits BinOp.and IntKind.u64 n 1))) = zag n := by
  rw [and_one _ (by omega) (by omega), show wrap64 (-wrap64 ((n : Int) % 2)) = -((n : Int) % 2) from by unfold wrap64; omega, xor_sign _ _ (by omega) (by omega) (by omega)]
  unfold zag
  split <;> split <;> omega
set_option maxHeartbeats 400000 in
theorem osigned (n : Nat) (w : World) (hn : n < 2 ^ 64) : Calls Tryd.prog 18 #[.int .u64 n] w (fun e w' => e = .returned (.int .i64 (zag n)) ∧ w' = w) := by
  refine via fun Q hQ => ?_
  go_enter Tryd.func18, Tryd.ntmps18
  go_wp2
  exact zag_bits n hn
def rdNum (bs : List UInt8) (a : Nat) (c : List Lk) : Int × Nat × List Lk := (zag (rdNat bs a c).1, (rdNat bs a c).2)
theorem rdNat_lt (bs : List UInt8) (a : Nat) (c : List Lk) : (rdNat bs a c).1 < 2 ^ 64 := by
  unfold rdNat
  split
  · cases hp : pnat (bs.drop a) with
    | some nk => exact (pnat_len (n := nk.1) (k := nk.2) hp).2.2
    | none => exact (by decide : (0 : Nat) < 2 ^ 64)
  · exact (by decide : (0 : Nat) < 2 ^ 64)
theorem mNum {p : Nat} {bs : List UInt8} {a : Nat} {c : List Lk} (w : World) (hl : bs.length ≤ 1099511627776) (h : Rd w p bs a c) :
    Calls Tryd.prog 6 #[.pointer (some ⟨p, 0, none⟩)] w (RdAns p bs w (.int .i64 (rdNum bs a c).1) (rdNum bs a c).2) := by
  have hlt := rdNat_lt bs a c
  have h0 := mNat w hl h
  unfold rdNum
  generalize rdNat bs a c = st at hlt h0 ⊢
  obtain ⟨n, a', c'⟩ := st
  simp only at hlt
  refine via fun Q hQ => ?_
  go_enter Tryd.func6, Tryd.ntmps6
  go_wp2_with fail
  refine h0.mono ?_
  rintro e w1 ⟨rfl, hrd, hf⟩
  have HR := Lib.hid hrd
  have HF := Lib.hid hf
  clear hrd hf h0
  go_wp2_with fail
  refine (osigned n _ hlt).mono ?_
  rintro e w2 ⟨rfl, rfl⟩
  go_wp2
  exact ⟨rfl, HR.out, HF.out⟩
end Go.Proofs.YtgijnchfonfeaaaDoor
