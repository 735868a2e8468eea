/- Package octet: the reader's Yes and Strs. -/
import Derived.Test.YtoejeiaeladgjaaDoorOj
import Derived.Test.YtoejeiaeladgjaaDoorOl
namespace Go.Proofs.YtoejeiaeladgjaaDoor
open Go.Proofs.BL Go.Proofs.Peel Go.RowKit
set_option maxRecDepth 100000
set_option linter.unusedVariables false

def rdYes (bs : List UInt8) (a : Nat) (c : List Lk) : Bool × Nat × List Lk :=
  if c = [] then (match bs.drop a with | x :: _ => if 1 < x.toNat then (false, a, bad6 a) else (x.toNat == 1, a + 1, []) | [] => (false, a, bad6 a)) else (false, a, c)

set_option maxHeartbeats 1000000 in
theorem mYes {p : Nat} {bs : List UInt8} {a : Nat} {c : List Lk} (w : World) (hl : bs.length ≤ 1099511627776) (h : Rd w p bs a c) :
    Calls Tryd.prog 53 #[.pointer (some ⟨p, 0, none⟩)] w (RdAns p bs w (.bool (rdYes bs a c).1) (rdYes bs a c).2) := by
  have ha := h.at_le
  have c1 := h.c1
  have HRD := Lib.hid h
  clear h
  by_cases hc : c = []
  · subst hc
    cases hd : bs.drop a with
    | nil =>
      have E : rdYes bs a [] = (false, a, bad6 a) := by simp [rdYes, hd]
      have hlen : ¬ 1 ≤ bs.length - a := by have := congrArg List.length hd; simp at this; omega
      rw [E]
      clear E hd
      refine via fun Q hQ => ?_
      go_enter Tryd.func53, Tryd.ntmps53
      go_wp2_with fail
      refine (rbad w HRD.out).mono ?_
      rintro e w1 ⟨rfl, rfl⟩
      go_wp2_with fail
      refine (rraw _ 1 (by decide) hl HRD.out).mono ?_
      rintro e w2 ⟨hf, hy, hn⟩
      obtain ⟨rfl, hrd⟩ := hn hlen
      have HR2 := Lib.hid hrd
      have HF := Lib.hid hf
      clear hy hn hrd hf
      go_wp2_with fail
      refine (rfail _ a 6 HR2.out ha (by decide)).mono ?_
      rintro e w3 ⟨rfl, hrd3, hf3⟩
      have HR3 := Lib.hid hrd3
      have HF3 := Lib.hid (HF.out.trans hf3 (fun _ _ h => h))
      clear hrd3 hf3
      go_wp2
      exact ⟨rfl, by simpa [bad6] using HR3.out, HF3.out⟩
    | cons x r =>
      have hlen : 1 ≤ bs.length - a := by have := congrArg List.length hd; simp at this; omega
      have hx := x.toNat_lt
      by_cases h1 : 1 < x.toNat
      · have E : rdYes bs a [] = (false, a, bad6 a) := by simp [rdYes, hd, h1]
        have HD := Lib.hid hd
        rw [E]
        clear E hd
        refine via fun Q hQ => ?_
        go_enter Tryd.func53, Tryd.ntmps53
        go_wp2_with fail
        refine (rbad w HRD.out).mono ?_
        rintro e w1 ⟨rfl, rfl⟩
        go_wp2_with fail
        refine (rraw _ 1 (by decide) hl HRD.out).mono ?_
        rintro e w2 ⟨hf, hy, hn⟩
        obtain ⟨A, cp, rfl, hcp, hr, _, hrd⟩ := hy hlen
        rw [HD.out] at hr
        obtain ⟨b, o, rfl, hcc⟩ := hr 0 (enB x) rfl
        have g0 : w2.cell? ⟨b, o, none⟩ = some (.int .u8 x.toNat) := hcc 0 _ rfl
        have HR2 := Lib.hid hrd
        have HF := Lib.hid hf
        clear hy hn hrd hf hr hcc
        go_wp2_with fail
        refine (rfail _ a 6 HR2.out ha (by decide)).mono ?_
        rintro e w3 ⟨rfl, hrd3, hf3⟩
        have HR3 := Lib.hid hrd3
        have HF3 := Lib.hid (HF.out.trans hf3 (fun _ _ h => h))
        clear hrd3 hf3
        go_wp2
        exact ⟨rfl, by simpa [bad6] using HR3.out, HF3.out⟩
      · have E : rdYes bs a [] = (x.toNat == 1, a + 1, []) := by simp [rdYes, hd, h1]
        have HD := Lib.hid hd
        rw [E]
        clear E hd
        refine via fun Q hQ => ?_
        go_enter Tryd.func53, Tryd.ntmps53
        go_wp2_with fail
        refine (rbad w HRD.out).mono ?_
        rintro e w1 ⟨rfl, rfl⟩
        go_wp2_with fail
        refine (rraw _ 1 (by decide) hl HRD.out).mono ?_
        rintro e w2 ⟨hf, hy, hn⟩
        obtain ⟨A, cp, rfl, hcp, hr, _, hrd⟩ := hy hlen
        rw [HD.out] at hr
        obtain ⟨b, o, rfl, hcc⟩ := hr 0 (enB x) rfl
        have g0 : w2.cell? ⟨b, o, none⟩ = some (.int .u8 x.toNat) := hcc 0 _ rfl
        have HR2 := Lib.hid hrd
        have HF := Lib.hid hf
        clear hy hn hrd hf hr hcc
        have hb1 : (((x.toNat : Nat) : Int) == 1) = (x.toNat == 1) := by
          rcases (show x.toNat = 0 ∨ x.toNat = 1 from by omega) with h | h <;> rw [h] <;> rfl
        generalize hbb : (x.toNat == 1) = bb at hb1
        generalize hz : ((x.toNat : Nat) : Int) = z at g0 hb1
        have hz1 : z ≤ 1 := by omega
        have hz0 : 0 ≤ z := by omega
        have HBB := Lib.hid hbb
        clear hz hbb h1 hx
        go_wp2
        exact ⟨by rw [HBB.out]; rfl, HR2.out, HF.out⟩
  · have E : rdYes bs a c = (false, a, c) := by simp [rdYes, hc]
    rw [E]
    have hd : decide (c ≠ []) = true := by simp [hc]
    refine via fun Q hQ => ?_
    go_enter Tryd.func53, Tryd.ntmps53
    go_wp2_with fail
    refine (rbad w HRD.out).mono ?_
    rintro e w1 ⟨rfl, rfl⟩
    rw [hd]
    go_wp2
    exact ⟨rfl, HRD.out, Fr.refl _ _⟩
end Go.Proofs.YtoejeiaeladgjaaDoor
