/- Package octet: the reader's nat. Package octet: the reader's Nat, Num, Yes, Str; Err, Place, Left, End. -/
import Derived.Test.YtlekfpeonehggaaGreatDoorJ05
import Derived.Test.YtlekfpeonehggaaGreatDoorJ04
section
namespace Go.Proofs.YtlekfpeonehggaaGreatDoor
open Go.Proofs.BL Go.Proofs.Peel Go.RowKit
set_option maxRecDepth 100000
set_option linter.unusedVariables false

def NatPost (p : Nat) (bs : List UInt8) (at_ : Nat) (c : List Lk) (w : World) (e : Ending) (w' : World) : Prop :=
  Fr (only p) w w' ∧
  (∀ n k, pnat (bs.drop at_) = some (n, k) → e = .returned (.tuple #[.int .u64 n, .bool true]) ∧ Rd w' p bs (at_ + k) c) ∧
  (pnat (bs.drop at_) = none → e = .returned (.tuple #[.int .u64 0, .bool false]) ∧ ∃ at', Rd w' p bs at' c)

set_option maxHeartbeats 2000000 in
theorem rnat_ {p : Nat} {bs : List UInt8} {at_ : Nat} {c : List Lk} (w : World) (hl : bs.length ≤ 1099511627776) (h : Rd w p bs at_ c) :
    Calls Tryz.prog 42 #[.pointer (some ⟨p, 0, none⟩)] w (NatPost p bs at_ c w) := by
  have hat : at_ ≤ bs.length := by obtain ⟨_, _, _, _, _, h2, _⟩ := h; exact h2
  refine via fun Q hQ => ?_
  go_enter Tryz.func42, Tryz.ntmps42
  go_wp2_with fail
  refine (rraw w 1 (by decide) hl h).mono ?_
  rintro e w1 ⟨hf1, hy, hn⟩
  have HF1 := Lib.hid hf1
  cases hd : bs.drop at_ with
  | nil =>
    have hlen : bs.length - at_ = 0 := by have := congrArg List.length hd; simpa using this
    obtain ⟨rfl, hrd⟩ := hn (by clear hy hn; omega)
    have HRD := Lib.hid hrd
    have HD := Lib.hid hd
    clear hy hn hf1 h hrd hd
    go_wp2
    exact ⟨HF1.out, (by rw [HD.out]; intro _ _ h; cases h), fun _ => ⟨rfl, _, HRD.out⟩⟩
  | cons k r =>
    have hlen : bs.length - at_ = r.length + 1 := by have := congrArg List.length hd; simpa using this
    have hdr : bs.drop (at_ + 1) = r := by rw [← List.drop_drop, hd]; rfl
    obtain ⟨A, cp, rfl, hcp, hr, hbl, hrd⟩ := hy (by clear hy hn; omega)
    rw [hd] at hr
    obtain ⟨b, o, rfl, hc⟩ := hr 0 (enB k) rfl
    have c0 : w1.cell? ⟨b, o, none⟩ = some (.int .u8 k.toNat) := hc 0 _ rfl
    have hlt := k.toNat_lt
    have HRD := Lib.hid hrd
    have HD := Lib.hid hd
    have HDR := Lib.hid hdr
    clear hy hn hf1 h hrd hd hr hc hbl hdr
    by_cases h8 : 8 < k.toNat
    · go_wp2
      exact ⟨HF1.out, (by rw [HD.out, pnat, if_pos h8]; intro _ _ h; cases h), fun _ => ⟨rfl, _, HRD.out⟩⟩
    · go_wp2_with fail
      refine (rraw w1 k.toNat (by omega) hl HRD.out).mono ?_
      rintro e w2 ⟨hf2, hy, hn⟩
      have HF2 := Lib.hid (HF1.out.trans hf2 (fun _ _ h => h))
      by_cases hsh : r.length < k.toNat
      · obtain ⟨rfl, hrd⟩ := hn (by clear hy hn; omega)
        have HRD2 := Lib.hid hrd
        clear hy hn hf2 hrd
        go_wp2
        exact ⟨HF2.out, (by rw [HD.out, pnat, if_neg h8, if_pos hsh]; intro _ _ h; cases h), fun _ => ⟨rfl, _, HRD2.out⟩⟩
      · obtain ⟨A2, cp2, rfl, hcp2, hr2, _, hrd2⟩ := hy (by clear hy hn; omega)
        rw [HDR.out] at hr2
        have hpn : pnat (bs.drop at_) = if (r.take k.toNat).head? = some 0 then none else some (val (r.take k.toNat), k.toNat + 1) := by
          rw [HD.out, pnat, if_neg h8, if_neg hsh]
        have hdl : (r.take k.toNat).length = k.toNat := by rw [List.length_take]; omega
        have HRD2 := Lib.hid hrd2
        clear hy hn hf2 hrd2
        generalize r.take k.toNat = dg at hr2 hpn hdl
        generalize hkn : k.toNat = kn at *
        have HK1 := Lib.hid (show at_ + (kn + 1) = at_ + 1 + kn from by omega)
        clear hkn
        cases dg with
        | nil =>
          obtain rfl : kn = 0 := by simpa using hdl.symm
          have HPN := Lib.hid (hpn.trans (if_neg (by simp)))
          have HR2 := Lib.hid hr2
          have HDL := Lib.hid hdl
          clear hr2 hpn hdl
          go_wp2_with fail
          go_loopg [7, 47] 0 (fun g n i wr => g = 0 ∧ i = .int .i64 0 ∧ n = .int .u64 0 ∧ w2 = wr)
          case atStart => exact ⟨rfl, rfl, rfl, rfl⟩
          case round =>
            obtain ⟨rfl, rfl, rfl, rfl⟩ := hrel
            go_wp2
            exact ⟨HF2.out, fun n k h => by rw [HPN.out] at h; injection h with h; injection h with h1 h2; subst h1 h2; exact ⟨rfl, HRD2.out⟩, (by rw [HPN.out]; intro h; cases h)⟩
        | cons x dg' =>
          obtain ⟨b2, o2, rfl, hc2⟩ := hr2 0 (enB x) rfl
          have c2 : w2.cell? ⟨b2, o2, none⟩ = some (.int .u8 x.toNat) := hc2 0 _ rfl
          have hxlt := x.toNat_lt
          have hkn0 : 0 < kn := by rw [List.length_cons] at hdl; omega
          have HR2 := Lib.hid hr2
          have HDL := Lib.hid hdl
          clear hr2 hc2 hdl
          by_cases hx0 : x = 0
          · subst hx0
            have HPN := Lib.hid (hpn.trans (if_pos rfl))
            clear hpn
            go_wp2
            exact ⟨HF2.out, (by rw [HPN.out]; intro _ _ h; cases h), fun _ => ⟨rfl, _, HRD2.out⟩⟩
          · have g0 : ((x.toNat : Int) == 0) = false := int_diff (fun e => hx0 (UInt8.toNat_inj.1 (by simpa using e)))
            have HPN := Lib.hid (hpn.trans (if_neg (by simp [hx0])))
            clear hpn hx0
            generalize (x.toNat : Int) = z at c2 g0
            go_wp2_with fail
            generalize x :: dg' = L at HR2 HDL HPN
            go_loopg [7, 47] kn (fun g n i wr => ∃ j : Nat, j ≤ kn ∧ g = kn - j ∧ i = .int .i64 j ∧ n = .int .u64 (val (L.take j)) ∧ w2 = wr)
            case atStart => exact ⟨0, Nat.zero_le _, rfl, rfl, rfl, rfl⟩
            case round =>
              obtain ⟨j, hj, rfl, rfl, rfl, rfl⟩ := hrel
              by_cases hlt : j < kn
              · obtain ⟨b3, o3, e3, hc3⟩ := HR2.out j (enB ((L)[j]'(by have := HDL.out; omega))) (by rw [List.getElem?_map, List.getElem?_eq_getElem (by have := HDL.out; omega)]; rfl)
                have c3 : w2.cell? ⟨b3, o3 + j, none⟩ = some (.int .u8 ((L)[j]'(by have := HDL.out; omega)).toNat) := by
                  have := hc3 0 _ rfl
                  rwa [Nat.mul_one, Nat.add_zero] at this
                have hst : val ((L).take (j + 1)) = val ((L).take j) * 256 + ((L)[j]'(by have := HDL.out; omega)).toNat := by rw [take_step _ (by have := HDL.out; omega), val_snoc]
                have hvl : val ((L).take j) * 256 < 18446744073709551616 := by
                  have h1 := val_lt ((L).take j)
                  have h2 : ((L).take j).length ≤ 7 := by rw [List.length_take]; omega
                  have h3 : 256 ^ ((L).take j).length ≤ 256 ^ 7 := Nat.pow_le_pow_right (by decide) h2
                  have : val ((L).take j) < 256 ^ 7 := Nat.lt_of_lt_of_le h1 h3
                  omega
                generalize hxe : (L)[j]'(by have := HDL.out; omega) = y at c3 hst
                have hylt := y.toNat_lt
                generalize hve : val ((L).take j) = vv at hst hvl
                have HST := Lib.hid hst
                have hor := or_low vv y.toNat hvl hylt
                have HOR := Lib.hid hor
                injection e3 with e3; injection e3 with e3 e4; subst e3 e4
                clear hc3 hst hor hve hxe
                go_wp2
                go_roundg (kn - (j + 1))
                case measure => omega
                case rel => exact ⟨j + 1, hlt, rfl, by go_num, by rw [HST.out, HOR.out]; congr 1, rfl⟩
              · obtain rfl : j = kn := by omega
                have hall : val ((L).take j) = val (L) := by rw [List.take_of_length_le (by have := HDL.out; omega)]
                generalize val ((L).take j) = vv at hall
                have HALL := Lib.hid hall
                clear hall
                go_wp2
                exact ⟨HF2.out, fun n k h => by rw [HPN.out] at h; injection h with h; injection h with h1 h2; subst h1 h2; rw [← HALL.out, HK1.out]; exact ⟨rfl, HRD2.out⟩, (by rw [HPN.out]; intro h; cases h)⟩

end Go.Proofs.YtlekfpeonehggaaGreatDoor
end

section
namespace Go.Proofs.YtlekfpeonehggaaGreatDoor
open Go.Proofs.BL Go.Proofs.Peel Go.RowKit
set_option maxRecDepth 100000
set_option linter.unusedVariables false

def RdAns (p : Nat) (bs : List UInt8) (w : World) (v : Value) (st : Nat × List Lk) (e : Ending) (w' : World) : Prop := e = .returned v ∧ Rd w' p bs st.1 st.2 ∧ Fr (only p) w w'
theorem Rd.at_le {w : World} {p : Nat} {bs : List UInt8} {a : Nat} {c : List Lk} (h : Rd w p bs a c) : a ≤ bs.length := by obtain ⟨_, _, _, _, _, h2, _⟩ := h; exact h2
theorem Rd.c1 {w : World} {p : Nat} {bs : List UInt8} {a : Nat} {c : List Lk} (h : Rd w p bs a c) : w.cell? ⟨p, 1, none⟩ = some (.int .i64 a) := by obtain ⟨_, _, _, h, _⟩ := h; exact h.at_ 1 rfl
theorem Rd.c2 {w : World} {p : Nat} {bs : List UInt8} {a : Nat} {c : List Lk} (h : Rd w p bs a c) : ∃ ve, w.cell? ⟨p, 2, none⟩ = some ve ∧ Chn w ve c := by obtain ⟨_, _, ve, h, _, _, _, _, hc⟩ := h; exact ⟨ve, h.at_ 2 rfl, hc⟩
theorem Rd.c0 {w : World} {p : Nat} {bs : List UInt8} {a : Nat} {c : List Lk} (h : Rd w p bs a c) : ∃ A cp, w.cell? ⟨p, 0, none⟩ = some (.slice A bs.length cp) := by obtain ⟨A, cp, _, h, _⟩ := h; exact ⟨A, cp, h.at_ 0 rfl⟩

def bad6 (a : Nat) : List Lk := [.at_ a, .num 6]
def rdNat (bs : List UInt8) (a : Nat) (c : List Lk) : Nat × Nat × List Lk :=
  if c = [] then (match pnat (bs.drop a) with | some (n, k) => (n, a + k, []) | none => (0, a, bad6 a)) else (0, a, c)

set_option maxHeartbeats 1000000 in
theorem mNat {p : Nat} {bs : List UInt8} {a : Nat} {c : List Lk} (w : World) (hl : bs.length ≤ 1099511627776) (h : Rd w p bs a c) :
    Calls Tryz.prog 18 #[.pointer (some ⟨p, 0, none⟩)] w (RdAns p bs w (.int .u64 (rdNat bs a c).1) (rdNat bs a c).2) := by
  have ha := h.at_le
  have c1 := h.c1
  have HRD := Lib.hid h
  clear h
  by_cases hc : c = []
  · subst hc
    cases hp : pnat (bs.drop a) with
    | some nk =>
      obtain ⟨n, k⟩ := nk
      have E : rdNat bs a [] = (n, a + k, []) := by simp [rdNat, hp]
      have HP := Lib.hid hp
      rw [E]
      clear E hp
      refine via fun Q hQ => ?_
      go_enter Tryz.func18, Tryz.ntmps18
      go_wp2_with fail
      refine (rbad w HRD.out).mono ?_
      rintro e w1 ⟨rfl, rfl⟩
      go_wp2_with fail
      refine (rnat_ _ hl HRD.out).mono ?_
      rintro e w2 ⟨hf, hs, hn⟩
      obtain ⟨rfl, hrd⟩ := hs n k HP.out
      have HR2 := Lib.hid hrd
      have HF := Lib.hid hf
      clear hs hn hrd hf
      go_wp2
      exact ⟨rfl, HR2.out, HF.out⟩
    | none =>
      have E : rdNat bs a [] = (0, a, bad6 a) := by simp [rdNat, hp]
      have HP := Lib.hid hp
      rw [E]
      clear E hp
      refine via fun Q hQ => ?_
      go_enter Tryz.func18, Tryz.ntmps18
      go_wp2_with fail
      refine (rbad w HRD.out).mono ?_
      rintro e w1 ⟨rfl, rfl⟩
      go_wp2_with fail
      refine (rnat_ _ hl HRD.out).mono ?_
      rintro e w2 ⟨hf, hs, hn⟩
      obtain ⟨rfl, at', hrd⟩ := hn HP.out
      have HR2 := Lib.hid hrd
      have HF := Lib.hid hf
      clear hs hn hrd hf
      go_wp2_with fail
      refine (rfail _ a 6 HR2.out ha (by decide)).mono ?_
      rintro e w3 ⟨rfl, hrd3, hf3⟩
      have HR3 := Lib.hid hrd3
      have HF3 := Lib.hid (HF.out.trans hf3 (fun _ _ h => h))
      clear hrd3 hf3
      go_wp2
      exact ⟨rfl, by simpa [bad6] using HR3.out, HF3.out⟩
  · have E : rdNat bs a c = (0, a, c) := by simp [rdNat, hc]
    rw [E]
    have hd : decide (c ≠ []) = true := by simp [hc]
    refine via fun Q hQ => ?_
    go_enter Tryz.func18, Tryz.ntmps18
    go_wp2_with fail
    refine (rbad w HRD.out).mono ?_
    rintro e w1 ⟨rfl, rfl⟩
    rw [hd]
    go_wp2
    exact ⟨rfl, HRD.out, Fr.refl _ _⟩

/-- A number with a sign, from one without. -/
def zag (n : Nat) : Int := if n % 2 = 1 then -1 - (n / 2 : Nat) else (n / 2 : Nat)
theorem zag_bits (n : Nat) (hn : n < 2 ^ 64) : bits BinOp.xor IntKind.i64 ((n : Int) / 2) (wrap64 (-wrap64 (bits BinOp.and IntKind.u64 n 1))) = zag n := by
  rw [and_one _ (by omega) (by omega), show wrap64 (-wrap64 ((n : Int) % 2)) = -((n : Int) % 2) from by unfold wrap64; omega, xor_sign _ _ (by omega) (by omega) (by omega)]
  unfold zag
  split <;> split <;> omega
set_option maxHeartbeats 400000 in
theorem osigned (n : Nat) (w : World) (hn : n < 2 ^ 64) : Calls Tryz.prog 69 #[.int .u64 n] w (fun e w' => e = .returned (.int .i64 (zag n)) ∧ w' = w) := by
  refine via fun Q hQ => ?_
  go_enter Tryz.func69, Tryz.ntmps69
  go_wp2
  exact zag_bits n hn
def rdNum (bs : List UInt8) (a : Nat) (c : List Lk) : Int × Nat × List Lk := (zag (rdNat bs a c).1, (rdNat bs a c).2)
theorem rdNat_lt (bs : List UInt8) (a : Nat) (c : List Lk) : (rdNat bs a c).1 < 2 ^ 64 := by
  unfold rdNat
  split
  · cases hp : pnat (bs.drop a) with
    | some nk => exact (pnat_len (n := nk.1) (k := nk.2) hp).2.2
    | none => exact (by decide : (0 : Nat) < 2 ^ 64)
  · exact (by decide : (0 : Nat) < 2 ^ 64)
theorem mNum {p : Nat} {bs : List UInt8} {a : Nat} {c : List Lk} (w : World) (hl : bs.length ≤ 1099511627776) (h : Rd w p bs a c) :
    Calls Tryz.prog 48 #[.pointer (some ⟨p, 0, none⟩)] w (RdAns p bs w (.int .i64 (rdNum bs a c).1) (rdNum bs a c).2) := by
  have hlt := rdNat_lt bs a c
  have h0 := mNat w hl h
  unfold rdNum
  generalize rdNat bs a c = st at hlt h0 ⊢
  obtain ⟨n, a', c'⟩ := st
  simp only at hlt
  refine via fun Q hQ => ?_
  go_enter Tryz.func48, Tryz.ntmps48
  go_wp2_with fail
  refine h0.mono ?_
  rintro e w1 ⟨rfl, hrd, hf⟩
  have HR := Lib.hid hrd
  have HF := Lib.hid hf
  clear hrd hf h0
  go_wp2_with fail
  refine (osigned n _ hlt).mono ?_
  rintro e w2 ⟨rfl, rfl⟩
  go_wp2
  exact ⟨rfl, HR.out, HF.out⟩
end Go.Proofs.YtlekfpeonehggaaGreatDoor
end
