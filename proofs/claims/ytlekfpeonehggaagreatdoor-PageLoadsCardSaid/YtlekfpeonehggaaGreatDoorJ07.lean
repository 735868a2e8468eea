/- Package octet: the reader's Str, Err, Place, Left, End, Yes; Of. Chapter 2's plain law: what was put into bytes is read as it was, and only that. -/
import Derived.Test.YtlekfpeonehggaaGreatDoorJ06
import Derived.Test.YtlekfpeonehggaaGreatDoorJ03
section
namespace Go.Proofs.YtlekfpeonehggaaGreatDoor
open Go.Proofs.BL Go.Proofs.Peel Go.RowKit
set_option maxRecDepth 100000
set_option linter.unusedVariables false

abbrev noB : ByteArray := ⟨#[]⟩
def bad7 (a : Nat) : List Lk := [.at_ a, .num 7]
/-- What the next text is; what is wrong with it; where the reader stands. -/
def pstr (bs : List UInt8) (a : Nat) (most : Int) : Option (ByteArray × Nat) × Int :=
  match pnat (bs.drop a) with
  | none => (none, 6)
  | some (n, k) => if (n : Int) > max most 0 then (none, 7) else if n > bs.length - (a + k) then (none, 6) else (some (⟨((bs.drop (a + k)).take n).toArray⟩, a + k + n), 0)
def rdStr (bs : List UInt8) (a : Nat) (c : List Lk) (most : Int) : ByteArray × Nat × List Lk :=
  if c = [] then (match pstr bs a most with | (some (s, a'), _) => (s, a', []) | (none, e) => (noB, a, [.at_ a, .num e])) else (noB, a, c)
def StrPost (p : Nat) (bs : List UInt8) (a : Nat) (most : Int) (c : List Lk) (w : World) (e : Ending) (w' : World) : Prop :=
  Fr (only p) w w' ∧
  (∀ s a' x, pstr bs a most = (some (s, a'), x) → e = .returned (.tuple #[.string s, .int .i64 0]) ∧ Rd w' p bs a' c) ∧
  (∀ x, pstr bs a most = (none, x) → e = .returned (.tuple #[.string noB, .int .i64 x]) ∧ ∃ a', Rd w' p bs a' c)

set_option maxHeartbeats 1000000 in
theorem rstr_ {p : Nat} {bs : List UInt8} {a : Nat} {c : List Lk} (w : World) (most : Int) (hl : bs.length ≤ 1099511627776) (hm1 : -9223372036854775808 ≤ most) (hm2 : most ≤ 9223372036854775807) (h : Rd w p bs a c) :
    Calls Tryz.prog 68 #[.pointer (some ⟨p, 0, none⟩), .int .i64 most] w (StrPost p bs a most c w) := by
  refine via fun Q hQ => ?_
  go_enter Tryz.func68, Tryz.ntmps68
  go_wp2_with fail
  refine (rnat_ _ hl h).mono ?_
  rintro e w1 ⟨hf, hs, hn⟩
  have HF := Lib.hid hf
  cases hp : pnat (bs.drop a) with
  | none =>
    obtain ⟨rfl, at', hrd⟩ := hn hp
    have HR := Lib.hid hrd
    have HP := Lib.hid (show pstr bs a most = (none, 6) by simp only [pstr, hp])
    clear hs hn hrd hf hp h
    go_wp2
    exact ⟨HF.out, (fun s a' x h => by rw [HP.out] at h; cases h), fun x h => by rw [HP.out] at h; injection h with _ h; subst h; exact ⟨rfl, _, HR.out⟩⟩
  | some nk =>
    obtain ⟨n, k⟩ := nk
    obtain ⟨rfl, hrd⟩ := hs n k hp
    have hlt := (pnat_len hp).2.2
    have hmx : 0 ≤ max most 0 ∧ max most 0 ≤ 9223372036854775807 := by omega
    have HR := Lib.hid hrd
    have hpe : pstr bs a most = if (n : Int) > max most 0 then (none, 7) else if n > bs.length - (a + k) then (none, 6) else (some (⟨((bs.drop (a + k)).take n).toArray⟩, a + k + n), 0) := by simp only [pstr, hp]
    have HPE := Lib.hid hpe
    clear hs hn hrd hf hp h hpe
    by_cases hb : (n : Int) > max most 0
    · have HP := Lib.hid (HPE.out.trans (if_pos hb))
      go_wp2
      exact ⟨HF.out, (fun s a' x h => by rw [HP.out] at h; cases h), fun x h => by rw [HP.out] at h; injection h with _ h; subst h; exact ⟨rfl, _, HR.out⟩⟩
    · have HNB := Lib.hid (Int.not_lt.1 hb)
      go_wp2_with fail
      refine (rraw _ n hlt hl HR.out).mono ?_
      rintro e w2 ⟨hf2, hy, hn⟩
      have HF2 := Lib.hid (HF.out.trans hf2 (fun _ _ h => h))
      by_cases hb2 : n > bs.length - (a + k)
      · obtain ⟨rfl, hrd⟩ := hn (by clear hy hn; omega)
        have HR2 := Lib.hid hrd
        have HP := Lib.hid (HPE.out.trans ((if_neg (Int.not_lt.2 HNB.out)).trans (if_pos hb2)))
        clear hy hn hf2 hrd
        go_wp2
        exact ⟨HF2.out, (fun s a' x h => by rw [HP.out] at h; cases h), fun x h => by rw [HP.out] at h; injection h with _ h; subst h; exact ⟨rfl, _, HR2.out⟩⟩
      · obtain ⟨A, cp, rfl, hcp, hr, _, hrd⟩ := hy (by clear hy hn; omega)
        have hle := HR.out.at_le
        have hcv := run_str (P := Tryz.prog) w2 23 9 5 Tryz.underlying23 Tryz.underlying5 Tryz.underlying9 A n cp ((bs.drop (a + k)).take n) (by rw [List.length_take, List.length_drop]; clear hy hn; omega) hr
        have HR2 := Lib.hid hrd
        have HP := Lib.hid (HPE.out.trans ((if_neg (Int.not_lt.2 HNB.out)).trans (if_neg hb2)))
        generalize (⟨((bs.drop (a + k)).take n).toArray⟩ : ByteArray) = sx at hcv HP
        clear hy hn hf2 hrd hr
        go_wp2
        exact ⟨HF2.out, (fun s a' x h => by rw [HP.out] at h; injection h with h1 h2; injection h1 with h1; injection h1 with h1 h3; subst h1 h3; exact ⟨rfl, HR2.out⟩), fun x h => by rw [HP.out] at h; cases h⟩

set_option maxHeartbeats 1000000 in
theorem mStr {p : Nat} {bs : List UInt8} {a : Nat} {c : List Lk} (w : World) (most : Int) (hl : bs.length ≤ 1099511627776) (hm1 : -9223372036854775808 ≤ most) (hm2 : most ≤ 9223372036854775807) (h : Rd w p bs a c) :
    Calls Tryz.prog 47 #[.pointer (some ⟨p, 0, none⟩), .int .i64 most] w (RdAns p bs w (.string (rdStr bs a c most).1) (rdStr bs a c most).2) := by
  have ha := h.at_le
  have c1 := h.c1
  have HRD := Lib.hid h
  clear h
  by_cases hc : c = []
  · subst hc
    cases hp : pstr bs a most with
    | mk o x =>
    have HP := Lib.hid hp
    cases o with
    | some sa =>
      obtain ⟨s, a'⟩ := sa
      have E : rdStr bs a [] most = (s, a', []) := by simp [rdStr, hp]
      rw [E]
      clear E hp
      refine via fun Q hQ => ?_
      go_enter Tryz.func47, Tryz.ntmps47
      go_wp2_with fail
      refine (rbad w HRD.out).mono ?_
      rintro e w1 ⟨rfl, rfl⟩
      go_wp2_with fail
      refine (rstr_ _ most hl hm1 hm2 HRD.out).mono ?_
      rintro e w2 ⟨hf, hs, hn⟩
      obtain ⟨rfl, hrd⟩ := hs s a' x HP.out
      have HR2 := Lib.hid hrd
      have HF := Lib.hid hf
      clear hs hn hrd hf
      go_wp2
      exact ⟨rfl, HR2.out, HF.out⟩
    | none =>
      have E : rdStr bs a [] most = (noB, a, [.at_ a, .num x]) := by simp [rdStr, hp]
      have hx : x ≠ 0 ∧ x = 6 ∨ x = 7 := by
        unfold pstr at hp
        split at hp
        · injection hp with _ hp; subst hp; exact .inl ⟨by decide, rfl⟩
        · split at hp
          · injection hp with _ hp; subst hp; exact .inr rfl
          · split at hp
            · injection hp with _ hp; subst hp; exact .inl ⟨by decide, rfl⟩
            · injection hp with hp; cases hp
      have hx0 : (x == 0) = false := by rcases hx with ⟨_, rfl⟩ | rfl <;> rfl
      have hx1 : x ≠ 0 := by rcases hx with ⟨_, rfl⟩ | rfl <;> decide
      have HX := Lib.hid hx1
      rw [E]
      clear E hp hx hx1
      refine via fun Q hQ => ?_
      go_enter Tryz.func47, Tryz.ntmps47
      go_wp2_with fail
      refine (rbad w HRD.out).mono ?_
      rintro e w1 ⟨rfl, rfl⟩
      go_wp2_with fail
      refine (rstr_ _ most hl hm1 hm2 HRD.out).mono ?_
      rintro e w2 ⟨hf, hs, hn⟩
      obtain ⟨rfl, at', hrd⟩ := hn x HP.out
      have HR2 := Lib.hid hrd
      have HF := Lib.hid hf
      clear hs hn hrd hf
      go_wp2_with fail
      refine (rfail _ a x HR2.out ha HX.out).mono ?_
      rintro e w3 ⟨rfl, hrd3, hf3⟩
      have HR3 := Lib.hid hrd3
      have HF3 := Lib.hid (HF.out.trans hf3 (fun _ _ h => h))
      clear hrd3 hf3
      go_wp2
      exact ⟨rfl, by simpa using HR3.out, HF3.out⟩
  · have E : rdStr bs a c most = (noB, a, c) := by simp [rdStr, hc]
    rw [E]
    have hd : decide (c ≠ []) = true := by simp [hc]
    refine via fun Q hQ => ?_
    go_enter Tryz.func47, Tryz.ntmps47
    go_wp2_with fail
    refine (rbad w HRD.out).mono ?_
    rintro e w1 ⟨rfl, rfl⟩
    rw [hd]
    go_wp2
    exact ⟨rfl, HRD.out, Fr.refl _ _⟩

theorem mErr {p : Nat} {bs : List UInt8} {a : Nat} {c : List Lk} (w : World) (hE : ErrT w) (h : Rd w p bs a c) :
    Calls Tryz.prog 46 #[.pointer (some ⟨p, 0, none⟩)] w (Ans w (.int .i64 (codeOf c))) := by
  obtain ⟨ve, c2, hc⟩ := h.c2
  refine via fun Q hQ => ?_
  go_enter Tryz.func46, Tryz.ntmps46
  go_wp2_with fail
  refine (fcode ve c w hE hc).mono ?_
  rintro e w1 ⟨rfl, hb⟩
  go_wp2
  exact ⟨rfl, hb⟩
/-- The end, asked: what is wrong then. -/
def rdEnd (bs : List UInt8) (a : Nat) (c : List Lk) : List Lk := if c = [] ∧ a < bs.length then bad6 a else c
theorem ErrT.set {w w' : World} {p : Nat} {cs : Array Value} (h : ErrT w) (hB : Blk w p cs 85) (h0 : ∀ u, cs[0]? ≠ some (rty u)) (hf : Fr (only p) w w') : ErrT w' := by
  unfold ErrT at *
  have hne : 0 ≠ p := by
    rintro rfl
    have := hB.cell 0
    rw [h] at this
    exact h0 _ this.symm
  exact (World.cell?_of_block (w := w) (hf.block _ (World.block_lt_of_cell? w _ h) (fun e => hne e))).trans h
theorem Rd.errT {w w' : World} {p : Nat} {bs : List UInt8} {a : Nat} {c : List Lk} (h : Rd w p bs a c) (hE : ErrT w) (hf : Fr (only p) w w') : ErrT w' := by
  obtain ⟨A, cp, ve, hB, _⟩ := h
  exact ErrT.set hE hB (fun u e => by simp [rty] at e) hf
def AnsFr (p : Nat) (bs : List UInt8) (w : World) (v : Value) (a : Nat) (c : List Lk) (e : Ending) (w' : World) : Prop := e = .returned v ∧ Rd w' p bs a c ∧ Fr (only p) w w'

set_option maxHeartbeats 1000000 in
theorem mEnd {p : Nat} {bs : List UInt8} {a : Nat} {c : List Lk} (w : World) (hE : ErrT w) (hl : bs.length ≤ 1099511627776) (h : Rd w p bs a c) :
    Calls Tryz.prog 21 #[.pointer (some ⟨p, 0, none⟩)] w (AnsFr p bs w (.int .i64 (codeOf (rdEnd bs a c))) a (rdEnd bs a c)) := by
  have HE := Lib.hid hE
  clear hE
  obtain ⟨A, cp, c0⟩ := h.c0
  have c1 := h.c1
  have ha := h.at_le
  have HRD := Lib.hid h
  obtain ⟨ve, c2, hc⟩ := h.c2
  clear h
  refine via fun Q hQ => ?_
  cases c with
  | nil =>
    obtain rfl : ve = .nilIface := hc
    by_cases hlt : a < bs.length
    · have E : rdEnd bs a [] = bad6 a := by simp [rdEnd, hlt]
      rw [E] at hQ
      clear E
      go_enter Tryz.func21, Tryz.ntmps21
      go_wp2_with fail
      have t0 : decide ((a : Int) < (bs.length : Int)) = true := by simpa using hlt
      go_quiet (fail)
      go_wp2_with fail
      refine (rfail _ a 6 (HRD.out.below (drew_below w nq)) ha (by decide)).mono ?_
      rintro e w2 ⟨rfl, hrd, hf⟩
      have hrd' : Rd w2 p bs a (bad6 a) := by simpa [bad6] using hrd
      have hf0 : Fr (only p) w w2 := (Fr.of_below (S := only p) (drew_below w nq)).trans hf (fun _ _ h => h)
      have HR := Lib.hid hrd'
      have HF := Lib.hid hf0
      clear hrd hrd' hf hf0
      go_wp2_with fail
      refine (mErr _ (HRD.out.errT HE.out HF.out) HR.out).mono ?_
      rintro e w3 ⟨rfl, hb⟩
      have HR3 := Lib.hid (HR.out.below hb)
      have HF3 := Lib.hid (HF.out.then_below hb)
      clear hb
      go_wp2
      exact ⟨rfl, HR3.out, HF3.out⟩
    · have E : rdEnd bs a [] = [] := by simp [rdEnd, hlt]
      rw [E] at hQ
      clear E
      go_enter Tryz.func21, Tryz.ntmps21
      go_wp2_with fail
      have t0 : decide ((a : Int) < (bs.length : Int)) = false := by simpa using hlt
      go_quiet (fail)
      go_wp2_with fail
      refine (mErr _ (HE.out.below (drew_below w nq)) (HRD.out.below (drew_below w nq))).mono ?_
      rintro e w3 ⟨rfl, hb⟩
      have HR3 := Lib.hid (HRD.out.below (below_then (drew_below w nq) hb))
      have HF3 := Lib.hid (Fr.of_below (S := only p) (below_then (drew_below w nq) hb))
      clear hb
      go_wp2
      exact ⟨rfl, HR3.out, HF3.out⟩
  | cons x r =>
    have E : rdEnd bs a (x :: r) = x :: r := by simp [rdEnd]
    rw [E] at hQ
    clear E
    obtain ⟨b, u, rfl, _⟩ := hc
    go_enter Tryz.func21, Tryz.ntmps21
    go_wp2_with fail
    go_quiet (fail)
    go_wp2_with fail
    refine (mErr _ (HE.out.below (drew_below w nq)) (HRD.out.below (drew_below w nq))).mono ?_
    rintro e w3 ⟨rfl, hb⟩
    have HR3 := Lib.hid (HRD.out.below (below_then (drew_below w nq) hb))
    have HF3 := Lib.hid (Fr.of_below (S := only p) (below_then (drew_below w nq) hb))
    clear hb
    go_wp2
    exact ⟨rfl, HR3.out, HF3.out⟩

theorem oof (A : Option Addr) (cp : Nat) (bs : List UInt8) (w : World) (hcp : bs.length ≤ cp) (hr : RowsAt w 1 A (bys bs)) :
    Calls Tryz.prog 17 #[.slice A bs.length cp] w (fun e w' => e = .returned (.pointer (some ⟨w.heap.size, 0, none⟩)) ∧ Rd w' w.heap.size bs 0 [] ∧ Below w.heap.size w w') := by
  have HR := Lib.hid hr
  clear hr
  refine via fun Q hQ => ?_
  go_enter Tryz.func17, Tryz.ntmps17
  go_wp2
  have hb : Below w.heap.size w (w.alloc (.cells #[.slice A bs.length cp, .int .i64 0, .nilIface] 85)) := (Below.refl _ _).alloc (Nat.le_refl _) _
  refine ⟨rfl, ⟨A, cp, .nilIface, Blk.new _ _ _, hcp, Nat.zero_le _, HR.out.below hb, fun hne a ha => ?_, rfl⟩, hb⟩
  obtain ⟨x, xs, rfl⟩ := List.exists_cons_of_ne_nil hne
  obtain ⟨b, o, e, hc⟩ := HR.out 0 (enB x) rfl
  rw [e] at ha
  injection ha with ha
  subst ha
  exact World.block_lt_of_cell? w _ (hc 0 _ rfl)
end Go.Proofs.YtlekfpeonehggaaGreatDoor
end

section
set_option linter.unusedVariables false
namespace Go.Proofs.BL

theorem val_dig : ∀ n : Nat, val (dig n) = n := by
  intro n
  induction n using Nat.strongRecOn with
  | ind n ih =>
    by_cases h : n = 0
    · subst h; rw [dig_zero]; rfl
    · rw [dig_pos h, val_snoc, ih (n / 256) (Nat.div_lt_self (Nat.pos_of_ne_zero h) (by decide))]
      simp
      omega
theorem dig_ne {n : Nat} (h : n ≠ 0) : dig n ≠ [] := by rw [dig_pos h]; simp
theorem dig_head : ∀ n : Nat, (dig n).head? ≠ some 0 := by
  intro n
  induction n using Nat.strongRecOn with
  | ind n ih =>
    by_cases h : n = 0
    · subst h; rw [dig_zero]; simp
    · rw [dig_pos h]
      by_cases h2 : n / 256 = 0
      · rw [h2, dig_zero]
        intro e
        have e1 : UInt8.ofNat n = 0 := by simpa using e
        have e2 := congrArg UInt8.toNat e1
        simp at e2
        omega
      · have := ih (n / 256) (Nat.div_lt_self (Nat.pos_of_ne_zero h) (by decide))
        obtain ⟨x, r, e⟩ := List.exists_cons_of_ne_nil (dig_ne h2)
        rw [e] at this ⊢
        simpa using this
theorem dig_val : ∀ l : List UInt8, l.head? ≠ some 0 → dig (val l) = l := by
  intro l
  rw [← List.reverse_reverse l]
  generalize l.reverse = k
  induction k with
  | nil => intro _; exact dig_zero
  | cons x k ih =>
    intro h
    rw [List.reverse_cons] at h ⊢
    have hx := x.toNat_lt
    cases hk : k.reverse with
    | nil =>
      rw [hk] at h
      have hx0 : x.toNat ≠ 0 := fun e => h (by rw [show x = 0 from UInt8.toNat_inj.1 (by simpa using e)]; rfl)
      have hv : val ([] ++ [x]) = x.toNat := by rw [val_snoc]; simp [val]
      rw [hv, dig_pos hx0, show x.toNat / 256 = 0 from by omega, dig_zero]
      simp
    | cons y r =>
      rw [hk] at h ih
      have ih' := ih (by simpa using h)
      have hne : val (y :: r) ≠ 0 := fun e => by rw [e, dig_zero] at ih'; cases ih'
      rw [val_snoc, dig_pos (by omega), show (val (y :: r) * 256 + x.toNat) / 256 = val (y :: r) from by omega, ih']
      congr 2
      apply UInt8.toNat_inj.1
      simp
theorem natB_pos (n : Nat) : (natB n).length = (dig n).length + 1 := by simp [natB]
theorem pnat_natB {n : Nat} (h : n < 2 ^ 64) (rest : List UInt8) : pnat (natB n ++ rest) = some (n, (natB n).length) := by
  have h8 := dig_len 8 n h
  have hk : (UInt8.ofNat (dig n).length).toNat = (dig n).length := by simp; omega
  rw [natB, List.cons_append, pnat, hk, if_neg (by omega), if_neg (by simp), List.take_left, if_neg (dig_head n), val_dig]
  simp
theorem pnat_inv {l : List UInt8} {n k : Nat} (h : pnat l = some (n, k)) : l.take k = natB n ∧ k = (natB n).length := by
  cases l with
  | nil => cases h
  | cons x r =>
    simp only [pnat] at h
    split at h
    · cases h
    · split at h
      · cases h
      · split at h
        · cases h
        · rename_i h1 h2 h3
          injection h with h
          injection h with h4 h5
          subst h4 h5
          have hd := dig_val _ h3
          have hl : (r.take x.toNat).length = x.toNat := by rw [List.length_take]; omega
          rw [natB, hd, hl]
          refine ⟨by simp, by simp; omega⟩
theorem pnat_cut {n : Nat} (h : n < 2 ^ 64) (rest : List UInt8) {k : Nat} (hk : k < (natB n).length) : pnat ((natB n ++ rest).take k) = none := by
  have h8 := dig_len 8 n h
  have hkk : (UInt8.ofNat (dig n).length).toNat = (dig n).length := by simp; omega
  rw [natB_pos] at hk
  rw [List.take_append_of_le_length (by rw [natB_pos]; omega)]
  cases k with
  | zero => rfl
  | succ k =>
    rw [natB, List.take_succ_cons, pnat, hkk, if_neg (by omega), if_pos (by rw [List.length_take]; omega)]
end Go.Proofs.BL
end
