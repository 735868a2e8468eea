/- Package octet: the reader's Str, Err, Place, Left, End, Yes; Of. -/
import Derived.Test.YtgijnchfonfeaaaDoorOh
namespace Go.Proofs.YtgijnchfonfeaaaDoor
open Go.Proofs.BL Go.Proofs.Peel Go.RowKit
set_option maxRecDepth 100000
set_option linter.unusedVariables false

abbrev noB : ByteArray := ⟨#[]⟩
def bad7 (a : Nat) : List Lk := [.at_ a, .num 7]
/-- What the next text is; what is wrong with it; where the reader stands. -/
def pstr (bs : List UInt8) (a : Nat) (most : Int) : Option (ByteArray × Nat) × Int :=
  match pnat (bs.drop a) with
  | none => (none, 6)
  | some (n, k) => if (n : Int) > max most 0 then (none, 7) else if n > bs.length - (a + k) then (none, 6) else (some (⟨((bs.drop (a + k)).take n).toArray⟩, a + k + n), 0)
def rdStr (bs : List UInt8) (a : Nat) (c : List Lk) (most : Int) : ByteArray × Nat × List Lk :=
  if c = [] then (match pstr bs a most with | (some (s, a'), _) => (s, a', []) | (none, e) => (noB, a, [.at_ a, .num e])) else (noB, a, c)
def StrPost (p : Nat) (bs : List UInt8) (a : Nat) (most : Int) (c : List Lk) (w : World) (e : Ending) (w' : World) : Prop :=
  Fr (only p) w w' ∧
  (∀ s a' x, pstr bs a most = (some (s, a'), x) → e = .returned (.tuple #[.string s, .int .i64 0]) ∧ Rd w' p bs a' c) ∧
  (∀ x, pstr bs a most = (none, x) → e = .returned (.tuple #[.string noB, .int .i64 x]) ∧ ∃ a', Rd w' p bs a' c)

set_option maxHeartbeats 1000000 in
theorem rstr_ {p : Nat} {bs : List UInt8} {a : Nat} {c : List Lk} (w : World) (most : Int) (hl : bs.length ≤ 1099511627776) (hm1 : -9223372036854775808 ≤ most) (hm2 : most ≤ 9223372036854775807) (h : Rd w p bs a c) :
    Calls Tryd.prog 19 #[.pointer (some ⟨p, 0, none⟩), .int .i64 most] w (StrPost p bs a most c w) := by
  refine via fun Q hQ => ?_
  go_enter Tryd.func19, Tryd.ntmps19
  go_wp2_with fail
  refine (rnat_ _ hl h).mono ?_
  rintro e w1 ⟨hf, hs, hn⟩
  have HF := Lib.hid hf
  cases hp : pnat (bs.drop a) with
  | none =>
    obtain ⟨rfl, at', hrd⟩ := hn hp
    have HR := Lib.hid hrd
    have HP := Lib.hid (show pstr bs a most = (none, 6) by simp only [pstr, hp])
    clear hs hn hrd hf hp h
    go_wp2
    exact ⟨HF.out, (fun s a' x h => by rw [HP.out] at h; cases h), fun x h => by rw [HP.out] at h; injection h with _ h; subst h; exact ⟨rfl, _, HR.out⟩⟩
  | some nk =>
    obtain ⟨n, k⟩ := nk
    obtain ⟨rfl, hrd⟩ := hs n k hp
    have hlt := (pnat_len hp).2.2
    have hmx : 0 ≤ max most 0 ∧ max most 0 ≤ 9223372036854775807 := by omega
    have HR := Lib.hid hrd
    have hpe : pstr bs a most = if (n : Int) > max most 0 then (none, 7) else if n > bs.length - (a + k) then (none, 6) else (some (⟨((bs.drop (a + k)).take n).toArray⟩, a + k + n), 0) := by simp only [pstr, hp]
    have HPE := Lib.hid hpe
    clear hs hn hrd hf hp h hpe
    by_cases hb : (n : Int) > max most 0
    · have HP := Lib.hid (HPE.out.trans (if_pos hb))
      go_wp2
      exact ⟨HF.out, (fun s a' x h => by rw [HP.out] at h; cases h), fun x h => by rw [HP.out] at h; injection h with _ h; subst h; exact ⟨rfl, _, HR.out⟩⟩
    · have HNB := Lib.hid (Int.not_lt.1 hb)
      go_wp2_with fail
      refine (rraw _ n hlt hl HR.out).mono ?_
      rintro e w2 ⟨hf2, hy, hn⟩
      have HF2 := Lib.hid (HF.out.trans hf2 (fun _ _ h => h))
      by_cases hb2 : n > bs.length - (a + k)
      · obtain ⟨rfl, hrd⟩ := hn (by clear hy hn; omega)
        have HR2 := Lib.hid hrd
        have HP := Lib.hid (HPE.out.trans ((if_neg (Int.not_lt.2 HNB.out)).trans (if_pos hb2)))
        clear hy hn hf2 hrd
        go_wp2
        exact ⟨HF2.out, (fun s a' x h => by rw [HP.out] at h; cases h), fun x h => by rw [HP.out] at h; injection h with _ h; subst h; exact ⟨rfl, _, HR2.out⟩⟩
      · obtain ⟨A, cp, rfl, hcp, hr, _, hrd⟩ := hy (by clear hy hn; omega)
        have hle := HR.out.at_le
        have hcv := run_str (P := Tryd.prog) w2 22 9 5 Tryd.underlying22 Tryd.underlying5 Tryd.underlying9 A n cp ((bs.drop (a + k)).take n) (by rw [List.length_take, List.length_drop]; clear hy hn; omega) hr
        have HR2 := Lib.hid hrd
        have HP := Lib.hid (HPE.out.trans ((if_neg (Int.not_lt.2 HNB.out)).trans (if_neg hb2)))
        generalize (⟨((bs.drop (a + k)).take n).toArray⟩ : ByteArray) = sx at hcv HP
        clear hy hn hf2 hrd hr
        go_wp2
        exact ⟨HF2.out, (fun s a' x h => by rw [HP.out] at h; injection h with h1 h2; injection h1 with h1; injection h1 with h1 h3; subst h1 h3; exact ⟨rfl, HR2.out⟩), fun x h => by rw [HP.out] at h; cases h⟩

set_option maxHeartbeats 1000000 in
theorem mStr {p : Nat} {bs : List UInt8} {a : Nat} {c : List Lk} (w : World) (most : Int) (hl : bs.length ≤ 1099511627776) (hm1 : -9223372036854775808 ≤ most) (hm2 : most ≤ 9223372036854775807) (h : Rd w p bs a c) :
    Calls Tryd.prog 7 #[.pointer (some ⟨p, 0, none⟩), .int .i64 most] w (RdAns p bs w (.string (rdStr bs a c most).1) (rdStr bs a c most).2) := by
  have ha := h.at_le
  have c1 := h.c1
  have HRD := Lib.hid h
  clear h
  by_cases hc : c = []
  · subst hc
    cases hp : pstr bs a most with
    | mk o x =>
    have HP := Lib.hid hp
    cases o with
    | some sa =>
      obtain ⟨s, a'⟩ := sa
      have E : rdStr bs a [] most = (s, a', []) := by simp [rdStr, hp]
      rw [E]
      clear E hp
      refine via fun Q hQ => ?_
      go_enter Tryd.func7, Tryd.ntmps7
      go_wp2_with fail
      refine (rbad w HRD.out).mono ?_
      rintro e w1 ⟨rfl, rfl⟩
      go_wp2_with fail
      refine (rstr_ _ most hl hm1 hm2 HRD.out).mono ?_
      rintro e w2 ⟨hf, hs, hn⟩
      obtain ⟨rfl, hrd⟩ := hs s a' x HP.out
      have HR2 := Lib.hid hrd
      have HF := Lib.hid hf
      clear hs hn hrd hf
      go_wp2
      exact ⟨rfl, HR2.out, HF.out⟩
    | none =>
      have E : rdStr bs a [] most = (noB, a, [.at_ a, .num x]) := by simp [rdStr, hp]
      have hx : x ≠ 0 ∧ x = 6 ∨ x = 7 := by
        unfold pstr at hp
        split at hp
        · injection hp with _ hp; subst hp; exact .inl ⟨by decide, rfl⟩
        · split at hp
          · injection hp with _ hp; subst hp; exact .inr rfl
          · split at hp
            · injection hp with _ hp; subst hp; exact .inl ⟨by decide, rfl⟩
            · injection hp with hp; cases hp
      have hx0 : (x == 0) = false := by rcases hx with ⟨_, rfl⟩ | rfl <;> rfl
      have hx1 : x ≠ 0 := by rcases hx with ⟨_, rfl⟩ | rfl <;> decide
      have HX := Lib.hid hx1
      rw [E]
      clear E hp hx hx1
      refine via fun Q hQ => ?_
      go_enter Tryd.func7, Tryd.ntmps7
      go_wp2_with fail
      refine (rbad w HRD.out).mono ?_
      rintro e w1 ⟨rfl, rfl⟩
      go_wp2_with fail
      refine (rstr_ _ most hl hm1 hm2 HRD.out).mono ?_
      rintro e w2 ⟨hf, hs, hn⟩
      obtain ⟨rfl, at', hrd⟩ := hn x HP.out
      have HR2 := Lib.hid hrd
      have HF := Lib.hid hf
      clear hs hn hrd hf
      go_wp2_with fail
      refine (rfail _ a x HR2.out ha HX.out).mono ?_
      rintro e w3 ⟨rfl, hrd3, hf3⟩
      have HR3 := Lib.hid hrd3
      have HF3 := Lib.hid (HF.out.trans hf3 (fun _ _ h => h))
      clear hrd3 hf3
      go_wp2
      exact ⟨rfl, by simpa using HR3.out, HF3.out⟩
  · have E : rdStr bs a c most = (noB, a, c) := by simp [rdStr, hc]
    rw [E]
    have hd : decide (c ≠ []) = true := by simp [hc]
    refine via fun Q hQ => ?_
    go_enter Tryd.func7, Tryd.ntmps7
    go_wp2_with fail
    refine (rbad w HRD.out).mono ?_
    rintro e w1 ⟨rfl, rfl⟩
    rw [hd]
    go_wp2
    exact ⟨rfl, HRD.out, Fr.refl _ _⟩

theorem mErr {p : Nat} {bs : List UInt8} {a : Nat} {c : List Lk} (w : World) (hE : ErrT w) (h : Rd w p bs a c) :
    Calls Tryd.prog 20 #[.pointer (some ⟨p, 0, none⟩)] w (Ans w (.int .i64 (codeOf c))) := by
  obtain ⟨ve, c2, hc⟩ := h.c2
  refine via fun Q hQ => ?_
  go_enter Tryd.func20, Tryd.ntmps20
  go_wp2_with fail
  refine (fcode ve c w hE hc).mono ?_
  rintro e w1 ⟨rfl, hb⟩
  go_wp2
  exact ⟨rfl, hb⟩
theorem mPlace {p : Nat} {bs : List UInt8} {a : Nat} {c : List Lk} (w : World) (hE : ErrT w) (h : Rd w p bs a c) :
    Calls Tryd.prog 21 #[.pointer (some ⟨p, 0, none⟩)] w (Ans w (.int .i64 (placeOf c))) := by
  obtain ⟨ve, c2, hc⟩ := h.c2
  refine via fun Q hQ => ?_
  go_enter Tryd.func21, Tryd.ntmps21
  go_wp2_with fail
  refine (fplace ve c w hE hc).mono ?_
  rintro e w1 ⟨rfl, hb⟩
  go_wp2
  exact ⟨rfl, hb⟩
/-- The end, asked: what is wrong then. -/
def rdEnd (bs : List UInt8) (a : Nat) (c : List Lk) : List Lk := if c = [] ∧ a < bs.length then bad6 a else c
theorem ErrT.set {w w' : World} {p : Nat} {cs : Array Value} (h : ErrT w) (hB : Blk w p cs 42) (h0 : ∀ u, cs[0]? ≠ some (rty u)) (hf : Fr (only p) w w') : ErrT w' := by
  unfold ErrT at *
  have hne : 0 ≠ p := by
    rintro rfl
    have := hB.cell 0
    rw [h] at this
    exact h0 _ this.symm
  exact (World.cell?_of_block (w := w) (hf.block _ (World.block_lt_of_cell? w _ h) (fun e => hne e))).trans h
theorem Rd.errT {w w' : World} {p : Nat} {bs : List UInt8} {a : Nat} {c : List Lk} (h : Rd w p bs a c) (hE : ErrT w) (hf : Fr (only p) w w') : ErrT w' := by
  obtain ⟨A, cp, ve, hB, _⟩ := h
  exact ErrT.set hE hB (fun u e => by simp [rty] at e) hf
def AnsFr (p : Nat) (bs : List UInt8) (w : World) (v : Value) (a : Nat) (c : List Lk) (e : Ending) (w' : World) : Prop := e = .returned v ∧ Rd w' p bs a c ∧ Fr (only p) w w'

set_option maxHeartbeats 1000000 in
theorem mEnd {p : Nat} {bs : List UInt8} {a : Nat} {c : List Lk} (w : World) (hE : ErrT w) (hl : bs.length ≤ 1099511627776) (h : Rd w p bs a c) :
    Calls Tryd.prog 9 #[.pointer (some ⟨p, 0, none⟩)] w (AnsFr p bs w (.int .i64 (codeOf (rdEnd bs a c))) a (rdEnd bs a c)) := by
  have HE := Lib.hid hE
  clear hE
  obtain ⟨A, cp, c0⟩ := h.c0
  have c1 := h.c1
  have ha := h.at_le
  have HRD := Lib.hid h
  obtain ⟨ve, c2, hc⟩ := h.c2
  clear h
  refine via fun Q hQ => ?_
  cases c with
  | nil =>
    obtain rfl : ve = .nilIface := hc
    by_cases hlt : a < bs.length
    · have E : rdEnd bs a [] = bad6 a := by simp [rdEnd, hlt]
      rw [E] at hQ
      clear E
      go_enter Tryd.func9, Tryd.ntmps9
      go_wp2_with fail
      have t0 : decide ((a : Int) < (bs.length : Int)) = true := by simpa using hlt
      go_quiet (fail)
      go_wp2_with fail
      refine (rfail _ a 6 (HRD.out.below (drew_below w nq)) ha (by decide)).mono ?_
      rintro e w2 ⟨rfl, hrd, hf⟩
      have hrd' : Rd w2 p bs a (bad6 a) := by simpa [bad6] using hrd
      have hf0 : Fr (only p) w w2 := (Fr.of_below (S := only p) (drew_below w nq)).trans hf (fun _ _ h => h)
      have HR := Lib.hid hrd'
      have HF := Lib.hid hf0
      clear hrd hrd' hf hf0
      go_wp2_with fail
      refine (mErr _ (HRD.out.errT HE.out HF.out) HR.out).mono ?_
      rintro e w3 ⟨rfl, hb⟩
      have HR3 := Lib.hid (HR.out.below hb)
      have HF3 := Lib.hid (HF.out.then_below hb)
      clear hb
      go_wp2
      exact ⟨rfl, HR3.out, HF3.out⟩
    · have E : rdEnd bs a [] = [] := by simp [rdEnd, hlt]
      rw [E] at hQ
      clear E
      go_enter Tryd.func9, Tryd.ntmps9
      go_wp2_with fail
      have t0 : decide ((a : Int) < (bs.length : Int)) = false := by simpa using hlt
      go_quiet (fail)
      go_wp2_with fail
      refine (mErr _ (HE.out.below (drew_below w nq)) (HRD.out.below (drew_below w nq))).mono ?_
      rintro e w3 ⟨rfl, hb⟩
      have HR3 := Lib.hid (HRD.out.below (below_then (drew_below w nq) hb))
      have HF3 := Lib.hid (Fr.of_below (S := only p) (below_then (drew_below w nq) hb))
      clear hb
      go_wp2
      exact ⟨rfl, HR3.out, HF3.out⟩
  | cons x r =>
    have E : rdEnd bs a (x :: r) = x :: r := by simp [rdEnd]
    rw [E] at hQ
    clear E
    obtain ⟨b, u, rfl, _⟩ := hc
    go_enter Tryd.func9, Tryd.ntmps9
    go_wp2_with fail
    go_quiet (fail)
    go_wp2_with fail
    refine (mErr _ (HE.out.below (drew_below w nq)) (HRD.out.below (drew_below w nq))).mono ?_
    rintro e w3 ⟨rfl, hb⟩
    have HR3 := Lib.hid (HRD.out.below (below_then (drew_below w nq) hb))
    have HF3 := Lib.hid (Fr.of_below (S := only p) (below_then (drew_below w nq) hb))
    clear hb
    go_wp2
    exact ⟨rfl, HR3.out, HF3.out⟩

theorem oof (A : Option Addr) (cp : Nat) (bs : List UInt8) (w : World) (hcp : bs.length ≤ cp) (hr : RowsAt w 1 A (bys bs)) :
    Calls Tryd.prog 4 #[.slice A bs.length cp] w (fun e w' => e = .returned (.pointer (some ⟨w.heap.size, 0, none⟩)) ∧ Rd w' w.heap.size bs 0 [] ∧ Below w.heap.size w w') := by
  have HR := Lib.hid hr
  clear hr
  refine via fun Q hQ => ?_
  go_enter Tryd.func4, Tryd.ntmps4
  go_wp2
  have hb : Below w.heap.size w (w.alloc (.cells #[.slice A bs.length cp, .int .i64 0, .nilIface] 42)) := (Below.refl _ _).alloc (Nat.le_refl _) _
  refine ⟨rfl, ⟨A, cp, .nilIface, Blk.new _ _ _, hcp, Nat.zero_le _, HR.out.below hb, fun hne a ha => ?_, rfl⟩, hb⟩
  obtain ⟨x, xs, rfl⟩ := List.exists_cons_of_ne_nil hne
  obtain ⟨b, o, e, hc⟩ := HR.out 0 (enB x) rfl
  rw [e] at ha
  injection ha with ha
  subst ha
  exact World.block_lt_of_cell? w _ (hc 0 _ rfl)
end Go.Proofs.YtgijnchfonfeaaaDoor
