/- Package octet: signed numbers, texts, bools, lists put into bytes. Package octet: the reader: what it is, and its inner functions. Package octet: the reader's raw and nat. -/
import Derived.Test.YtlekfpeonehggaaGreatDoorJ04
import Derived.Laws.Bits64
import Derived.Great.Walk
import Derived.Deep.QuietTactic
import Derived.BigQuiet
section
namespace Go.Proofs.YtlekfpeonehggaaGreatDoor
open Go.Proofs.BL Go.Proofs.Peel Go.RowKit
set_option maxRecDepth 100000
set_option linter.unusedVariables false

theorem zig_lt (m : Int) (h1 : -9223372036854775808 ≤ m) (h2 : m ≤ 9223372036854775807) : zig m < 2 ^ 64 := by
  unfold zig; split <;> omega
theorem zig_bits (m : Int) (h1 : -9223372036854775808 ≤ m) (h2 : m ≤ 9223372036854775807) : bits BinOp.xor IntKind.u64 (IntKind.u64.wrap (IntKind.u64.wrap m * 2)) (IntKind.u64.wrap (m / 9223372036854775808)) = (zig m : Int) := by
  simp only [IntKind.wrap_u64]
  unfold zig
  by_cases h : m < 0
  · rw [if_pos h, show m / 9223372036854775808 % 18446744073709551616 = 18446744073709551615 from by omega, xor_ones _ (by omega) (by omega)]
    omega
  · rw [if_neg h, show m / 9223372036854775808 % 18446744073709551616 = 0 from by omega, xor_zero _ (by omega) (by omega)]
    omega

set_option maxHeartbeats 400000 in
theorem onum (m : Int) (w : World) (h1 : -9223372036854775808 ≤ m) (h2 : m ≤ 9223372036854775807) : Calls Tryz.prog 56 #[.int .i64 m] w (ByAns w (natB (zig m))) := by
  refine via fun Q hQ => ?_
  go_enter Tryz.func56, Tryz.ntmps56
  go_wp2_with fail
  rw [show bits BinOp.xor IntKind.u64 (IntKind.u64.wrap (IntKind.u64.wrap m * 2)) (IntKind.u64.wrap (m / 9223372036854775808)) = (zig m : Int) from zig_bits m h1 h2]
  refine (onat (zig m) _ (zig_lt m h1 h2)).mono ?_
  rintro e w1 ⟨v1, rfl, ho, hb⟩
  go_wp2
  exact ⟨_, rfl, ho, hb⟩

set_option maxHeartbeats 400000 in
theorem ostr (s : ByteArray) (w : World) (hs : s.size ≤ 70000000000) : Calls Tryz.prog 55 #[.string s] w (ByAns w (strB s)) := by
  refine via fun Q hQ => ?_
  go_enter Tryz.func55, Tryz.ntmps55
  go_wp2_with fail
  refine (onat s.size _ (by omega)).mono ?_
  rintro e w1 ⟨v1, rfl, ho, hb⟩
  have hln : (natB s.size).length + s.size ≤ 140737488355328 := by have := natB_len s.size (by omega); omega
  go_wp2_with (at_builtin; go_must (refine appendS w.heap.size 5 rfl (.tmp 6) (.tmp 7) 23 9 rfl Tryz.underlying23 Tryz.underlying9 (by kernel_rfl) v1 (natB s.size) s rfl rfl ho hb.size hln ?_); intro v2 w2 hown2 hfr2)
  exact ⟨_, rfl, hown2, ho.fr_below hb hb.size hfr2⟩

set_option maxHeartbeats 1000000 in
theorem oseq (A : Option Addr) (cp : Nat) (ls : List (List UInt8)) (vs : List Value) (w : World) (hl : vs.length = ls.length) (hcp : ls.length ≤ cp)
    (hr : RowsAt w 1 A (vs.map fun v => [v])) (hv : ∀ (k : Nat) v l, vs[k]? = some v → ls[k]? = some l → ∃ (B : Option Addr) (c : Nat), v = Value.slice B l.length c ∧ (B = none → c = 0) ∧ RowsAt w 1 B (bys l)) (hm : ls.flatten.length ≤ 140737488355328) (hm2 : ls.length ≤ 1000000) :
    Calls Tryz.prog 54 #[.slice A ls.length cp] w (ByAns w ls.flatten) := by
  refine via fun Q hQ => ?_
  go_enter Tryz.func54, Tryz.ntmps54
  go_wp2
  go_loopg [3, 8] ls.length (fun g o i wr => ∃ k : Nat, k ≤ ls.length ∧ g = ls.length - k ∧ i = .int .i64 k ∧ Own wr w.heap.size 5 1 o (bys (ls.take k).flatten) ∧ Below w.heap.size w wr)
  case atStart => exact ⟨0, Nat.zero_le _, rfl, rfl, Own.nil _ _ _ _, Below.refl _ _⟩
  case round =>
    obtain ⟨k, hk, rfl, rfl, ho, hb⟩ := hrel
    by_cases hlt : k < ls.length
    · obtain ⟨v, hvk⟩ : ∃ v, vs[k]? = some v := ⟨vs[k]'(by omega), List.getElem?_eq_getElem (by omega)⟩
      obtain ⟨l, hlk⟩ : ∃ l, ls[k]? = some l := ⟨ls[k]'(by omega), List.getElem?_eq_getElem (by omega)⟩
      obtain ⟨b, off, rfl, hc⟩ := hr k [v] (by rw [List.getElem?_map, hvk]; rfl)
      have c0 : wr.cell? ⟨b, off + k, none⟩ = some v := by
        have := (hb.cell (World.block_lt_of_cell? w _ (hc 0 v rfl))).trans (hc 0 v rfl)
        rwa [Nat.mul_one, Nat.add_zero] at this
      obtain ⟨B, c, rfl, hBc, hB⟩ := hv k v l hvk hlk
      have hfl : (ls.take (k + 1)).flatten = (ls.take k).flatten ++ l := by rw [List.take_add_one, hlk]; simp
      have hle : (bys (ls.take k).flatten).length * 1 + 0 + (bys l).length * 1 ≤ 140737488355328 := by
        have h1 : (ls.take (k + 1)).flatten.length ≤ ls.flatten.length := flat_take ls (k + 1)
        rw [hfl, List.length_append] at h1
        simp only [bys_len]; omega
      have HR := Lib.hid (hB.below hb)
      have HF := Lib.hid hfl
      have HO := Lib.hid ho
      have HB := Lib.hid hb
      have HBc := Lib.hid hBc
      have HLE := Lib.hid hle
      clear hr hv hvk hlk hc hB hfl ho hb hBc hle hl
      go_wp2_with (at_builtin; go_must (refine appendN w.heap.size 5 1 1 (.int .u8 0) rfl (.tmp 12) (.tmp 13) 23 rfl Tryz.underlying23 (by kernel_rfl) rfl (by decide) (by decide) u3 (bys (ls.take k).flatten) (bys l) rfl B l.length c rfl (bys_len l).symm HBc.out HR.out (bys_one _) (bys_cell _) HO.out HB.out.size (by have := HLE.out; omega) ?_); intro v1 w1 hown1 hfr1)
      go_roundg (ls.length - (k + 1))
      case measure => omega
      case rel => exact ⟨k + 1, hlt, rfl, by go_num, by rw [HF.out, ← bys_app]; exact hown1, HO.out.fr_below HB.out HB.out.size hfr1⟩
    · obtain rfl : k = ls.length := by omega
      rw [List.take_length] at ho
      have HO := Lib.hid ho
      have HB := Lib.hid hb
      clear ho hb hr hv
      go_wp2
      exact ⟨_, rfl, HO.out, HB.out⟩

end Go.Proofs.YtlekfpeonehggaaGreatDoor
end

section
namespace Go.Proofs.YtlekfpeonehggaaGreatDoor
open Go.Proofs.BL Go.Proofs.Peel Go.RowKit
set_option maxRecDepth 100000
set_option linter.unusedVariables false

/-- A reader at block p: its bytes, its place, what was wrong. -/
def Rd (w : World) (p : Nat) (bs : List UInt8) (at_ : Nat) (c : List Lk) : Prop :=
  ∃ A cp ve, Blk w p #[.slice A bs.length cp, .int .i64 at_, ve] 85 ∧ bs.length ≤ cp ∧ at_ ≤ bs.length ∧ RowsAt w 1 A (bys bs) ∧ (bs ≠ [] → ∀ a, A = some a → a.block < p) ∧ Chn w ve c

theorem lt_ne {A : Option Addr} {bs : List UInt8} {p : Nat} (h : bs ≠ [] → ∀ a, A = some a → a.block < p) : bs ≠ [] → ∀ a, A = some a → a.block ≠ p := fun hn a ha => Nat.ne_of_lt (h hn a ha)
theorem rows_set {w : World} {A : Option Addr} {bs : List UInt8} {p : Nat} (h : RowsAt w 1 A (bys bs)) (hp : bs ≠ [] → ∀ a, A = some a → a.block ≠ p) {w' : World} (hf : Fr (only p) w w') : RowsAt w' 1 A (bys bs) := by
  by_cases hb : bs = []
  · subst hb; exact RowsAt.nil _ _ _
  · exact h.fr hf (fun a ha => hp hb a ha)
theorem chn_set {w w' : World} {p : Nat} {cs : Array Value} (hB : Blk w p cs 85) (hf : Fr (only p) w w') {c : List Lk} {v : Value} (h : Chn w v c) : Chn w' v c :=
  h.fr hf (fun k cs' t f hk hh => by
    cases hk
    unfold Blk at hB
    rw [hB] at hh
    injection hh with hh
    injection hh with _ e
    subst e
    decide)
theorem Rd.below {w w' : World} {p : Nat} {bs : List UInt8} {at_ : Nat} {c : List Lk} (h : Rd w p bs at_ c) (hb : Below w.heap.size w w') : Rd w' p bs at_ c := by
  obtain ⟨A, cp, ve, hB, h1, h2, hr, hp, hc⟩ := h
  exact ⟨A, cp, ve, hB.below hb, h1, h2, hr.below hb, hp, hc.below hb⟩

theorem rbad_nil (w : World) : Calls Tryz.prog 41 #[.pointer none] w (fun e w' => e = .returned (.bool true) ∧ w' = w) := by
  refine via fun Q hQ => ?_
  go_enter Tryz.func41, Tryz.ntmps41
  go_wp2
theorem rbad {p : Nat} {bs : List UInt8} {at_ : Nat} {c : List Lk} (w : World) (h : Rd w p bs at_ c) : Calls Tryz.prog 41 #[.pointer (some ⟨p, 0, none⟩)] w (fun e w' => e = .returned (.bool (decide (c ≠ []))) ∧ w' = w) := by
  obtain ⟨A, cp, ve, hB, _, _, _, _, hc⟩ := h
  have c2 : w.cell? ⟨p, 2, none⟩ = some ve := hB.at_ 2 rfl
  clear hB
  refine via fun Q hQ => ?_
  cases c with
  | nil =>
    obtain rfl : ve = .nilIface := hc
    go_enter Tryz.func41, Tryz.ntmps41
    go_wp2
  | cons x r =>
    obtain ⟨b, u, rfl, _⟩ := hc
    go_enter Tryz.func41, Tryz.ntmps41
    go_wp2

set_option maxHeartbeats 1000000 in
theorem rfail {p : Nat} {bs : List UInt8} {at_ : Nat} {c : List Lk} (w : World) (from_ : Nat) (e : Int) (h : Rd w p bs at_ c) (hfrom : from_ ≤ bs.length) (he : e ≠ 0) :
    Calls Tryz.prog 43 #[.pointer (some ⟨p, 0, none⟩), .int .i64 from_, .int .i64 e] w (fun r w' => r = .returned (.tuple #[]) ∧ Rd w' p bs from_ (if c = [] then [.at_ from_, .num e] else c) ∧ Fr (only p) w w') := by
  obtain ⟨A, cp, ve, hB, h1, h2, hr, hp, hc⟩ := h
  have c0 : w.cell? ⟨p, 0, none⟩ = some (.slice A bs.length cp) := hB.at_ 0 rfl
  have c1 : w.cell? ⟨p, 1, none⟩ = some (.int .i64 at_) := hB.at_ 1 rfl
  have c2 : w.cell? ⟨p, 2, none⟩ = some ve := hB.at_ 2 rfl
  have f1 := hB.free 1
  have HB := Lib.hid hB
  have HR := Lib.hid hr
  have HP := Lib.hid hp
  clear hB hr hp
  refine via fun Q hQ => ?_
  cases c with
  | nil =>
    obtain rfl : ve = .nilIface := hc
    go_enter Tryz.func43, Tryz.ntmps43
    go_wp2_with fail
    refine (fnew e _).mono ?_
    rintro r w1 ⟨v1, rfl, hc1, hb1⟩
    rw [if_neg he] at hc1
    go_wp2_with fail
    refine (fat from_ v1 _ _ hc1).mono ?_
    rintro r w2 ⟨v2, rfl, hc2, hb2⟩
    rw [if_neg (by simp)] at hc2
    have hb02 := below_then hb1 hb2
    have hB2 := HB.out.below hb02
    have f2 := hB2.free 2
    have f21 := hB2.free 1
    have c22 : w2.cell? ⟨p, 2, none⟩ = some .nilIface := hB2.at_ 2 rfl
    have c21 : w2.cell? ⟨p, 1, none⟩ = some (.int .i64 at_) := hB2.at_ 1 rfl
    obtain ⟨b, u, hv2, _⟩ := id hc2
    subst hv2
    have HB2 := Lib.hid hB2
    have HC2 := Lib.hid hc2
    have Hb := Lib.hid hb02
    have HR2 := Lib.hid (HR.out.below hb02)
    clear hc1 hb1 hb2 hc2 hb02 hB2 c0 c1 c2 f1
    go_wp2
    have hfin := (HB2.out.set 2 (.iface (Lk.at_ from_).kind.t1 (.pointer (some ⟨b, 0, none⟩)))).set 1 (.int .i64 from_)
    have hf1 := ((Fr.refl (only p) w2).setCell (p := ⟨p, 2, none⟩) (.inr rfl) (.iface (Lk.at_ from_).kind.t1 (.pointer (some ⟨b, 0, none⟩)))).setCell (p := ⟨p, 1, none⟩) (.inr rfl) (.int .i64 from_)
    refine Great.bodyPost_end0 rfl rfl ?_
    exact hQ _ _ ⟨rfl, ⟨A, cp, _, hfin, h1, hfrom, rows_set HR2.out (lt_ne HP.out) hf1, HP.out, by simpa using chn_set HB2.out hf1 HC2.out⟩, (Fr.of_below (S := only p) Hb.out).trans hf1 (fun _ _ h => h)⟩
  | cons x r =>
    have HC := Lib.hid hc
    obtain ⟨b, u, rfl, _⟩ := hc
    go_enter Tryz.func43, Tryz.ntmps43
    go_wp2
    have hf1 := (Fr.refl (only p) w).setCell (p := ⟨p, 1, none⟩) (.inr rfl) (.int .i64 from_)
    refine Great.bodyPost_end0 rfl rfl ?_
    exact hQ _ _ ⟨rfl, ⟨A, cp, _, HB.out.set 1 (.int .i64 from_), h1, hfrom, rows_set HR.out (lt_ne HP.out) hf1, HP.out, by simpa using chn_set HB.out hf1 HC.out⟩, hf1⟩
end Go.Proofs.YtlekfpeonehggaaGreatDoor
end

section
namespace Go.Proofs.YtlekfpeonehggaaGreatDoor
open Go.Proofs.BL Go.Proofs.Peel Go.RowKit
set_option maxRecDepth 100000
set_option linter.unusedVariables false

def RawPost (p : Nat) (bs : List UInt8) (at_ : Nat) (c : List Lk) (n : Nat) (w : World) (e : Ending) (w' : World) : Prop :=
  Fr (only p) w w' ∧
  (n ≤ bs.length - at_ → ∃ A cp, e = .returned (.tuple #[.slice A n cp, .bool true]) ∧ n ≤ cp ∧ RowsAt w' 1 A (bys ((bs.drop at_).take n)) ∧ (n ≠ 0 → ∀ a, A = some a → a.block ≠ p) ∧ Rd w' p bs (at_ + n) c) ∧
  (¬ n ≤ bs.length - at_ → e = .returned (.tuple #[.slice none 0 0, .bool false]) ∧ Rd w' p bs at_ c)

theorem drew_below (w : World) (n : Nat) : Below w.heap.size w (w.drewN n) := ⟨rfl, rfl, rfl, Nat.le_refl _, fun _ _ => rfl⟩

theorem rows_drop {w : World} {A : Option Addr} {bs : List UInt8} {k n cp : Nat} (h : RowsAt w 1 A (bys bs)) (hn : k + n ≤ bs.length) (hc : bs.length ≤ cp) :
    RowsAt w 1 (if cp = k then A else Option.map (fun x => x.add k) A) (bys ((bs.drop k).take n)) := by
  by_cases h0 : n = 0
  · subst h0; rw [List.take_zero]; exact RowsAt.nil _ _ _
  · rw [if_neg (by omega)]
    intro i r hi
    rw [List.getElem?_map, List.getElem?_take] at hi
    split at hi
    · rename_i hin
      rw [List.getElem?_drop, ← List.getElem?_map] at hi
      obtain ⟨b, o, rfl, hc⟩ := h (k + i) r hi
      refine ⟨b, o + k, ?_, fun j u hj => ?_⟩
      · simp only [Option.map_some, Addr.add]
        split <;> simp_all
      · have := hc j u hj
        rwa [show o + (k + i) * 1 + j = o + k + i * 1 + j from by omega] at this
    · simp at hi
theorem block_drop {A : Option Addr} {bs : List UInt8} {p k n cp : Nat} (h : bs ≠ [] → ∀ a, A = some a → a.block ≠ p) (hn : k + n ≤ bs.length) :
    n ≠ 0 → ∀ a, (if cp = k then A else Option.map (fun x => x.add k) A) = some a → a.block ≠ p := by
  intro h0 a ha
  have hne : bs ≠ [] := fun e => by subst e; simp at hn; omega
  split at ha
  · exact h hne a ha
  · obtain ⟨a', ha', rfl⟩ := Option.map_eq_some_iff.1 ha
    have := h hne a' ha'
    unfold Addr.add
    split <;> simp_all

set_option maxHeartbeats 1000000 in
theorem rraw {p : Nat} {bs : List UInt8} {at_ : Nat} {c : List Lk} (w : World) (n : Nat) (hn : n < 18446744073709551616) (hl : bs.length ≤ 1099511627776) (h : Rd w p bs at_ c) :
    Calls Tryz.prog 66 #[.pointer (some ⟨p, 0, none⟩), .int .u64 n] w (RawPost p bs at_ c n w) := by
  have HRD := Lib.hid h
  obtain ⟨A, cp, ve, hB, h1, h2, hr, hp, hc⟩ := h
  have c0 : w.cell? ⟨p, 0, none⟩ = some (.slice A bs.length cp) := hB.at_ 0 rfl
  have c1 : w.cell? ⟨p, 1, none⟩ = some (.int .i64 at_) := hB.at_ 1 rfl
  have f1 := hB.free 1
  have HB := Lib.hid hB
  have HR := Lib.hid hr
  have HP := Lib.hid hp
  have HC := Lib.hid hc
  clear hB hr hp hc
  refine via fun Q hQ => ?_
  go_enter Tryz.func66, Tryz.ntmps66
  go_wp2_with fail
  go_quiet (fail)
  generalize nq = nz
  by_cases hnl : n ≤ bs.length - at_
  · have t0 : ¬ ((bs.length : Int) - at_ < n) := by omega
    have w1 : IntKind.i64.wrap ((at_ : Int) + n) = (at_ : Int) + n := by rw [IntKind.wrap_i64]; omega
    have w2 : (0 : Int) ≤ (at_ : Int) + n := by omega
    have w3 : ((at_ : Int) + n).toNat = at_ + n := by omega
    have w4 : (at_ : Int) ≤ (at_ : Int) + n := by omega
    have w5 : (at_ : Int) + n ≤ (cp : Int) := by omega
    go_wp2_with fail
    go_quiet (fail)
    have hrd := rows_drop (k := at_) (n := n) (cp := cp) HR.out (by omega) h1
    have hbd := block_drop (k := at_) (n := n) (cp := cp) (lt_ne HP.out) (by omega)
    generalize (if cp = at_ then A else Option.map (fun x => x.add at_) A) = A' at hrd hbd ⊢
    have HRD2 := Lib.hid hrd
    have HBD2 := Lib.hid hbd
    clear hrd hbd
    go_wp2
    have hf1 : Fr (only p) w ((w.drewN (nz + nq)).setCell ⟨p, 1, none⟩ (.int .i64 ((at_ : Int) + n))) := ((Fr.refl (only p) w).drewN (nz + nq)).setCell (p := ⟨p, 1, none⟩) (.inr rfl) _
    have hB2 : Blk ((w.drewN (nz + nq)).setCell ⟨p, 1, none⟩ (.int .i64 ((at_ : Int) + n))) p _ 85 := (HB.out.below (drew_below w (nz + nq))).set 1 (.int .i64 ((at_ : Int) + n))
    refine ⟨hf1, fun _ => ⟨_, _, rfl, by omega, ?_, ?_, ⟨A, cp, ve, hB2, h1, by omega, rows_set HR.out (lt_ne HP.out) hf1, HP.out, chn_set HB.out hf1 HC.out⟩⟩, fun h => absurd hnl h⟩
    · by_cases h0 : n = 0
      · subst h0; rw [List.take_zero]; exact RowsAt.nil _ _ _
      · exact RowsAt.fr (S := only p) HRD2.out hf1 (fun a ha => HBD2.out h0 a ha)
    · exact HBD2.out
  · have t0 : ((bs.length : Int) - at_ < n) := by omega
    go_wp2_with fail
    exact ⟨Fr.of_below (drew_below _ _), fun h => absurd h hnl, fun _ => ⟨rfl, HRD.out.below (drew_below _ _)⟩⟩
end Go.Proofs.YtlekfpeonehggaaGreatDoor
end
