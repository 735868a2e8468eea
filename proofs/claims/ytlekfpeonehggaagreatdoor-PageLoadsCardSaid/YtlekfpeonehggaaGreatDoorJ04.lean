/- The contracts of package fault: what makes faults, and what asks them. fault.At. fault.Bound. fault.In. The faults' texts of this seat. Package octet: numbers and texts put into bytes. Words: what bit operations yield. -/
import Derived.Test.YtlekfpeonehggaaGreatDoorJ01
import Derived.Deep.QuietTactic
import Derived.BigQuiet
import Derived.Test.YtlekfpeonehggaaGreatDoorJ03
import Derived.Deep.DeepMust
import Derived.Laws.Entries
import Derived.WalkKit
section
namespace Go.Proofs.YtlekfpeonehggaaGreatDoor
open Go.Proofs.BL Go.Proofs.Peel Go.RowKit
set_option maxRecDepth 100000

theorem chn_num {w : World} : ∀ {c : List Lk} {v : Value}, Chn w v c → c ≠ [] → ∃ e, upto .num c = [.num e]
  | [], _, _, h => absurd rfl h
  | x :: r, v, ⟨b, u, _, _, hc, hn⟩, _ => by
    by_cases hk : x.kind = .num
    · have hr := hn.1 hk
      subst hr
      cases x <;> simp [Lk.kind] at hk
      exact ⟨_, rfl⟩
    · have hr : r ≠ [] := fun e => hk (hn.2 e)
      obtain ⟨e, he⟩ := chn_num hc hr
      refine ⟨e, ?_⟩
      have : x.kind.same .num = false := by
        cases h : x.kind.same .num
        · rfl
        · exact absurd ((same_iff _ _).1 h) hk
      simp [upto, this, he]

theorem Lk.of_num {x : Lk} (h : x.kind = .num) : ∃ q, x = .num q := by cases x <;> simp [Lk.kind] at h; exact ⟨_, rfl⟩
/-- A chain's number. -/
def codeOf (c : List Lk) : Int := match upto .num c with | .num e :: _ => e | _ => 0
theorem codeOf_nil : codeOf [] = 0 := rfl

/-- A new error whose chain is c; nothing that was there has turned. -/
def ErrNew (w : World) (c : List Lk) (e : Ending) (w' : World) : Prop := ∃ v, e = .returned v ∧ Chn w' v c ∧ Below w.heap.size w w'

/-- fault.New. -/
theorem fnew (n : Int) (w : World) : Calls Tryz.prog 45 #[.int .i64 n] w (ErrNew w (if n = 0 then [] else [.num n])) := by
  by_cases h : n = 0
  · subst h
    go_enter Tryz.func45, Tryz.ntmps45
    go_wp2
    go_ret
    exact ⟨_, rfl, rfl, Below.refl _ _⟩
  · have h0 : (n == 0) = false := by simpa using h
    have H := Lib.hid h
    clear h
    go_enter Tryz.func45, Tryz.ntmps45
    go_wp2
    go_ret
    exact ⟨_, rfl, ⟨_, .nilIface, rfl, Blk.new _ _ _, rfl, by simp [Lk.kind]⟩, (Below.refl _ _).alloc (Nat.le_refl _) _⟩
/-- The target's own block apart, nothing that was there has turned. -/
theorem AsPost.own {k : FK} {w : World} {o : Obj} {c : List Lk} {e : Ending} {w' : World} (h : AsPost k w.heap.size (w.alloc o) c e w') : Below w.heap.size w w' := by
  have h0 : Below w.heap.size w (w.alloc o) := (Below.refl _ _).alloc (Nat.le_refl _) _
  by_cases hu : upto k c = []
  · exact below_then h0 (h.1 hu).2
  · exact ((Fr.of_below (S := none_) h0).trans (h.2 hu).2.1 (fun i hi hS => by cases hS; omega)).below

/-- What a call answers, and that nothing that was there has turned. -/
def Ans (w : World) (v : Value) (e : Ending) (w' : World) : Prop := e = .returned v ∧ Below w.heap.size w w'

theorem ErrT.below {w w' : World} (h : ErrT w) (hb : Below w.heap.size w w') : ErrT w' := (hb.cell (World.block_lt_of_cell? w _ h)).trans h

set_option maxHeartbeats 400000 in
/-- fault.Code. -/
theorem fcode (v : Value) (c : List Lk) (w : World) (hE : ErrT w) (hc : Chn w v c) : Calls Tryz.prog 67 #[v] w (Ans w (.int .i64 (codeOf c))) := by
  cases c with
  | nil =>
    obtain rfl : v = .nilIface := hc
    go_enter Tryz.func67, Tryz.ntmps67
    go_wp2
    go_ret
    exact ⟨rfl, (Below.refl _ _).alloc (Nat.le_refl _) _⟩
  | cons x r =>
    obtain ⟨n, hn⟩ := chn_num hc (List.cons_ne_nil _ _)
    have hb0 : Below w.heap.size w (w.alloc (.cells #[.pointer none] 117)) := (Below.refl _ _).alloc (Nat.le_refl _) _
    have HA := Lib.hid (eAs .num .num rfl (x :: r) v (.pointer none) w.heap.size _ (hE.below hb0) (hc.below hb0) (Blk.new w #[.pointer none] 117))
    have hv : ∃ b, v = .iface x.kind.t1 (.pointer (some ⟨b, 0, none⟩)) := by obtain ⟨b, u, e, _⟩ := hc; exact ⟨b, e⟩
    obtain ⟨b, rfl⟩ := hv
    have HN := Lib.hid hn
    clear hn hc hE hb0
    go_enter Tryz.func67, Tryz.ntmps67
    go_wp2_with fail
    refine HA.out.mono ?_
    rintro e w' hp
    obtain ⟨rfl, _, p, hB, hC⟩ := hp.2 (by rw [HN.out]; exact List.cons_ne_nil _ _)
    rw [HN.out] at hC
    obtain ⟨b2, u2, e2, hX, _⟩ := hC
    injection e2 with _ e2
    injection e2 with e2
    injection e2 with e2
    injection e2 with e2
    subst e2
    have g0 : w'.cell? ⟨w.heap.size, 0, none⟩ = some (.pointer (some ⟨p, 0, none⟩)) := hB.at_ 0 rfl
    have g1 : w'.cell? ⟨p, 0, none⟩ = some (.int .i64 n) := hX.at_ 0 rfl
    have HP := Lib.hid hp.own
    clear hp hB hX
    go_wp2
    go_ret
    exact ⟨by unfold codeOf; rw [HN.out]; rfl, HP.out⟩

end Go.Proofs.YtlekfpeonehggaaGreatDoor
end

section
set_option maxRecDepth 100000
namespace Go.Proofs.YtlekfpeonehggaaGreatDoor
open Go.Proofs.BL Go.Proofs.Peel Go.RowKit
/-- fault.At. -/
theorem fat (p : Int) (v : Value) (c : List Lk) (w : World) (hc : Chn w v c) : Calls Tryz.prog 20 #[.int .i64 p, v] w (ErrNew w (if c = [] then [] else .at_ p :: c)) := by
  cases c with
  | nil =>
    obtain rfl : v = .nilIface := hc
    go_enter Tryz.func20, Tryz.ntmps20
    go_wp2
    go_ret
    exact ⟨_, rfl, rfl, Below.refl _ _⟩
  | cons x r =>
    have HC := Lib.hid hc
    obtain ⟨b, u, rfl, _⟩ := hc
    go_enter Tryz.func20, Tryz.ntmps20
    go_wp2
    go_ret
    have hb : Below w.heap.size w (w.alloc (.cells #[.iface x.kind.t1 (.pointer (some ⟨b, 0, none⟩)), .int .i64 p] 96)) := (Below.refl _ _).alloc (Nat.le_refl _) _
    exact ⟨_, rfl, ⟨_, _, rfl, Blk.new _ _ _, HC.out.below hb, by simp [Lk.kind]⟩, hb⟩
end Go.Proofs.YtlekfpeonehggaaGreatDoor
end

section
set_option maxRecDepth 100000
namespace Go.Proofs.YtlekfpeonehggaaGreatDoor
open Go.Proofs.BL Go.Proofs.Peel Go.RowKit
/-- fault.Bound. -/
theorem fbound (l g : Int) (v : Value) (c : List Lk) (w : World) (hc : Chn w v c) : Calls Tryz.prog 44 #[.int .i64 l, .int .i64 g, v] w (ErrNew w (if c = [] then [] else .bnd l g :: c)) := by
  cases c with
  | nil =>
    obtain rfl : v = .nilIface := hc
    go_enter Tryz.func44, Tryz.ntmps44
    go_wp2
    go_ret
    exact ⟨_, rfl, rfl, Below.refl _ _⟩
  | cons x r =>
    have HC := Lib.hid hc
    obtain ⟨b, u, rfl, _⟩ := hc
    go_enter Tryz.func44, Tryz.ntmps44
    go_wp2
    go_ret
    have hb : Below w.heap.size w (w.alloc (.cells #[.iface x.kind.t1 (.pointer (some ⟨b, 0, none⟩)), .int .i64 l, .int .i64 g] 116)) := (Below.refl _ _).alloc (Nat.le_refl _) _
    exact ⟨_, rfl, ⟨_, _, rfl, Blk.new _ _ _, HC.out.below hb, by simp [Lk.kind]⟩, hb⟩

end Go.Proofs.YtlekfpeonehggaaGreatDoor
end

section
set_option maxRecDepth 100000
namespace Go.Proofs.YtlekfpeonehggaaGreatDoor
open Go.Proofs.BL Go.Proofs.Peel Go.RowKit
/-- fault.In. -/
theorem fin_ (s : ByteArray) (v : Value) (c : List Lk) (w : World) (hc : Chn w v c) : Calls Tryz.prog 49 #[.string s, v] w (ErrNew w (if c = [] then [] else .in_ s :: c)) := by
  cases c with
  | nil =>
    obtain rfl : v = .nilIface := hc
    go_enter Tryz.func49, Tryz.ntmps49
    go_wp2
    go_ret
    exact ⟨_, rfl, rfl, Below.refl _ _⟩
  | cons x r =>
    have HC := Lib.hid hc
    obtain ⟨b, u, rfl, _⟩ := hc
    go_enter Tryz.func49, Tryz.ntmps49
    go_wp2
    go_ret
    have hb : Below w.heap.size w (w.alloc (.cells #[.iface x.kind.t1 (.pointer (some ⟨b, 0, none⟩)), .string s] 126)) := (Below.refl _ _).alloc (Nat.le_refl _) _
    exact ⟨_, rfl, ⟨_, _, rfl, Blk.new _ _ _, HC.out.below hb, by simp [Lk.kind]⟩, hb⟩
end Go.Proofs.YtlekfpeonehggaaGreatDoor
end

section

end

section
namespace Go.Proofs.YtlekfpeonehggaaGreatDoor
open Go.Proofs.BL Go.Proofs.Peel Go.RowKit
set_option maxRecDepth 100000
set_option linter.unusedVariables false

def ByAns (w : World) (l : List UInt8) (e : Ending) (w' : World) : Prop := ∃ v, e = .returned v ∧ Own w' w.heap.size 5 1 v (bys l) ∧ Below w.heap.size w w'

def arr9 (k : Nat) (low : List UInt8) : Array Value := ((List.replicate (9 - k) (0 : UInt8) ++ low).map fun x => Value.int .u8 x.toNat).toArray

theorem blk_bytes {w : World} {b : Nat} {t : TypeId} (p l : List UInt8) (h : Blk w b ((p ++ l).map fun x => Value.int .u8 x.toNat).toArray t) : RowsAt w 1 (some ⟨b, p.length, none⟩) (bys l) := by
  intro j r hj
  refine ⟨_, _, rfl, fun k u hk => ?_⟩
  rw [List.getElem?_map] at hj
  obtain ⟨x, hx, rfl⟩ := Option.map_eq_some_iff.1 hj
  cases k with
  | succ k => simp [enB] at hk
  | zero =>
    simp [enB] at hk
    subst hk
    refine h.at_ _ ?_
    simp only [List.getElem?_toArray, List.getElem?_map]
    rw [List.getElem?_append_right (by omega), show p.length + j * 1 + 0 - p.length = j from by omega, hx]
    rfl
theorem arr9_at {i : Nat} {low : List UInt8} (h : i ≤ 8) : (arr9 i low)[8 - i]? = some (.int .u8 0) := by
  simp only [arr9, List.getElem?_toArray, List.getElem?_map]
  rw [List.getElem?_append_left (by simp; omega), List.getElem?_replicate, if_pos (by omega)]
  rfl
theorem arr9_set {i : Nat} {low : List UInt8} (h : i ≤ 8) (x : UInt8) (z : Int) (hz : z = x.toNat) : (arr9 i low).setIfInBounds (8 - i) (.int .u8 z) = ((List.replicate (8 - i) (0 : UInt8) ++ x :: low).map fun x => Value.int .u8 x.toNat).toArray := by
  subst hz
  rw [arr9, List.setIfInBounds_toArray]
  congr 1
  rw [show 9 - i = (8 - i) + 1 from by omega, List.replicate_succ', List.append_assoc, List.map_append, List.map_append, List.set_append_right _ _ (by simp)]
  simp
theorem slice9 (b i : Nat) (h : i ≤ 8) (w : World) : (Instr.sliceAt 127 (.pointer (some ⟨b, 0, none⟩)) (some (.int .i64 (8 - (i : Int)))) none none).run Tryz.prog w = .ok (.slice (some ⟨b, 8 - i, none⟩) (i + 1) (i + 1)) w := by
  have al : Tryz.prog.arrayLen 127 = 9 := by kernel_rfl
  have sz : (sizeOf (Tryz.prog.elem 127)).run Tryz.prog w = .ok 1 w := by kernel_rfl
  rw [run_sliceAt_array_l w 127 ⟨b, 0, none⟩ (by kernel_rfl) .i64 (8 - (i : Int)) (by omega) (by rw [al]; omega), sz, al]
  have e : ((8 : Int) - i).toNat = 8 - i := by omega
  simp only [Result.andThen, slicedAt, e]
  rw [if_neg (by omega), Nat.mul_one, show 9 - (8 - i) = i + 1 from by omega]
  simp [Addr.add]
  omega

set_option maxHeartbeats 1000000 in
theorem onat (n : Nat) (w : World) (hn : n < 2 ^ 64) : Calls Tryz.prog 53 #[.int .u64 n] w (ByAns w (natB n)) := by
  refine via fun Q hQ => ?_
  go_enter Tryz.func53, Tryz.ntmps53
  go_wp2_with fail
  go_loopg [4, 5] n (fun g k x wr => ∃ (i : Nat) (low : List UInt8), k = .int .i64 i ∧ x = .int .u64 g ∧ low.length = i ∧ dig n = dig g ++ low ∧ Blk wr w.heap.size (arr9 i low) 127 ∧ Below w.heap.size w wr)
  case atStart => exact ⟨0, [], rfl, rfl, rfl, by simp, Blk.new _ _ _, (Below.refl _ _).alloc (Nat.le_refl _) _⟩
  case round =>
    obtain ⟨i, low, rfl, rfl, hl, hd, hB, hb⟩ := hrel
    have hi8 : i ≤ 8 := by
      have h1 := dig_len 8 n hn
      rw [hd, List.length_append] at h1
      omega
    have HD := Lib.hid hd
    have HB := Lib.hid hB
    have Hb := Lib.hid hb
    have HL := Lib.hid hl
    have c0 : wr.cell? ⟨w.heap.size, 8 - i, none⟩ = some (.int .u8 0) := HB.out.at_ _ (arr9_at hi8)
    have f0 := HB.out.free (8 - i)
    have hws : w.heap.size < wr.heap.size := HB.out.lt
    clear hd hB hb hl
    by_cases h0 : gk = 0
    · subst h0
      have hsl := slice9 w.heap.size i hi8
      have hB2 := HB.out.set (8 - i) (.int .u8 i)
      rw [arr9_set hi8 (UInt8.ofNat i) i (by simp; omega)] at hB2
      have hb2 := Hb.out.setCell (p := ⟨w.heap.size, 8 - i, none⟩) (Nat.le_refl _) (.int .u8 i)
      generalize hw2 : wr.setCell ⟨w.heap.size, 8 - i, none⟩ (.int .u8 i) = w2 at hB2 hb2
      have HB2 := Lib.hid hB2
      have Hb2 := Lib.hid hb2
      have hO2 := Own.lit w2 5 1 0 [] #[] w.heap.size Hb2.out.size rfl (by decide) rfl (fun _ h => by cases h) rfl
      have hB3 := (HB2.out.alloc (.cells #[] 5))
      have hR3 : RowsAt (w2.alloc (.cells #[] 5)) 1 (some ⟨w.heap.size, 8 - i, none⟩) (bys (natB n)) := by
        rw [natB, HD.out, dig_zero, List.nil_append, HL.out]
        have := blk_bytes (List.replicate (8 - i) (0 : UInt8)) _ hB3
        rwa [List.length_replicate] at this
      have HN1 := Lib.hid (show i + 1 = (bys (natB n)).length from by rw [bys_len, natB, HD.out, dig_zero, List.nil_append, List.length_cons, HL.out])
      have hsz3 : w.heap.size ≤ (w2.alloc (.cells #[] 5)).heap.size := by have := Hb2.out.size; simp; omega
      have hln : (([] : List (List Value)).length + (bys (natB n)).length) * 1 ≤ 140737488355328 := by have := natB_len n hn; simp; omega
      go_wp2_with (at_builtin; go_must (refine appendN w.heap.size 5 1 1 (.int .u8 0) rfl (.tmp 23) (.tmp 26) 23 rfl Tryz.underlying23 (by kernel_rfl) rfl (by decide) (by decide) (.slice (some ⟨w2.heap.size, 0, none⟩) 0 0) [] (bys (natB n)) rfl (some ⟨w.heap.size, 8 - i, none⟩) (i + 1) (i + 1) rfl HN1.out (by simp) hR3 (bys_one _) (bys_cell _) hO2 hsz3 hln ?_); intro v1 w1 hown1 hfr1)
      exact ⟨_, rfl, hown1, ((Fr.of_below (S := none_) Hb2.out).alloc _ |>.trans hfr1 (fun k hk hS => by have := (hO2.1.lt k hS).1; omega)).below⟩
    · have hp : 0 < gk := by omega
      have hi7 : i ≤ 7 := by
        have h1 := dig_len 8 n hn
        rw [HD.out, List.length_append, dig_pos h0, List.length_append, List.length_singleton, HL.out] at h1
        omega
      go_wp2_with fail
      go_roundg (gk / 256)
      case measure => exact Nat.div_lt_self hp (by decide)
      case rel => exact ⟨i + 1, UInt8.ofNat gk :: low, by go_num, by go_num, by simp [HL.out], by rw [HD.out, dig_pos h0, List.append_assoc]; rfl, by
          have := HB.out.set (8 - i) (.int .u8 ((gk : Int) % 256))
          rw [arr9_set hi8 (UInt8.ofNat gk) _ (by simp)] at this
          rw [arr9, show 9 - (i + 1) = 8 - i from by omega]
          exact this, Hb.out.setCell (p := ⟨w.heap.size, 8 - i, none⟩) (Nat.le_refl _) _⟩
end Go.Proofs.YtlekfpeonehggaaGreatDoor
end

section
set_option linter.unusedVariables false
namespace Go.Proofs.BL
theorem ofInt_nat (x : Int) (h0 : 0 ≤ x) (h1 : x < 18446744073709551616) : ((BitVec.ofInt 64 x).toNat : Int) = x := by
  rw [BitVec.toNat_ofInt]
  omega
theorem u64_of (n : Nat) (h : n < 18446744073709551616) : IntKind.u64.wrap (n : Int) = n := by
  show (n : Int) % 18446744073709551616 = n
  omega
theorem xor_zero (x : Int) (h0 : 0 ≤ x) (h1 : x < 18446744073709551616) : bits .xor .u64 x 0 = x := by
  show IntKind.u64.wrap ((BitVec.ofInt 64 x ^^^ BitVec.ofInt 64 0).toNat : Int) = x
  rw [show BitVec.ofInt 64 0 = 0#64 from rfl, BitVec.xor_zero, ofInt_nat x h0 h1]
  show x % 18446744073709551616 = x
  omega
theorem xor_ones (x : Int) (h0 : 0 ≤ x) (h1 : x < 18446744073709551616) : bits .xor .u64 x 18446744073709551615 = 18446744073709551615 - x := by
  show IntKind.u64.wrap ((BitVec.ofInt 64 x ^^^ BitVec.ofInt 64 18446744073709551615).toNat : Int) = _
  rw [show BitVec.ofInt 64 18446744073709551615 = BitVec.allOnes 64 from rfl, BitVec.xor_allOnes, BitVec.toNat_not]
  have := ofInt_nat x h0 h1
  have hlt := (BitVec.ofInt 64 x).isLt
  show (((2 ^ 64 - 1 - (BitVec.ofInt 64 x).toNat : Nat)) : Int) % 18446744073709551616 = _
  omega
theorem xor_sign (x y : Int) (h0 : 0 ≤ x) (h1 : x < 9223372036854775808) (hy : y = 0 ∨ y = -1) : bits .xor .i64 x y = if y = 0 then x else -1 - x := by
  rcases hy with rfl | rfl
  · show IntKind.i64.wrap ((BitVec.ofInt 64 x ^^^ BitVec.ofInt 64 0).toNat : Int) = _
    rw [show BitVec.ofInt 64 0 = 0#64 from rfl, BitVec.xor_zero, ofInt_nat x h0 (by omega), IntKind.wrap_i64, if_pos rfl]
    omega
  · show IntKind.i64.wrap ((BitVec.ofInt 64 x ^^^ BitVec.ofInt 64 (-1)).toNat : Int) = _
    rw [show BitVec.ofInt 64 (-1) = BitVec.allOnes 64 from rfl, BitVec.xor_allOnes, BitVec.toNat_not, IntKind.wrap_i64, if_neg (by decide)]
    have := ofInt_nat x h0 (by omega)
    have hlt := (BitVec.ofInt 64 x).isLt
    omega
theorem and_one (x : Int) (h0 : 0 ≤ x) (h1 : x < 18446744073709551616) : bits .and .u64 x 1 = x % 2 := by
  show IntKind.u64.wrap ((BitVec.ofInt 64 x &&& BitVec.ofInt 64 1).toNat : Int) = _
  rw [BitVec.toNat_and, show (BitVec.ofInt 64 1).toNat = 1 from rfl, Nat.and_one_is_mod]
  have := ofInt_nat x h0 h1
  show (((BitVec.ofInt 64 x).toNat % 2 : Nat) : Int) % 18446744073709551616 = _
  omega
theorem or_low (x y : Nat) (h : x * 256 < 18446744073709551616) (hy : y < 256) : bits .or .u64 ((x : Int) * 256) y = x * 256 + y := by
  show IntKind.u64.wrap ((BitVec.ofInt 64 ((x : Int) * 256) ||| BitVec.ofInt 64 (y : Int)).toNat : Int) = _
  have hx := ofInt_nat ((x : Int) * 256) (by omega) (by omega)
  have hx' : (BitVec.ofInt 64 ((x : Int) * 256)).toNat = x * 256 := by omega
  have hy' : (BitVec.ofInt 64 (y : Int)).toNat = y := by have := ofInt_nat (y : Int) (by omega) (by omega); omega
  rw [BitVec.toNat_or, hx', hy', show x * 256 = x <<< 8 from by rw [Nat.shiftLeft_eq], ← Nat.shiftLeft_add_eq_or_of_lt (by omega), Nat.shiftLeft_eq]
  show (((x * 2 ^ 8 + y : Nat)) : Int) % 18446744073709551616 = _
  omega
end Go.Proofs.BL
end
