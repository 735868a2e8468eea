/- Chapter 2's law functions: short, some. -/
import Derived.Test.YtoejeiaeladgjaaDoorOj
import Derived.Test.YtoejeiaeladgjaaDoorOd
namespace Go.Proofs.YtoejeiaeladgjaaDoor
open Go.Proofs.BL Go.Proofs.Peel Go.RowKit
set_option maxRecDepth 100000
set_option linter.unusedVariables false

def shortB (s : ByteArray) : ByteArray := if 300 < s.size then s.extract 0 300 else s
theorem shortB_len (s : ByteArray) : (shortB s).size ≤ 300 := by
  unfold shortB
  split
  · simp [ByteArray.size_extract]; omega
  · omega
def someB (l : List ByteArray) : List ByteArray := (l.take 20).map shortB
theorem someB_len (l : List ByteArray) : (someB l).length ≤ 20 := by simp [someB]; omega
theorem someB_short (l : List ByteArray) : ∀ s ∈ someB l, s.size ≤ 300 := by
  intro s hs
  obtain ⟨x, _, rfl⟩ := List.mem_map.1 hs
  exact shortB_len x
def strV (s : ByteArray) : List Value := [.string s]

theorem lshort (s : ByteArray) (w : World) : Calls Tryd.prog 32 #[.string s] w (fun e w' => e = .returned (.string (shortB s)) ∧ w' = w) := by
  refine via fun Q hQ => ?_
  by_cases h : 300 < s.size
  · have E : shortB s = s.extract 0 300 := if_pos h
    rw [E] at hQ
    clear E
    go_enter Tryd.func32, Tryd.ntmps32
    go_wp2
  · have E : shortB s = s := if_neg h
    rw [E] at hQ
    clear E
    go_enter Tryd.func32, Tryd.ntmps32
    go_wp2

def StrsAns (w : World) (l : List ByteArray) (e : Ending) (w' : World) : Prop := ∃ v, e = .returned v ∧ Own w' w.heap.size 9 1 v (l.map strV) ∧ Below w.heap.size w w'

set_option maxHeartbeats 1000000 in
theorem lsome (l : List ByteArray) (v : Value) (w : World) (hv : SlV w 1 v (l.map strV)) (hm : l.length ≤ 9223372036854775807) :
    Calls Tryd.prog 41 #[v] w (StrsAns w (someB l)) := by
  obtain ⟨A, c, rfl, hlc, hr⟩ := hv
  simp only [List.length_map] at hlc ⊢
  refine via fun Q hQ => ?_
  go_enter Tryd.func41, Tryd.ntmps41
  go_wp2
  go_loopg [3, 8] l.length (fun g o i wr => ∃ k : Nat, k ≤ l.length ∧ g = l.length - k ∧ i = .int .i64 k ∧ Own wr w.heap.size 9 1 o ((someB (l.take k)).map strV) ∧ Below w.heap.size w wr)
  case atStart => exact ⟨0, Nat.zero_le _, rfl, rfl, Own.nil _ _ _ _, Below.refl _ _⟩
  case round =>
    obtain ⟨k, hk, rfl, rfl, ho, hb⟩ := hrel
    by_cases hlt : k < l.length
    · obtain ⟨b, off, rfl, hc⟩ := hr k (strV (l[k]'hlt)) (by simp [hlt])
      have c0 : wr.cell? ⟨b, off + k, none⟩ = some (.string (l[k]'hlt)) := by
        have := (hb.cell (World.block_lt_of_cell? w _ (hc 0 _ rfl))).trans (hc 0 _ rfl)
        rwa [Nat.mul_one, Nat.add_zero] at this
      have hst : someB (l.take (k + 1)) = if k < 20 then someB (l.take k) ++ [shortB (l[k]'hlt)] else someB (l.take k) := by
        unfold someB
        rw [List.take_take, List.take_take]
        by_cases h20 : k < 20
        · rw [if_pos h20, show min 20 (k + 1) = k + 1 from by omega, show min 20 k = k from by omega, take_step l hlt, List.map_append]
          rfl
        · rw [if_neg h20, show min 20 (k + 1) = 20 from by omega, show min 20 k = 20 from by omega]
      have hln := someB_len (l.take k)
      generalize l[k]'hlt = s at c0 hst
      have HO := Lib.hid ho
      have HB := Lib.hid hb
      have HST := Lib.hid hst
      clear hr hc ho hb hst
      by_cases h20 : k < 20
      · have HS2 := Lib.hid (HST.out.trans (if_pos h20))
        clear HST
        go_wp2_with fail
        refine (lshort s wr).mono ?_
        rintro e w1 ⟨rfl, rfl⟩
        generalize shortB s = s2 at HS2
        go_wp2_with (at_builtin; go_must (refine append1 w.heap.size 9 1 16 (.string ⟨#[]⟩) rfl (.tmp 15) (.tmp 18) 43 rfl Tryd.underlying43 (by kernel_rfl) rfl (by decide) (by decide) u3 ((someB (l.take k)).map strV) (strV s2) rfl _ rfl rfl rfl (by simp [strV, Value.oneCell']) HO.out HB.out.size (by simp only [List.length_map]; omega) ?_); intro v1 w1 hown1 hfr1)
        go_roundg (l.length - (k + 1))
        case measure => omega
        case rel => exact ⟨k + 1, hlt, rfl, by go_num, by rw [HS2.out, List.map_append]; exact hown1, HO.out.fr_below HB.out HB.out.size hfr1⟩
      · have HS2 := Lib.hid (HST.out.trans (if_neg h20))
        clear HST
        go_wp2
        go_roundg (l.length - (k + 1))
        case measure => omega
        case rel => exact ⟨k + 1, hlt, rfl, by go_num, by rw [HS2.out]; exact HO.out, HB.out⟩
    · obtain rfl : k = l.length := by omega
      rw [List.take_length] at ho
      have HO := Lib.hid ho
      have HB := Lib.hid hb
      clear ho hb hr
      go_wp2
      exact ⟨_, rfl, HO.out, HB.out⟩

set_option maxHeartbeats 1000000 in
/-- Two lists of one-cell things: are they the same? -/
theorem lsame (a b : List ByteArray) (va vb : Value) (w : World) (ha : SlV w 1 va (a.map fun s => [.string s])) (hb : SlV w 1 vb (b.map fun s => [.string s])) (hal : a.length ≤ 9223372036854775806) (hbl : b.length ≤ 9223372036854775806) :
    Calls Tryd.prog 57 #[va, vb] w (Ans w (.bool (decide (a = b)))) := by
  obtain ⟨A, ca, rfl, hla, hra⟩ := ha
  obtain ⟨B, cb, rfl, hlb, hrb⟩ := hb
  simp only [List.length_map] at hla hlb ⊢
  refine via fun Q hQ => ?_
  by_cases hl : a.length = b.length
  · have g0 : ((a.length : Int) != (b.length : Int)) = false := by simp [hl]
    have HL := Lib.hid hl
    clear hl
    go_enter Tryd.func57, Tryd.ntmps57
    go_wp2
    go_loopg [13] (a.length) (fun n i wr => ∃ k : Nat, k ≤ a.length ∧ n = a.length - k ∧ i = .int .i64 k ∧ a.take k = b.take k ∧ Below w.heap.size w wr)
    case atStart => exact ⟨0, Nat.zero_le _, rfl, rfl, rfl, Below.refl _ _⟩
    case round =>
      obtain ⟨k, hk, rfl, rfl, hn, hbw⟩ := hrel
      have HN := Lib.hid hn
      have HB := Lib.hid hbw
      by_cases hlt : k < a.length
      · have hltb : k < b.length := by have := HL.out; omega
        obtain ⟨b1, o1, rfl, h1⟩ := hra k [.string a[k]] (by simp [hlt])
        obtain ⟨b2, o2, rfl, h2⟩ := hrb k [.string b[k]] (by simp [hltb])
        have hta : a.take (k + 1) = a.take k ++ [a[k]] := List.take_succ_eq_append_getElem hlt
        have htb : b.take (k + 1) = b.take k ++ [b[k]] := List.take_succ_eq_append_getElem hltb
        have hga : a[k]? = some a[k] := List.getElem?_eq_getElem hlt
        have hgb : b[k]? = some b[k] := List.getElem?_eq_getElem hltb
        generalize a[k] = x at h1 hta hga
        generalize b[k] = y at h2 htb hgb
        have HTA := Lib.hid hta
        have HTB := Lib.hid htb
        have HGA := Lib.hid hga
        have HGB := Lib.hid hgb
        have c1 : wr.cell? ⟨b1, o1 + k, none⟩ = some (.string x) := by
          have := (hbw.cell (World.block_lt_of_cell? w _ (h1 0 _ rfl))).trans (h1 0 _ rfl)
          rwa [Nat.mul_one, Nat.add_zero] at this
        have c2 : wr.cell? ⟨b2, o2 + k, none⟩ = some (.string y) := by
          have := (hbw.cell (World.block_lt_of_cell? w _ (h2 0 _ rfl))).trans (h2 0 _ rfl)
          rwa [Nat.mul_one, Nat.add_zero] at this
        have i1 : (k : Int) < (a.length : Int) := by omega
        have i2 : (k : Int) < (b.length : Int) := by omega
        have i0 : (0 : Int) ≤ (k : Int) := by omega
        clear hn hbw hra hrb h1 h2 hta htb hga hgb
        by_cases hxy : x = y
        · have g1 := str_same hxy
          have HXY := Lib.hid hxy
          clear hxy
          go_wp2
          go_quiet (fail)
          go_wp2
          go_roundg (a.length - (k + 1))
          case measure => omega
          case rel => exact ⟨k + 1, by omega, rfl, by go_num, by rw [HTA.out, HTB.out, HN.out, HXY.out], ⟨HB.out.os, HB.out.tape, HB.out.output, HB.out.size, HB.out.block⟩⟩
        · have g1 := str_diff hxy
          have HXY := Lib.hid hxy
          clear hxy
          go_wp2
          go_quiet (fail)
          go_wp2
          refine ⟨?_, ⟨HB.out.os, HB.out.tape, HB.out.output, HB.out.size, HB.out.block⟩⟩
          rw [decide_eq_false (fun e => HXY.out (by
            have h1 := HGA.out
            rw [e, HGB.out] at h1
            exact (Option.some.inj h1).symm))]
          rfl
      · clear hn hbw hra hrb
        go_wp2
        refine ⟨?_, HB.out⟩
        have e := HN.out
        rw [List.take_of_length_le (by omega), List.take_of_length_le (by have := HL.out; omega)] at e
        rw [decide_eq_true e]
        rfl
  · have g0 : ((a.length : Int) != (b.length : Int)) = true := by simp; omega
    have HL := Lib.hid hl
    clear hl hra hrb
    go_enter Tryd.func57, Tryd.ntmps57
    go_wp2
    exact ⟨by rw [decide_eq_false (fun e => HL.out (congrArg List.length e))]; rfl, Below.refl _ _⟩

end Go.Proofs.YtoejeiaeladgjaaDoor
