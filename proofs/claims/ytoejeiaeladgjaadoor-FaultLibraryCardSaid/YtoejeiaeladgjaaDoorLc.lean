/- Chapter 1's reference, function by function. -/
import Derived.Test.YtoejeiaeladgjaaDoorLb
namespace Go.Proofs.YtoejeiaeladgjaaDoor
open Go.Proofs.BL Go.Proofs.Peel Go.RowKit
set_option maxRecDepth 100000

def placeR : List Li → Int
  | [] => -1
  | x :: r => if x.kind = 1 then x.place else placeR r
def limitR : List Li → Int × Int × Bool
  | [] => (0, 0, false)
  | x :: r => if x.kind = 3 then (x.limit, x.got, true) else limitR r
def trailR (l : List Li) : List ByteArray := (l.filter fun x => x.kind == 2).map (·.name)
def codeR (l : List Li) : Int := match l.getLast? with | some x => x.e | none => 0
def strRow (s : ByteArray) : List Value := [.string s]

/-- A slice of links is answered. -/
def LinkAns (w : World) (l : List Li) (e : Ending) (w' : World) : Prop := ∃ u, e = .returned u ∧ SlV w' 6 u (l.map Li.enc) ∧ Below w.heap.size w w'

set_option maxHeartbeats 1000000 in
theorem rchain (l : List Li) (v : Value) (w : World) (hv : SlV w 6 v (l.map Li.enc)) (hm : l.length ≤ 9223372036854775806) :
    Calls Tryd.prog 15 #[v] w (LinkAns w (chainL l)) := by
  obtain ⟨A, c, rfl, hlc, hr⟩ := hv
  simp only [List.length_map] at hlc ⊢
  refine via fun Q hQ => ?_
  go_enter Tryd.func15, Tryd.ntmps15
  go_wp2
  go_loopg [7] (l.length) (fun n i wr => ∃ k : Nat, k ≤ l.length ∧ n = l.length - k ∧ i = .int .i64 k ∧ (∀ j (hj : j < k) (hl : j < l.length), (l[j]).kind ≠ 0) ∧ Below w.heap.size w wr)
  case atStart => exact ⟨0, Nat.zero_le _, rfl, rfl, fun j hj => absurd hj (by omega), Below.refl _ _⟩
  case round =>
    obtain ⟨k, hk, rfl, rfl, hn, hb⟩ := hrel
    have hws := hb.size
    have HN := Lib.hid hn
    have HB := Lib.hid hb
    have HR := Lib.hid hr
    by_cases hlt : k < l.length
    · obtain ⟨b, o, rfl, c0, c1, c2, c3, c4, c5⟩ := li_cells hr hb hlt
      generalize hxe : l[k] = x at c0 c1 c2 c3 c4 c5
      have HX := Lib.hid hxe
      clear hn hb hr hxe
      by_cases h0 : x.kind = 0
      · have g0 : (x.kind == 0) = true := by simpa using h0
        have H0 := Lib.hid h0
        have hf := chainL_found l k hlt (fun j hj => HN.out j hj (by omega)) (by rw [HX.out]; exact h0)
        rw [HX.out] at hf
        clear h0
        by_cases h1 : x.e = 0
        · have g1 : (x.e == 0) = true := by simpa using h1
          rw [if_pos h1] at hf
          have HF := Lib.hid hf
          clear h1 hf
          go_wp2
          exact ⟨_, rfl, by rw [HF.out]; exact SlV.nil _ _, HB.out.alloc hws _⟩
        · have g1 : (x.e == 0) = false := by simpa using h1
          rw [if_neg h1] at hf
          have HF := Lib.hid hf
          clear h1 hf
          have hk1 : k + 1 ≤ c := by omega
          go_wp2
          refine ⟨_, rfl, ?_, HB.out.alloc hws _⟩
          rw [HF.out]
          refine ⟨_, c, by rw [List.length_map, List.length_take, Nat.min_eq_left (by omega)]; rfl, by simp; omega, ?_⟩
          rw [List.map_take]
          exact (HR.out.below (HB.out.alloc hws _)).take _
      · have g0 : (x.kind == 0) = false := by simpa using h0
        have H0 := Lib.hid h0
        clear h0
        go_wp2
        go_roundg (l.length - (k + 1))
        case measure => omega
        case rel => exact ⟨k + 1, by omega, rfl, by go_num, fun j hj hl => by
          rcases Nat.lt_or_ge j k with h | h
          · exact HN.out j h hl
          · obtain rfl : j = k := by omega
            rw [HX.out]; exact H0.out, HB.out.alloc hws _⟩
    · clear hn hb hr
      go_wp2
      exact ⟨_, rfl, by rw [chainL_none l (fun j hj => HN.out j (by omega) hj)]; exact SlV.nil _ _, HB.out⟩

set_option maxHeartbeats 400000 in
theorem rcode (l : List Li) (v : Value) (w : World) (hv : SlV w 6 v (l.map Li.enc)) (hm : l.length ≤ 9223372036854775807) :
    Calls Tryd.prog 18 #[v] w (Ans w (.int .i64 (codeR l))) := by
  obtain ⟨A, c, rfl, hlc, hr⟩ := hv
  simp only [List.length_map] at hlc ⊢
  refine via fun Q hQ => ?_
  by_cases hlen : l.length = 0
  · have g0 : ((l.length : Int) == 0) = true := by simpa using hlen
    have hl : l = [] := List.eq_nil_of_length_eq_zero hlen
    have HL := Lib.hid hl
    clear hl hr hlen
    go_enter Tryd.func18, Tryd.ntmps18
    go_wp2
    exact ⟨by rw [HL.out]; rfl, Below.refl _ _⟩
  · have g0 : ((l.length : Int) == 0) = false := by simpa using hlen
    have hlt : l.length - 1 < l.length := by omega
    obtain ⟨b, o, rfl, c0, c1, c2, c3, c4, c5⟩ := li_cells hr (Below.refl _ _) hlt
    have hlast : l.getLast? = some l[l.length - 1] := by rw [List.getLast?_eq_getElem?, List.getElem?_eq_getElem hlt]
    generalize hxe : l[l.length - 1] = x at c0 c1 c2 c3 c4 c5 hlast
    have HL := Lib.hid hlast
    have hi : ((l.length : Int) - 1).toNat = l.length - 1 := by omega
    have h0 : (0 : Int) ≤ (l.length : Int) - 1 := by omega
    clear hlast hr hxe hlen
    go_enter Tryd.func18, Tryd.ntmps18
    go_wp2
    exact ⟨by unfold codeR; rw [HL.out]; rfl, Below.refl _ _⟩

set_option maxHeartbeats 1000000 in
theorem rplace (l : List Li) (v : Value) (w : World) (hv : SlV w 6 v (l.map Li.enc)) (hm : l.length ≤ 9223372036854775806) :
    Calls Tryd.prog 20 #[v] w (Ans w (.int .i64 (placeR l))) := by
  obtain ⟨A, c, rfl, hlc, hr⟩ := hv
  simp only [List.length_map] at hlc ⊢
  refine via fun Q hQ => ?_
  go_enter Tryd.func20, Tryd.ntmps20
  go_wp2
  go_loopg [7] (l.length) (fun n i wr => ∃ k : Nat, k ≤ l.length ∧ n = l.length - k ∧ i = .int .i64 k ∧ placeR (l.drop k) = placeR l ∧ Below w.heap.size w wr)
  case atStart => exact ⟨0, Nat.zero_le _, rfl, rfl, rfl, Below.refl _ _⟩
  case round =>
    obtain ⟨k, hk, rfl, rfl, hn, hb⟩ := hrel
    have hws := hb.size
    have HN := Lib.hid hn
    have HB := Lib.hid hb
    by_cases hlt : k < l.length
    · obtain ⟨b, o, rfl, c0, c1, c2, c3, c4, c5⟩ := li_cells hr hb hlt
      have hd := List.drop_eq_getElem_cons hlt
      generalize hxe : l[k] = x at c0 c1 c2 c3 c4 c5 hd
      have HD := Lib.hid hd
      clear hn hb hr hxe hd
      by_cases h0 : x.kind = 1
      · have g0 : (x.kind == 1) = true := by simpa using h0
        have H0 := Lib.hid h0
        clear h0
        go_wp2
        exact ⟨by rw [← HN.out, HD.out]; unfold placeR; rw [if_pos H0.out]; rfl, HB.out.alloc hws _⟩
      · have g0 : (x.kind == 1) = false := by simpa using h0
        have H0 := Lib.hid h0
        clear h0
        go_wp2
        go_roundg (l.length - (k + 1))
        case measure => omega
        case rel => exact ⟨k + 1, by omega, rfl, by go_num, by rw [← HN.out, HD.out]; conv => rhs; unfold placeR; rw [if_neg H0.out], HB.out.alloc hws _⟩
    · clear hn hb hr
      go_wp2
      exact ⟨by rw [← HN.out, List.drop_eq_nil_of_le (by omega)]; rfl, HB.out⟩

def Lim (w : World) (x : Int × Int × Bool) (e : Ending) (w' : World) : Prop := e = .returned (.tuple #[.int .i64 x.1, .int .i64 x.2.1, .bool x.2.2]) ∧ Below w.heap.size w w'
theorem Fr.drewN_below {w a : World} (h : Below w.heap.size w a) (n : Nat) : Below w.heap.size w (a.drewN n) := ⟨h.os, h.tape, h.output, h.size, h.block⟩

set_option maxHeartbeats 1000000 in
theorem rlimit (l : List Li) (v : Value) (w : World) (hv : SlV w 6 v (l.map Li.enc)) (hm : l.length ≤ 9223372036854775806) :
    Calls Tryd.prog 25 #[v] w (Lim w (limitR l)) := by
  obtain ⟨A, c, rfl, hlc, hr⟩ := hv
  simp only [List.length_map] at hlc ⊢
  refine via fun Q hQ => ?_
  go_enter Tryd.func25, Tryd.ntmps25
  go_wp2
  go_loopg [9] (l.length) (fun n i wr => ∃ k : Nat, k ≤ l.length ∧ n = l.length - k ∧ i = .int .i64 k ∧ limitR (l.drop k) = limitR l ∧ Below w.heap.size w wr)
  case atStart => exact ⟨0, Nat.zero_le _, rfl, rfl, rfl, Below.refl _ _⟩
  case round =>
    obtain ⟨k, hk, rfl, rfl, hn, hb⟩ := hrel
    have hws := hb.size
    have HN := Lib.hid hn
    have HB := Lib.hid hb
    by_cases hlt : k < l.length
    · obtain ⟨b, o, rfl, c0, c1, c2, c3, c4, c5⟩ := li_cells hr hb hlt
      have hd := List.drop_eq_getElem_cons hlt
      generalize hxe : l[k] = x at c0 c1 c2 c3 c4 c5 hd
      have HD := Lib.hid hd
      clear hn hb hr hxe hd
      by_cases h0 : x.kind = 3
      · have g0 : (x.kind == 3) = true := by simpa using h0
        have H0 := Lib.hid h0
        clear h0
        go_wp2
        go_quiet (fail)
        go_wp2
        go_ret3
        exact hQ _ _ ⟨by rw [← HN.out, HD.out]; unfold limitR; rw [if_pos H0.out]; rfl, Fr.drewN_below (HB.out.alloc hws _) _⟩
      · have g0 : (x.kind == 3) = false := by simpa using h0
        have H0 := Lib.hid h0
        clear h0
        go_wp2
        go_roundg (l.length - (k + 1))
        case measure => omega
        case rel => exact ⟨k + 1, by omega, rfl, by go_num, by rw [← HN.out, HD.out]; conv => rhs; unfold limitR; rw [if_neg H0.out], HB.out.alloc hws _⟩
    · clear hn hb hr
      go_wp2
      go_ret3
      exact hQ _ _ ⟨by rw [← HN.out, List.drop_eq_nil_of_le (by omega)]; rfl, HB.out⟩

/-- A list of texts of the call's own is answered. -/
def StrsAns (w : World) (E : TypeId) (l : List ByteArray) (e : Ending) (w' : World) : Prop := ∃ u, e = .returned u ∧ Own w' w.heap.size E 1 u (l.map strRow) ∧ Below w.heap.size w w'

set_option maxHeartbeats 1000000 in
theorem rtrail (l : List Li) (v : Value) (w : World) (hv : SlV w 6 v (l.map Li.enc)) (hm : l.length ≤ 1000000) :
    Calls Tryd.prog 28 #[v] w (StrsAns w 9 (trailR l)) := by
  obtain ⟨A, c, rfl, hlc, hr⟩ := hv
  simp only [List.length_map] at hlc ⊢
  refine via fun Q hQ => ?_
  go_enter Tryd.func28, Tryd.ntmps28
  go_wp2
  go_loopg [3, 8] (l.length) (fun n s i wr => ∃ k : Nat, k ≤ l.length ∧ n = l.length - k ∧ i = .int .i64 k ∧ Own wr w.heap.size 9 1 s ((trailR (l.take k)).map strRow) ∧ Below w.heap.size w wr)
  case atStart => exact ⟨0, Nat.zero_le _, rfl, rfl, Own.nil _ _ _ _, Below.refl _ _⟩
  case round =>
    obtain ⟨k, hk, rfl, rfl, ho, hb⟩ := hrel
    have hws := hb.size
    have HO := Lib.hid ho
    have HB := Lib.hid hb
    by_cases hlt : k < l.length
    · obtain ⟨b, o, rfl, c0, c1, c2, c3, c4, c5⟩ := li_cells hr hb hlt
      have hd : l.take (k + 1) = l.take k ++ [l[k]] := List.take_succ_eq_append_getElem hlt
      generalize hxe : l[k] = x at c0 c1 c2 c3 c4 c5 hd
      have HD := Lib.hid hd
      have htl : (trailR (l.take k)).length ≤ k := by unfold trailR; rw [List.length_map]; exact Nat.le_trans (List.length_filter_le _ _) (by simp; omega)
      clear ho hb hr hxe hd
      by_cases h0 : x.kind = 2
      · have g0 : (x.kind == 2) = true := by simpa using h0
        have H0 := Lib.hid h0
        clear h0
        go_wp2_with (at_builtin; go_must (refine append1 w.heap.size 9 1 16 (.string ⟨#[]⟩) rfl (.tmp 15) (.tmp 18) 43 rfl Tryd.underlying43 (by kernel_rfl) rfl (by decide) (by decide) _ ((trailR (l.take k)).map strRow) _ rfl _ rfl (by simp) rfl (by simp [Value.oneCell']) (HO.out.alloc _) (by simp; omega) (by simp; omega) ?_); intro v1 w1 hown1 hfr1)
        go_roundg (l.length - (k + 1))
        case measure => omega
        case rel => exact ⟨k + 1, by omega, rfl, by go_num, by
            rw [HD.out]
            have e : trailR (l.take k ++ [x]) = trailR (l.take k) ++ [x.name] := by unfold trailR; rw [List.filter_append]; simp [H0.out]
            rw [e, List.map_append]
            exact hown1, (HO.out.alloc _).fr_below (HB.out.alloc hws _) (by simp; omega) hfr1⟩
      · have g0 : (x.kind == 2) = false := by simpa using h0
        have H0 := Lib.hid h0
        clear h0
        go_wp2
        go_roundg (l.length - (k + 1))
        case measure => omega
        case rel => exact ⟨k + 1, by omega, rfl, by go_num, by
            rw [HD.out]
            have e : trailR (l.take k ++ [x]) = trailR (l.take k) := by unfold trailR; rw [List.filter_append]; simp [H0.out]
            rw [e]
            exact HO.out.alloc _, HB.out.alloc hws _⟩
    · clear ho hb hr
      go_wp2
      exact ⟨_, rfl, by rw [List.take_of_length_le (by omega)] at HO; exact HO.out, HB.out⟩
end Go.Proofs.YtoejeiaeladgjaaDoor
