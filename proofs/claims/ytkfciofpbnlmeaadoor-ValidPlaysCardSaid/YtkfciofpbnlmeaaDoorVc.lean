/- slices.Contains, IndexFunc, ContainsFunc at texts; what a history's closures tell. -/
import Derived.Test.YtkfciofpbnlmeaaDoorIc
import Derived.Test.YtkfciofpbnlmeaaDoorVb
import Derived.Lib.SlicesS
import Derived.Deep.LoopGhost
set_option linter.unusedVariables false
set_option linter.unusedSimpArgs false
set_option maxRecDepth 100000
namespace Go.Proofs.YtkfciofpbnlmeaaDoor
open Go.Proofs.BL Go.Proofs.Peel Go.RowKit Go.Proofs.Ky Go.Proofs.Vl

theorem any_next {α : Type _} {p : α → Bool} {l : List α} {j : Nat} {r : α} (hx : l[j]? = some r) (h : (l.take j).any p = false) : (p r = true → l.any p = true) ∧ (p r = false → (l.take (j + 1)).any p = false) := by
  have hj := (List.getElem?_eq_some_iff.1 hx).1
  have e : l[j] = r := (List.getElem?_eq_some_iff.1 hx).2
  refine ⟨fun hp => List.any_eq_true.2 ⟨r, List.mem_of_getElem? hx, hp⟩, fun hp => ?_⟩
  rw [List.take_succ_eq_append_getElem hj, List.any_append, h, e]
  simp [hp]
def hasK (l : List Str) (k : Str) : Bool := @List.contains Str instBEqOfDecidableEq l k
/-- A call that tells something and makes no more than new memory. -/
def Tells_ (v : Value) (w : World) (e : Ending) (w' : World) : Prop := e = .returned v ∧ Below w.heap.size w w'
theorem cContains (A : Option Addr) (c n : Nat) (l : List Str) (key : Str) (w : World) (hr : RowsAt w 1 A (rwS l)) (hn : l.length = n) (hl : n ≤ 1000000) :
    Calls Tryd.prog 40 #[.slice A n c, .string key] w (Tells_ (.bool (hasK l key)) w) := by
  subst hn
  cases l with
  | nil =>
    refine (Tryd.slices_Contains_string_empty A c key w).mono ?_
    rintro e w' ⟨rfl, rfl⟩
    exact ⟨rfl, Below.refl _ _⟩
  | cons x l =>
    obtain ⟨b, o, rfl, _⟩ := txtAt hr (i := 0) (r := x) rfl
    refine (Tryd.slices_Contains_string b o (x :: l).length c (x :: l) key w (Nat.le_refl _) (by omega) (fun j hj => ?_)).mono ?_
    · obtain ⟨b', o', e', hc'⟩ := txtAt hr (i := j) (r := (x :: l)[j]) (List.getElem?_eq_getElem hj)
      injection e' with e'
      injection e' with e1 e2
      subst e1 e2
      rw [hc']
      rw [List.getD, List.getElem?_eq_getElem hj]
      rfl
    · rintro e w' ⟨rfl, rfl⟩
      refine ⟨?_, Below.refl _ _⟩
      rw [List.take_length]
      have : Lib.containsS (x :: l) key = hasK (x :: l) key := by
        rw [Bool.eq_iff_iff, Lib.containsS_iff, hasK]
        letI : BEq Str := instBEqOfDecidableEq
        exact List.contains_iff_mem.symm
      rw [this]
set_option maxHeartbeats 2000000 in
/-- The innermost closure: does this commit hold the key? -/
theorem cKey (A : Option Addr) (c n Bk : Nat) (l : List Str) (key : Str) (w : World) (hr : RowsAt w 1 A (rwS l)) (hn : l.length = n) (hl : n ≤ 1000000) (hB : w.cell? ⟨Bk, 0, none⟩ = some (.slice A n c)) :
    Calls Tryd.prog 39 #[.string key, .pointer (some ⟨Bk, 0, none⟩)] w (Tells_ (.bool (hasK l key)) w) := by
  refine via fun Q hQ => ?_
  have HC := Lib.hid (cContains A c n l key w hr hn hl)
  have HQ := Lib.hid hQ
  clear hr hQ
  go_enter Tryd.func39, Tryd.ntmps39
  go_wp2_with fail
  (with_reducible refine HC.out.mono ?_)
  rintro e w1 ⟨rfl, hb⟩
  go_wp2_with fail
  exact HQ.out _ _ ⟨rfl, hb⟩
/-- A function value tells something of each text. -/
def PredS (g : FuncId) (lb : Array Value) (p : Str → Bool) (l : List Str) (w : World) : Prop :=
  ∀ o ∈ l, ∀ W, Below w.heap.size w W → Calls Tryd.prog g (#[.string o] ++ lb) W (Tells_ (.bool (p o)) W)
def IdxPost (b : Bool) (w : World) (e : Ending) (w' : World) : Prop := ∃ z : Int, e = .returned (.int .i64 z) ∧ decide (z ≥ 0) = b ∧ Below w.heap.size w w'
set_option maxHeartbeats 2000000 in
theorem idxS (g : FuncId) (lb : Array Value) (eg : ∀ args w, (callFunc g args).run Tryd.prog w = .ok (.enter g args) w) (p : Str → Bool) (A : Option Addr) (c n : Nat) (l : List Str) (w : World) (hr : RowsAt w 1 A (rwS l)) (hn : l.length = n) (hl : n ≤ 1000000) (hp : PredS g lb p l w) :
    Calls Tryd.prog 45 #[.slice A n c, .func (.func g) #[] lb] w (IdxPost (l.any p) w) := by
  refine via fun Q hQ => ?_
  have HR := Lib.hid hr
  have HP := Lib.hid hp
  have HNL := Lib.hid hn
  have HQ := Lib.hid hQ
  clear hr hp hn hQ
  go_enter Tryd.func45, Tryd.ntmps45
  go_wp2_with fail
  go_loopg [8] n (fun d x wr => ∃ j : Nat, j ≤ n ∧ d = n - j ∧ x = .int .i64 j ∧ Hid ((l.take j).any p = false) ∧ Hid (Below w.heap.size w wr))
  case atStart => exact ⟨0, Nat.zero_le _, rfl, rfl, Lib.hid rfl, Lib.hid (Below.refl _ _)⟩
  case round =>
    obtain ⟨j, hj, rfl, rfl, HT, HB⟩ := hrel
    by_cases hlt : j < n
    · have hx : l[j]? = some (l[j]'(by rw [HNL.out]; exact hlt)) := List.getElem?_eq_getElem _
      generalize l[j]'(by rw [HNL.out]; exact hlt) = r at hx
      obtain ⟨b, o, hA, c1⟩ := txtAt (HR.out.below HB.out) hx
      subst hA
      have hnx := any_next hx HT.out
      have hcall := HP.out r (List.mem_of_getElem? hx) wr HB.out
      generalize p r = z at hcall hnx
      have HNX := Lib.hid hnx
      have HCall := Lib.hid hcall
      clear hx hnx hcall
      go_wp2_with fail
      refine HCall.out.mono ?_
      rintro e w2 ⟨rfl, hb2⟩
      have HB2 := Lib.hid (below_then HB.out hb2)
      clear hb2 HCall
      cases z with
      | true =>
        have HE := Lib.hid (HNX.out.1 rfl)
        go_wp2_with fail
        exact HQ.out _ _ ⟨j, rfl, by rw [HE.out]; exact decide_eq_true (by omega), HB2.out⟩
      | false =>
        have HE := Lib.hid (HNX.out.2 rfl)
        go_wp2_with fail
        go_roundg (n - (j + 1))
        case measure => omega
        case rel => exact ⟨j + 1, by omega, rfl, by go_num, HE, HB2⟩
    · obtain rfl : j = n := by omega
      have hT := HT.out
      rw [List.take_of_length_le (by rw [HNL.out]; exact Nat.le_refl _)] at hT
      have HE := Lib.hid hT
      clear hT
      go_wp2_with fail
      exact HQ.out _ _ ⟨-1, rfl, by rw [HE.out]; rfl, HB.out⟩
set_option maxHeartbeats 2000000 in
theorem anyS (g : FuncId) (lb : Array Value) (eg : ∀ args w, (callFunc g args).run Tryd.prog w = .ok (.enter g args) w) (p : Str → Bool) (A : Option Addr) (c n : Nat) (l : List Str) (w : World) (hr : RowsAt w 1 A (rwS l)) (hn : l.length = n) (hl : n ≤ 1000000) (hp : PredS g lb p l w) :
    Calls Tryd.prog 38 #[.slice A n c, .func (.func g) #[] lb] w (Tells_ (.bool (l.any p)) w) := by
  refine via fun Q hQ => ?_
  have HI := Lib.hid (idxS g lb eg p A c n l w hr hn hl hp)
  have HQ := Lib.hid hQ
  clear hr hp hQ
  go_enter Tryd.func38, Tryd.ntmps38
  go_wp2_with fail
  (with_reducible refine HI.out.mono ?_)
  rintro e w1 ⟨z, rfl, hz, hb⟩
  have HZ := Lib.hid hz
  clear hz
  go_wp2_with fail
  exact HQ.out _ _ ⟨by rw [← HZ.out]; rfl, hb⟩
set_option maxHeartbeats 2000000 in
/-- The outer closure: does this commit hold any of the keys that were read? -/
theorem cHit (A Ar : Option Addr) (c n cr nr Br : Nat) (s reads : List Str) (w : World) (hr : RowsAt w 1 A (rwS s)) (hn : s.length = n) (hl : n ≤ 1000000) (hrr : RowsAt w 1 Ar (rwS reads)) (hnr : reads.length = nr) (hlr : nr ≤ 1000000)
    (hB : w.cell? ⟨Br, 0, none⟩ = some (.slice Ar nr cr)) :
    Calls Tryd.prog 37 #[.slice A n c, .pointer (some ⟨Br, 0, none⟩)] w (Tells_ (.bool (hitB reads s)) w) := by
  refine via fun Q hQ => ?_
  have hal := (Below.refl w.heap.size w).alloc (Nat.le_refl _) (.cells #[.slice A n c] 23)
  have hcell : (w.alloc (.cells #[.slice A n c] 23)).cell? ⟨w.heap.size, 0, none⟩ = some (.slice A n c) := (Blk.new w #[.slice A n c] 23).at_ 0 rfl
  have hp : PredS 39 #[.pointer (some ⟨w.heap.size, 0, none⟩)] (fun k => hasK s k) reads (w.alloc (.cells #[.slice A n c] 23)) := fun o _ W hW =>
    cKey A c n w.heap.size s o W ((hr.below hal).below hW) hn hl ((hW.cell (World.block_lt_of_cell? _ _ hcell)).trans hcell)
  have HA := Lib.hid (anyS 39 #[.pointer (some ⟨w.heap.size, 0, none⟩)] (enters_of Tryd.func39 (by kernel_rfl) rfl) (fun k => hasK s k) Ar cr nr reads _ (hrr.below hal) hnr hlr hp)
  have hB2 := (hal.cell (World.block_lt_of_cell? _ _ hB)).trans hB
  have HQ := Lib.hid hQ
  have HAL := Lib.hid hal
  clear hr hrr hQ hp hal hcell
  go_enter Tryd.func37, Tryd.ntmps37
  go_wp2_with fail
  (with_reducible refine HA.out.mono ?_)
  rintro e w1 ⟨rfl, hb⟩
  have HB := Lib.hid (below_then HAL.out hb)
  go_wp2_with fail
  exact HQ.out _ _ ⟨rfl, HB.out⟩
/-- The lists in a row: each is what its slice value reads. -/
def LsAt (w : World) (vs : List Value) (L : List (List Str)) : Prop := vs.length = L.length ∧ ∀ (i : Nat) (s : List Str), L[i]? = some s → ∃ A c, vs[i]? = some (.slice A s.length c) ∧ s.length ≤ c ∧ (A = none → c = 0) ∧ RowsAt w 1 A (rwS s)
theorem LsAt.below {w w' : World} {vs : List Value} {L : List (List Str)} (h : LsAt w vs L) (hb : Below w.heap.size w w') : LsAt w' vs L := ⟨h.1, fun i s hi => by obtain ⟨A, c, h1, h2, h3, h4⟩ := h.2 i s hi; exact ⟨A, c, h1, h2, h3, h4.below hb⟩⟩
theorem LsAt.drop {w : World} {vs : List Value} {L : List (List Str)} (h : LsAt w vs L) (n : Nat) : LsAt w (vs.drop n) (L.drop n) := ⟨by rw [List.length_drop, List.length_drop, h.1], fun i s hi => by
  rw [List.getElem?_drop] at hi ⊢
  exact h.2 _ s hi⟩
def firstI (r : Option Nat) : Int := match r with | some i => (i : Int) | none => -1
def FstPost (r : Option Nat) (w : World) (e : Ending) (w' : World) : Prop := e = .returned (.int .i64 (firstI r)) ∧ Below w.heap.size w w'
theorem find_some {α : Type _} {p : α → Bool} {l : List α} {j : Nat} {r : α} (hx : l[j]? = some r) (h : (l.take j).any p = false) (hp : p r = true) : l.findIdx? p = some j := by
  have hj := (List.getElem?_eq_some_iff.1 hx).1
  have e : l[j] = r := (List.getElem?_eq_some_iff.1 hx).2
  refine List.findIdx?_eq_some_iff_getElem.2 ⟨hj, by rw [e]; exact hp, fun i hi => ?_⟩
  have h2 := List.any_eq_false.1 h (l[i]'(by omega)) (List.mem_take_iff_getElem.2 ⟨i, by omega, rfl⟩)
  simpa using h2
theorem find_none {α : Type _} {p : α → Bool} {l : List α} (h : l.any p = false) : l.findIdx? p = none := List.findIdx?_eq_none_iff.2 (fun x hx => by simpa using List.any_eq_false.1 h x hx)
set_option maxHeartbeats 2000000 in
theorem idxL (A Ar : Option Addr) (c n cr nr Br : Nat) (vs : List Value) (L : List (List Str)) (reads : List Str) (w : World) (hr : RowsAt w 1 A (lfR vs)) (hL : LsAt w vs L) (hn : L.length = n) (hl : n ≤ 1000000) (hls : ∀ s ∈ L, s.length ≤ 1000000) (hrr : RowsAt w 1 Ar (rwS reads)) (hnr : reads.length = nr) (hlr : nr ≤ 1000000)
    (hB : w.cell? ⟨Br, 0, none⟩ = some (.slice Ar nr cr)) :
    Calls Tryd.prog 36 #[.slice A n c, .func (.func 37) #[] #[.pointer (some ⟨Br, 0, none⟩)]] w (FstPost (L.findIdx? (hitB reads)) w) := by
  refine via fun Q hQ => ?_
  have HR := Lib.hid hr
  have HLs := Lib.hid hL
  have HRR := Lib.hid hrr
  have HNL := Lib.hid hn
  have HBx := Lib.hid hB
  have HNR := Lib.hid hnr
  have HSZ := Lib.hid hls
  have HQ := Lib.hid hQ
  have eg : ∀ args w, (callFunc 37 args).run Tryd.prog w = .ok (.enter 37 args) w := enters_of Tryd.func37 (by kernel_rfl) rfl
  clear hr hL hrr hn hB hnr hls hQ
  go_enter Tryd.func36, Tryd.ntmps36
  go_wp2_with fail
  go_loopg [8] n (fun d x wr => ∃ j : Nat, j ≤ n ∧ d = n - j ∧ x = .int .i64 j ∧ Hid ((L.take j).any (hitB reads) = false) ∧ Hid (Below w.heap.size w wr))
  case atStart => exact ⟨0, Nat.zero_le _, rfl, rfl, Lib.hid rfl, Lib.hid (Below.refl _ _)⟩
  case round =>
    obtain ⟨j, hj, rfl, rfl, HT, HB⟩ := hrel
    by_cases hlt : j < n
    · have hx : L[j]? = some (L[j]'(by rw [HNL.out]; exact hlt)) := List.getElem?_eq_getElem _
      generalize L[j]'(by rw [HNL.out]; exact hlt) = s at hx
      obtain ⟨As, cs, hv, hcs, _, hrs⟩ := (HLs.out.below HB.out).2 j s hx
      obtain ⟨b, o, hA, hc⟩ := (HR.out.below HB.out) j _ (lfR_at hv)
      have c1 := hc 0 _ rfl
      rw [Nat.mul_one, Nat.add_zero] at c1
      subst hA
      have hcall := cHit As Ar cs s.length cr nr Br s reads wr hrs rfl (HSZ.out s (List.mem_of_getElem? hx)) (HRR.out.below HB.out) HNR.out hlr ((HB.out.cell (World.block_lt_of_cell? _ _ HBx.out)).trans HBx.out)
      have hnx := any_next (p := hitB reads) hx HT.out
      have hfs := find_some (p := hitB reads) hx HT.out
      generalize hitB reads s = z at hcall hnx hfs
      have HNX := Lib.hid hnx
      have HFS := Lib.hid hfs
      have HCall := Lib.hid hcall
      clear hx hnx hcall hfs hv hrs hc
      go_wp2_with fail
      (with_reducible refine HCall.out.mono ?_)
      rintro e w2 ⟨rfl, hb2⟩
      have HB2 := Lib.hid (below_then HB.out hb2)
      clear hb2 HCall
      cases z with
      | true =>
        have HE := Lib.hid (HFS.out rfl)
        go_wp2_with fail
        exact HQ.out _ _ ⟨by rw [HE.out]; rfl, HB2.out⟩
      | false =>
        have HE := Lib.hid (HNX.out.2 rfl)
        go_wp2_with fail
        go_roundg (n - (j + 1))
        case measure => omega
        case rel => exact ⟨j + 1, by omega, rfl, by go_num, HE, HB2⟩
    · obtain rfl : j = n := by omega
      have hT := HT.out
      rw [List.take_of_length_le (by rw [HNL.out]; exact Nat.le_refl _)] at hT
      have HE := Lib.hid (find_none hT)
      clear hT
      go_wp2_with fail
      exact HQ.out _ _ ⟨by rw [HE.out]; rfl, HB.out⟩
end Go.Proofs.YtkfciofpbnlmeaaDoor
