/- Operations as rows; the law's Cut of chapter 6, walked. slices.BinarySearchFunc at rows and keys; where a key stands. -/
import Derived.Test.YtigffdmpofcdgaaGreatDoorJA
import Derived.Deep.LoopGhost
import Derived.WalkLawsBesides
import Derived.WalkSpells
import Derived.Test.YtigffdmpofcdgaaGreatDoorJS
import Derived.Test.YtigffdmpofcdgaaGreatDoorJP
section
set_option linter.unusedVariables false
set_option maxRecDepth 100000
namespace Go.Proofs.YtigffdmpofcdgaaGreatDoor
open Go.Proofs.BL Go.Proofs.Peel Go.RowKit
/-- An operation. -/
structure Opr where
  kind : Int
  key : ByteArray
  n : Int
  lo : Int
def enO (o : Opr) : List Value := [.int .i64 o.kind, .string o.key, .int .i64 o.n, .int .i64 o.lo]
def rwO (l : List Opr) : List (List Value) := l.map enO
theorem rwO_len (l : List Opr) : (rwO l).length = l.length := by simp [rwO]
theorem enO_one (o : Opr) : ∀ u ∈ enO o, u.oneCell' = true := fun u hu => by
  simp [enO] at hu
  rcases hu with rfl | rfl | rfl | rfl <;> rfl
theorem rwO_one (l : List Opr) : ∀ r, r ∈ rwO l → ∀ u ∈ r, u.oneCell' = true := fun r hr => by obtain ⟨x, _, rfl⟩ := List.mem_map.1 hr; exact enO_one x
theorem opAt {w : World} {A : Option Addr} {l : List Opr} (h : RowsAt w 4 A (rwO l)) {i : Nat} {r : Opr} (hi : l[i]? = some r) :
    ∃ b o, A = some ⟨b, o, none⟩ ∧ w.cell? ⟨b, o + i * 4, none⟩ = some (.int .i64 r.kind) ∧ w.cell? ⟨b, o + i * 4 + 1, none⟩ = some (.string r.key) ∧ w.cell? ⟨b, o + i * 4 + 2, none⟩ = some (.int .i64 r.n) ∧ w.cell? ⟨b, o + i * 4 + 3, none⟩ = some (.int .i64 r.lo) := by
  obtain ⟨b, o, e, hc⟩ := h i (enO r) (by rw [rwO, List.getElem?_map, hi]; rfl)
  exact ⟨b, o, e, hc 0 _ rfl, hc 1 _ rfl, hc 2 _ rfl, hc 3 _ rfl⟩
def cut20 (s : ByteArray) : ByteArray := if 20 < s.size then s.extract 0 20 else s
def cutO (o : Opr) : Opr := ⟨o.kind, cut20 o.key, o.n, o.lo⟩
def cutOs (l : List Opr) : List Opr := (l.take 12).map cutO
theorem cut20_len (s : ByteArray) : (cut20 s).size ≤ 20 := by
  unfold cut20
  split
  · simp; omega
  · omega
def CutOPost (l : List Opr) (w : World) (e : Ending) (w' : World) : Prop := ∃ v, e = .returned v ∧ Own w' w.heap.size 67 4 v (rwO (cutOs l)) ∧ Below w.heap.size w w'
theorem cutOs_end {l : List Opr} {j : Nat} (hj : j ≤ 12) (h : j = l.length ∨ (j = 12)) : (l.take j).map cutO = cutOs l := by
  unfold cutOs
  rcases h with rfl | rfl
  · rw [List.take_of_length_le (Nat.le_refl _), List.take_of_length_le hj]
  · rfl
theorem cutOs_next {l : List Opr} {j : Nat} {r : Opr} (h : l[j]? = some r) : rwO ((l.take (j + 1)).map cutO) = rwO ((l.take j).map cutO) ++ [enO (cutO r)] := by
  have hj := (List.getElem?_eq_some_iff.1 h).1
  have e : l[j] = r := (List.getElem?_eq_some_iff.1 h).2
  rw [List.take_succ_eq_append_getElem hj, e]
  simp [rwO]
end Go.Proofs.YtigffdmpofcdgaaGreatDoor
end

section
set_option linter.unusedVariables false
set_option linter.unusedSimpArgs false
set_option maxRecDepth 100000
namespace Go.Proofs.Ky
open Go.Proofs.BL
/-- Keys by their bytes. -/
def tx : Ord ByteArray where
  lt a b := decide (BL.txt a < BL.txt b)
  irr a := decide_eq_false (bl_irr _)
  tr a b c h1 h2 := decide_eq_true (bl_tr _ _ _ (of_decide_eq_true h1) (of_decide_eq_true h2))
  tot a b h1 h2 := txt_inj (bl_tot _ _ (of_decide_eq_false h1) (of_decide_eq_false h2))
theorem cmp_lt : ∀ a b : List UInt8, Lib.compareBytes a b < 0 ↔ a < b
  | [], [] => by simp [Lib.compareBytes]
  | [], _ :: _ => by simp [Lib.compareBytes]
  | _ :: _, [] => by simp [Lib.compareBytes]
  | x :: a, y :: b => by
    rw [Lib.compareBytes, List.cons_lt_cons_iff]
    by_cases h1 : x < y
    · simp [h1]
    · rw [if_neg h1]
      by_cases h2 : y < x
      · rw [if_pos h2]
        constructor
        · intro h; omega
        · rintro (h | ⟨rfl, h⟩)
          · exact absurd h h1
          · exact absurd h2 (u8_irr _)
      · rw [if_neg h2, cmp_lt a b]
        have := u8_tot x y h1 h2
        subst this
        simp [u8_irr]
theorem cmp_eq : ∀ a b : List UInt8, Lib.compareBytes a b = 0 ↔ a = b
  | [], [] => by simp [Lib.compareBytes]
  | [], _ :: _ => by simp [Lib.compareBytes]
  | _ :: _, [] => by simp [Lib.compareBytes]
  | x :: a, y :: b => by
    rw [Lib.compareBytes]
    by_cases h1 : x < y
    · rw [if_pos h1]
      simp
      intro h
      subst h
      exact absurd h1 (u8_irr _)
    · rw [if_neg h1]
      by_cases h2 : y < x
      · rw [if_pos h2]
        simp
        intro h
        subst h
        exact absurd h2 (u8_irr _)
      · rw [if_neg h2, cmp_eq a b]
        have := u8_tot x y h1 h2
        subst this
        simp
end Go.Proofs.Ky
namespace Go.Proofs.YtigffdmpofcdgaaGreatDoor
open Go.Proofs.BL Go.Proofs.Peel Go.RowKit Go.Proofs.Ky
abbrev Rw := Row ByteArray
def enR (r : Rw) : List Value := [.string r.1, .int .i64 r.2]
def rwR (l : List Rw) : List (List Value) := l.map enR
theorem rwR_len (l : List Rw) : (rwR l).length = l.length := by simp [rwR]
theorem rwR_two (l : List Rw) : ∀ r, r ∈ rwR l → r.length = 2 := fun r hr => by obtain ⟨x, _, rfl⟩ := List.mem_map.1 hr; rfl
theorem enR_one (r : Rw) : ∀ u ∈ enR r, u.oneCell' = true := fun u hu => by
  simp [enR] at hu
  rcases hu with rfl | rfl <;> rfl
theorem rwR_one (l : List Rw) : ∀ r, r ∈ rwR l → ∀ u ∈ r, u.oneCell' = true := fun r hr => by obtain ⟨x, _, rfl⟩ := List.mem_map.1 hr; exact enR_one x
/-- A row's cells. -/
theorem rowAt {w : World} {A : Option Addr} {l : List Rw} (h : RowsAt w 2 A (rwR l)) {i : Nat} {r : Rw} (hi : l[i]? = some r) :
    ∃ b o, A = some ⟨b, o, none⟩ ∧ w.cell? ⟨b, o + i * 2, none⟩ = some (.string r.1) ∧ w.cell? ⟨b, o + i * 2 + 1, none⟩ = some (.int .i64 r.2) := by
  obtain ⟨b, o, e, hc⟩ := h i (enR r) (by rw [rwR, List.getElem?_map, hi]; rfl)
  exact ⟨b, o, e, hc 0 _ rfl, hc 1 _ rfl⟩
def CmpPost (z : Int) (w : World) (e : Ending) (w' : World) : Prop := e = .returned (.int .i64 z) ∧ Below w.heap.size w w'
set_option maxHeartbeats 1000000 in
theorem atC1 (k key : ByteArray) (n : Int) (w : World) : Calls Tryz.prog 68 #[.agg #[.string k, .int .i64 n], .string key] w (CmpPost (Lib.compareBytes (BL.txt k) (BL.txt key)) w) := by
  refine via fun Q hQ => ?_
  go_enter Tryz.func68, Tryz.ntmps68
  go_wp2_with (go_at_call 69; refine (Tryz.strings_Compare _ _ _).mono ?_; rintro e w1 ⟨rfl, rfl⟩)
  exact ⟨rfl, (Below.refl _ _).alloc (Nat.le_refl _) _⟩
def AtCPost (i : Nat) (b : Bool) (w : World) (e : Ending) (w' : World) : Prop := e = .returned (.tuple #[.int .i64 i, .bool b]) ∧ Below w.heap.size w w'
set_option maxHeartbeats 4000000 in
theorem bsfC (A : Option Addr) (c : Nat) (l : List Rw) (key : ByteArray) (w : World) (hr : RowsAt w 2 A (rwR l)) (hup : Up tx l) (hl : l.length ≤ 1000000) (hc : l.length ≤ c) :
    Calls Tryz.prog 67 #[.slice A l.length c, .string key, .func (.func 68) #[] #[]] w (AtCPost (low tx key l) (there tx key l) w) := by
  refine via fun Q hQ => ?_
  have hlow := low_le tx key l
  have hlt : ∀ i r, l[i]? = some r → (Lib.compareBytes (BL.txt r.1) (BL.txt key) < 0 ↔ i < low tx key l) := fun i r hi => by
    rw [cmp_lt, ← low_lt tx hup hi]
    exact (decide_eq_true_iff).symm
  have hth : there tx key l = match l[low tx key l]? with | some r => decide (Lib.compareBytes (BL.txt r.1) (BL.txt key) = 0) | none => false := by
    unfold there
    cases h : l[low tx key l]? with
    | none => rfl
    | some r =>
      simp only []
      show decide (r.1 = key) = _
      rw [decide_eq_decide, cmp_eq]
      exact ⟨fun e => by rw [e], fun e => txt_inj e⟩
  generalize low tx key l = k at *
  generalize there tx key l = th at *
  have HLT := Lib.hid hlt
  have HTH := Lib.hid hth
  have HR := Lib.hid hr
  have HU := Lib.hid hup
  clear hlt hth hr hup
  generalize hn : l.length = n at *
  have HNL := Lib.hid hn
  clear hn
  go_enter Tryz.func67, Tryz.ntmps67
  go_wp2_with fail
  go_loopg [9, 10] n (fun d x y wr => ∃ i j : Nat, i ≤ k ∧ k ≤ j ∧ j ≤ n ∧ d = j - i ∧ x = .int .i64 i ∧ y = .int .i64 j ∧ Below w.heap.size w wr)
  case atStart => exact ⟨0, n, Nat.zero_le _, hlow, Nat.le_refl _, rfl, rfl, rfl, Below.refl _ _⟩
  case round =>
    obtain ⟨i, j, h1, h2, h3, rfl, rfl, rfl, hb⟩ := hrel
    have HB := Lib.hid hb
    clear hb
    by_cases hlt : i < j
    · have hmm : ((i : Int) + (j : Int)) / 2 = (((i + j) / 2 : Nat) : Int) := by omega
      have hmn : (i + j) / 2 < l.length := by have := HNL.out; omega
      obtain ⟨b, o, hA, c1, c2⟩ := rowAt (HR.out.below HB.out) (List.getElem?_eq_getElem hmn)
      subst hA
      have hd := HLT.out _ _ (List.getElem?_eq_getElem hmn)
      generalize l[(i + j) / 2] = r at *
      obtain ⟨kk, nn⟩ := r
      simp only at c1 c2 hd
      have hcall := Lib.hid (atC1 kk key nn wr)
      generalize Lib.compareBytes (BL.txt kk) (BL.txt key) = z at hcall hd
      have hm1 : (i + j) / 2 < n := by omega
      have HMM := Lib.hid hmm
      have HD := Lib.hid hd
      clear hmm hmn hd
      go_wp2_with fail
      refine hcall.out.mono ?_
      rintro e w2 ⟨rfl, hb2⟩
      have HB2 := Lib.hid (below_then HB.out hb2)
      clear hb2 hcall c1 c2
      by_cases hz : z < 0
      · have hk := HD.out.1 hz
        go_wp2_with fail
        go_roundg (j - ((i + j) / 2 + 1))
        case measure => omega
        case rel => exact ⟨(i + j) / 2 + 1, j, hk, h2, h3, rfl, by rw [HMM.out]; go_num, rfl, HB2.out⟩
      · have hk : k ≤ (i + j) / 2 := by
          apply Nat.le_of_not_lt
          intro h
          exact hz (HD.out.2 h)
        have hz2 : decide (z < 0) = false := decide_eq_false hz
        go_wp2_with fail
        go_roundg ((i + j) / 2 - i)
        case measure => omega
        case rel => exact ⟨i, (i + j) / 2, h1, hk, by omega, rfl, rfl, by rw [HMM.out], HB2.out⟩
    · obtain rfl : i = k := by omega
      by_cases hin : i < n
      · have hil : i < l.length := by have := HNL.out; omega
        obtain ⟨b, o, hA, c1, c2⟩ := rowAt (HR.out.below HB.out) (List.getElem?_eq_getElem hil)
        subst hA
        have hd := HTH.out
        rw [List.getElem?_eq_getElem hil] at hd
        generalize l[i] = r at *
        obtain ⟨kk, nn⟩ := r
        simp only at c1 c2 hd
        have hcall := Lib.hid (atC1 kk key nn wr)
        generalize Lib.compareBytes (BL.txt kk) (BL.txt key) = z at hcall hd
        have HD := Lib.hid hd
        clear hd
        go_wp2_with fail
        refine hcall.out.mono ?_
        rintro e w2 ⟨rfl, hb2⟩
        have HB2 := Lib.hid (below_then HB.out hb2)
        clear hb2 hcall c1 c2
        go_wp2_with fail
        exact ⟨by rw [HD.out]; rfl, HB2.out⟩
      · have hil : l[i]? = none := List.getElem?_eq_none (by have := HNL.out; omega)
        have hd := HTH.out
        rw [hil] at hd
        have HD := Lib.hid hd
        have hdn : decide (i < n) = false := decide_eq_false hin
        clear hd hil
        go_wp2_with fail
        exact ⟨by rw [HD.out], HB.out⟩

end Go.Proofs.YtigffdmpofcdgaaGreatDoor
end
