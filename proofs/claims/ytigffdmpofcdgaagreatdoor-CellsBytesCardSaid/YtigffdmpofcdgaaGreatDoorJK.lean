/- Package cells: changes, Apply. The law's Changes, Ours, Plain, alike of chapter 7. -/
import Derived.Test.YtigffdmpofcdgaaGreatDoorJE
import Derived.Test.YtigffdmpofcdgaaGreatDoorJL
import Derived.Shelf.Abstract
section
set_option linter.unusedVariables false
set_option maxRecDepth 100000
namespace Go.Proofs.YtigffdmpofcdgaaGreatDoor
open Go.Proofs.BL Go.Proofs.Peel Go.RowKit Go.Proofs.Ky

abbrev Cg := Chg ByteArray
def enC (c : Cg) : List Value := [.string c.1, .int .i64 c.2.1, .bool c.2.2]
def rwC (l : List Cg) : List (List Value) := l.map enC
theorem rwC_len (l : List Cg) : (rwC l).length = l.length := by simp [rwC]
theorem enC_one (c : Cg) : ∀ u ∈ enC c, u.oneCell' = true := fun u hu => by
  simp [enC] at hu
  rcases hu with rfl | rfl | rfl <;> rfl
theorem rwC_three (l : List Cg) : ∀ r, r ∈ rwC l → r.length = 3 := fun r hr => by obtain ⟨x, _, rfl⟩ := List.mem_map.1 hr; rfl
theorem chAt {w : World} {A : Option Addr} {l : List Cg} (h : RowsAt w 3 A (rwC l)) {i : Nat} {r : Cg} (hi : l[i]? = some r) :
    ∃ b o, A = some ⟨b, o, none⟩ ∧ w.cell? ⟨b, o + i * 3, none⟩ = some (.string r.1) ∧ w.cell? ⟨b, o + i * 3 + 1, none⟩ = some (.int .i64 r.2.1) ∧ w.cell? ⟨b, o + i * 3 + 2, none⟩ = some (.bool r.2.2) := by
  obtain ⟨b, o, e, hc⟩ := h i (enC r) (by rw [rwC, List.getElem?_map, hi]; rfl)
  exact ⟨b, o, e, hc 0 _ rfl, hc 1 _ rfl, hc 2 _ rfl⟩
def mayC (c : Cg) : Bool := decide (c.1.size ≤ 16) && (c.2.2 || decide (c.2.1 = 0))
/-- One change: the rows behind it, what is wrong. -/
def chV (c : Cg) (l : List Rw) : List Rw × List Lk := if c.2.2 then setC c.1 c.2.1 l else (dropP tx c.1 l, [])
def appV (l : List Rw) (cs : List Cg) : List Rw × Int :=
  if cs.any (fun c => !(mayC c)) then (l, 2) else match appP tx l cs with | some m => (m, 0) | none => (l, 5)
theorem chV_ok {c : Cg} {l : List Rw} (h : (chV c l).2 = []) (cs : List Cg) : appP tx l (c :: cs) = appP tx (chV c l).1 cs := by
  obtain ⟨k, n, t⟩ := c
  unfold chV at *
  simp only [appP]
  cases t with
  | false => rfl
  | true =>
    simp only [if_true] at h ⊢
    unfold setC at *
    cases hs : setP tx k n l with
    | none => rw [hs] at h; simp at h
    | some m => rfl
theorem chV_bad {c : Cg} {l : List Rw} (h : (chV c l).2 ≠ []) (cs : List Cg) : appP tx l (c :: cs) = none ∧ codeOf (chV c l).2 = 5 := by
  obtain ⟨k, n, t⟩ := c
  unfold chV at *
  simp only [appP]
  cases t with
  | false => exact absurd rfl h
  | true =>
    simp only [if_true] at h ⊢
    unfold setC at *
    cases hs : setP tx k n l with
    | none => exact ⟨rfl, rfl⟩
    | some m => rw [hs] at h; exact absurd rfl h
theorem fit_ch {c : Cg} {l : List Rw} (h : Fit tx l) : Fit tx (chV c l).1 := by
  unfold chV
  split
  · unfold setC
    rw [set_with tx h.1 h.2]
    split
    · rename_i m hm
      split at hm
      · cases hm
      · injection hm with hm
        subst hm
        exact ⟨up_with_some tx _ h.1, by show (withR tx c.1 (some c.2.1) l).length ≤ 256; omega⟩
    · exact h
  · rw [drop_with tx h.1]
    exact ⟨up_with_none tx h.1, Nat.le_trans (len_with_none tx h.1) h.2⟩
end Go.Proofs.YtigffdmpofcdgaaGreatDoor
end

section
set_option linter.unusedVariables false
set_option maxRecDepth 100000
namespace Go.Proofs.YtigffdmpofcdgaaGreatDoor
open Go.Proofs.BL Go.Proofs.Peel Go.RowKit Go.Proofs.Ky

def ChPost (E : TypeId) (l : List Cg) (w : World) (e : Ending) (w' : World) : Prop := ∃ v, e = .returned v ∧ Own w' w.heap.size E 3 v (rwC l) ∧ Below w.heap.size w w'
set_option maxHeartbeats 4000000 in
theorem lours (A : Option Addr) (c : Nat) (l : List Cg) (w : World) (hr : RowsAt w 3 A (rwC l)) (hl : l.length ≤ 1000000) (hc : l.length ≤ c) :
    Calls Tryz.prog 6 #[.slice A l.length c] w (ChPost 43 l w) := by
  refine via fun Q hQ => ?_
  have HR := Lib.hid hr
  clear hr
  generalize hn : l.length = ln at *
  have HNL := Lib.hid hn
  clear hn
  go_enter Tryz.func6, Tryz.ntmps6
  go_wp2_with fail
  go_loopg [3, 8] ln (fun g x3 x8 wr => ∃ j : Nat, j ≤ ln ∧ g = ln - j ∧ x8 = .int .i64 j ∧ Hid (Own wr w.heap.size 43 3 x3 (rwC (l.take j))) ∧ Hid (Below w.heap.size w wr))
  case atStart => exact ⟨0, Nat.zero_le _, rfl, rfl, Lib.hid (Own.nil _ _ _ _), Lib.hid (Below.refl _ _)⟩
  case round =>
    obtain ⟨j, hj, rfl, rfl, HO, HB⟩ := hrel
    by_cases hlt : j < ln
    · have hx : l[j]? = some (l[j]'(by rw [HNL.out]; exact hlt)) := List.getElem?_eq_getElem _
      generalize l[j]'(by rw [HNL.out]; exact hlt) = r at hx
      have hnx : rwC (l.take (j + 1)) = rwC (l.take j) ++ [enC r] := by
        obtain ⟨h1, h2⟩ := List.getElem?_eq_some_iff.1 hx
        rw [List.take_succ_eq_append_getElem h1, h2]
        simp [rwC]
      obtain ⟨key, n, t⟩ := r
      obtain ⟨b, o, hA, c1, c2, c3⟩ := chAt (HR.out.below HB.out) hx
      subst hA
      simp only at c1 c2 c3
      have hal : Below wr.heap.size wr (wr.alloc (.cells #[.string key, .int .i64 n, .bool t] 40)) := (Below.refl _ _).alloc (Nat.le_refl _) _
      have HNX := Lib.hid hnx
      have HO1 := Lib.hid (HO.out.below hal)
      have HB1 := Lib.hid (below_then HB.out hal)
      clear hx hnx hal
      go_wp2_with (at_builtin; (refine append1 w.heap.size 43 3 32 (.agg #[.string ⟨#[]⟩, .int .i64 0, .bool false]) rfl (.tmp 12) (.tmp 20) 26 rfl Tryz.underlying26 (by kernel_rfl) rfl (by decide) (by decide) _ (rwC (l.take j)) (enC (key, n, t)) rfl _ rfl (by simp) rfl (enC_one _) HO1.out HB1.out.size (by rw [rwC_len]; simp; omega) ?_); intro v1 w1 hown1 hfr1; have HO2 := Lib.hid hown1; have HB2 := Lib.hid (HO1.out.fr_below HB1.out HB1.out.size hfr1); clear hown1 hfr1)
      go_roundg (ln - (j + 1))
      case measure => omega
      case rel => exact ⟨j + 1, by omega, rfl, rfl, Lib.hid (by rw [HNX.out]; exact HO2.out), HB2⟩
    · obtain rfl : j = ln := by omega
      have hO := HO.out
      rw [List.take_of_length_le (by rw [HNL.out]; exact Nat.le_refl _)] at hO
      have HO2 := Lib.hid hO
      clear hO
      go_wp2_with fail
      exact ⟨_, rfl, HO2.out, HB.out⟩

set_option maxHeartbeats 4000000 in
theorem lplain (A : Option Addr) (c : Nat) (l : List Cg) (w : World) (hr : RowsAt w 3 A (rwC l)) (hl : l.length ≤ 1000000) (hc : l.length ≤ c) :
    Calls Tryz.prog 11 #[.slice A l.length c] w (ChPost 40 l w) := by
  refine via fun Q hQ => ?_
  have HR := Lib.hid hr
  clear hr
  generalize hn : l.length = ln at *
  have HNL := Lib.hid hn
  clear hn
  go_enter Tryz.func11, Tryz.ntmps11
  go_wp2_with fail
  go_loopg [3, 8] ln (fun g x3 x8 wr => ∃ j : Nat, j ≤ ln ∧ g = ln - j ∧ x8 = .int .i64 j ∧ Hid (Own wr w.heap.size 40 3 x3 (rwC (l.take j))) ∧ Hid (Below w.heap.size w wr))
  case atStart => exact ⟨0, Nat.zero_le _, rfl, rfl, Lib.hid (Own.nil _ _ _ _), Lib.hid (Below.refl _ _)⟩
  case round =>
    obtain ⟨j, hj, rfl, rfl, HO, HB⟩ := hrel
    by_cases hlt : j < ln
    · have hx : l[j]? = some (l[j]'(by rw [HNL.out]; exact hlt)) := List.getElem?_eq_getElem _
      generalize l[j]'(by rw [HNL.out]; exact hlt) = r at hx
      have hnx : rwC (l.take (j + 1)) = rwC (l.take j) ++ [enC r] := by
        obtain ⟨h1, h2⟩ := List.getElem?_eq_some_iff.1 hx
        rw [List.take_succ_eq_append_getElem h1, h2]
        simp [rwC]
      obtain ⟨key, n, t⟩ := r
      obtain ⟨b, o, hA, c1, c2, c3⟩ := chAt (HR.out.below HB.out) hx
      subst hA
      simp only at c1 c2 c3
      have hal : Below wr.heap.size wr (wr.alloc (.cells #[.string key, .int .i64 n, .bool t] 43)) := (Below.refl _ _).alloc (Nat.le_refl _) _
      have HNX := Lib.hid hnx
      have HO1 := Lib.hid (HO.out.below hal)
      have HB1 := Lib.hid (below_then HB.out hal)
      clear hx hnx hal
      go_wp2_with (at_builtin; (refine append1 w.heap.size 40 3 32 (.agg #[.string ⟨#[]⟩, .int .i64 0, .bool false]) rfl (.tmp 12) (.tmp 20) 22 rfl Tryz.underlying22 (by kernel_rfl) rfl (by decide) (by decide) _ (rwC (l.take j)) (enC (key, n, t)) rfl _ rfl (by simp) rfl (enC_one _) HO1.out HB1.out.size (by rw [rwC_len]; simp; omega) ?_); intro v1 w1 hown1 hfr1; have HO2 := Lib.hid hown1; have HB2 := Lib.hid (HO1.out.fr_below HB1.out HB1.out.size hfr1); clear hown1 hfr1)
      go_roundg (ln - (j + 1))
      case measure => omega
      case rel => exact ⟨j + 1, by omega, rfl, rfl, Lib.hid (by rw [HNX.out]; exact HO2.out), HB2⟩
    · obtain rfl : j = ln := by omega
      have hO := HO.out
      rw [List.take_of_length_le (by rw [HNL.out]; exact Nat.le_refl _)] at hO
      have HO2 := Lib.hid hO
      clear hO
      go_wp2_with fail
      exact ⟨_, rfl, HO2.out, HB.out⟩

def cutCg (r : Cg) : Cg := (cut20 r.1, r.2)
def cutCs (l : List Cg) : List Cg := (l.take 20).map cutCg
theorem cutCs_end {l : List Cg} {j : Nat} (hj : j ≤ 20) (h : j = l.length ∨ (j = 20)) : (l.take j).map cutCg = cutCs l := by
  unfold cutCs
  rcases h with rfl | rfl
  · rw [List.take_of_length_le (Nat.le_refl _), List.take_of_length_le hj]
  · rfl
theorem cutCs_next {l : List Cg} {j : Nat} {r : Cg} (h : l[j]? = some r) : rwC ((l.take (j + 1)).map cutCg) = rwC ((l.take j).map cutCg) ++ [enC (cutCg r)] := by
  have hj := (List.getElem?_eq_some_iff.1 h).1
  have e : l[j] = r := (List.getElem?_eq_some_iff.1 h).2
  rw [List.take_succ_eq_append_getElem hj, e]
  simp [rwC]
set_option maxHeartbeats 4000000 in
theorem lchanges (A : Option Addr) (c : Nat) (l : List Cg) (w : World) (hr : RowsAt w 3 A (rwC l)) (hl : l.length ≤ 9223372036854775807) (hc : l.length ≤ c) :
    Calls Tryz.prog 4 #[.slice A l.length c] w (ChPost 40 (cutCs l) w) := by
  refine via fun Q hQ => ?_
  have HR := Lib.hid hr
  clear hr
  generalize hn : l.length = ln at *
  have HNL := Lib.hid hn
  clear hn
  go_enter Tryz.func4, Tryz.ntmps4
  go_wp2_with fail
  go_loopg [3, 8] ln (fun g x3 x8 wr => ∃ j : Nat, j ≤ ln ∧ j ≤ 20 ∧ g = ln - j ∧ x8 = .int .i64 j ∧ Hid (Own wr w.heap.size 40 3 x3 (rwC ((l.take j).map cutCg))) ∧ Hid (Below w.heap.size w wr))
  case atStart => exact ⟨0, Nat.zero_le _, Nat.zero_le _, rfl, rfl, Lib.hid (Own.nil _ _ _ _), Lib.hid (Below.refl _ _)⟩
  case round =>
    obtain ⟨j, hj, hj12, rfl, rfl, HO, HB⟩ := hrel
    by_cases hlt : j < ln
    · have hx : l[j]? = some (l[j]'(by rw [HNL.out]; exact hlt)) := List.getElem?_eq_getElem _
      generalize l[j]'(by rw [HNL.out]; exact hlt) = r at hx
      have hnx := cutCs_next hx
      obtain ⟨key, n, t⟩ := r
      obtain ⟨b, o, hA, c1, c2, c3⟩ := chAt (HR.out.below HB.out) hx
      subst hA
      simp only at c1 c2 c3
      have hal : Below wr.heap.size wr (wr.alloc (.cells #[.string key, .int .i64 n, .bool t] 40)) := (Below.refl _ _).alloc (Nat.le_refl _) _
      by_cases h12 : j < 20
      · by_cases hk : 20 < key.size
        · have HNX := Lib.hid (show rwC ((l.take (j + 1)).map cutCg) = rwC ((l.take j).map cutCg) ++ [enC (key.extract 0 20, n, t)] by rw [hnx, cutCg, cut20, if_pos hk])
          have hal2 : Below wr.heap.size wr (wr.alloc (.cells #[.string (key.extract 0 20), .int .i64 n, .bool t] 40)) := (Below.refl _ _).alloc (Nat.le_refl _) _
          have HO1 := Lib.hid (HO.out.below hal2)
          have HB1 := Lib.hid (below_then HB.out hal2)
          clear hx hnx hal hal2
          go_wp2_with (at_builtin; (refine append1 w.heap.size 40 3 32 (.agg #[.string ⟨#[]⟩, .int .i64 0, .bool false]) rfl (.tmp 23) (.tmp 25) 22 rfl Tryz.underlying22 (by kernel_rfl) rfl (by decide) (by decide) _ (rwC ((l.take j).map cutCg)) (enC (key.extract 0 20, n, t)) rfl _ rfl (by simp) rfl (enC_one _) HO1.out HB1.out.size (by rw [rwC_len]; simp; omega) ?_); intro v1 w1 hown1 hfr1; have HO2 := Lib.hid hown1; have HB2 := Lib.hid (HO1.out.fr_below HB1.out HB1.out.size hfr1); clear hown1 hfr1)
          go_roundg (ln - (j + 1))
          case measure => omega
          case rel => exact ⟨j + 1, by omega, by omega, rfl, rfl, Lib.hid (by rw [HNX.out]; exact HO2.out), HB2⟩
        · have HNX := Lib.hid (show rwC ((l.take (j + 1)).map cutCg) = rwC ((l.take j).map cutCg) ++ [enC (key, n, t)] by rw [hnx, cutCg, cut20, if_neg hk])
          have HO1 := Lib.hid (HO.out.below hal)
          have HB1 := Lib.hid (below_then HB.out hal)
          clear hx hnx hal
          go_wp2_with (at_builtin; (refine append1 w.heap.size 40 3 32 (.agg #[.string ⟨#[]⟩, .int .i64 0, .bool false]) rfl (.tmp 23) (.tmp 25) 22 rfl Tryz.underlying22 (by kernel_rfl) rfl (by decide) (by decide) _ (rwC ((l.take j).map cutCg)) (enC (key, n, t)) rfl _ rfl (by simp) rfl (enC_one _) HO1.out HB1.out.size (by rw [rwC_len]; simp; omega) ?_); intro v1 w1 hown1 hfr1; have HO2 := Lib.hid hown1; have HB2 := Lib.hid (HO1.out.fr_below HB1.out HB1.out.size hfr1); clear hown1 hfr1)
          go_roundg (ln - (j + 1))
          case measure => omega
          case rel => exact ⟨j + 1, by omega, by omega, rfl, rfl, Lib.hid (by rw [HNX.out]; exact HO2.out), HB2⟩
      · have HO1 := Lib.hid (HO.out.below hal)
        have HB1 := Lib.hid (below_then HB.out hal)
        have HE := Lib.hid (cutCs_end (l := l) hj12 (.inr (by omega)))
        clear hx hnx hal
        go_wp2_with fail
        exact ⟨_, rfl, by rw [← HE.out]; exact HO1.out, HB1.out⟩
    · have HE := Lib.hid (cutCs_end (l := l) hj12 (.inl (by have := HNL.out; omega)))
      go_wp2_with fail
      exact ⟨_, rfl, by rw [← HE.out]; exact HO.out, HB.out⟩
set_option maxHeartbeats 2000000 in
theorem lalike (A B : Option Addr) (c d : Nat) (l : List Cg) (w : World) (hr : RowsAt w 3 A (rwC l)) (hs : RowsAt w 3 B (rwC l)) (hl : l.length ≤ 1000000) (hc : l.length ≤ c) (hd : l.length ≤ d) :
    Calls Tryz.prog 10 #[.slice A l.length c, .slice B l.length d] w (YesPost w) := by
  refine via fun Q hQ => ?_
  have HR := Lib.hid hr
  have HS := Lib.hid hs
  clear hr hs
  generalize hn : l.length = n at *
  have HNL := Lib.hid hn
  clear hn
  go_enter Tryz.func10, Tryz.ntmps10
  go_wp2_with fail
  go_loopg [13] n (fun g x wr => ∃ j : Nat, j ≤ n ∧ g = n - j ∧ x = .int .i64 j ∧ Hid (Below w.heap.size w wr))
  case atStart => exact ⟨0, Nat.zero_le _, rfl, rfl, Lib.hid (Below.refl _ _)⟩
  case round =>
    obtain ⟨j, hj, rfl, rfl, HB⟩ := hrel
    by_cases hlt : j < n
    · have hx : l[j]? = some (l[j]'(by rw [HNL.out]; exact hlt)) := List.getElem?_eq_getElem _
      generalize l[j]'(by rw [HNL.out]; exact hlt) = r at hx
      obtain ⟨b, o, hA, c1, c2, c3⟩ := chAt (HR.out.below HB.out) hx
      obtain ⟨b', o', hA', d1, d2, d3⟩ := chAt (HS.out.below HB.out) hx
      subst hA hA'
      obtain ⟨kk, nn, t⟩ := r
      simp only at c1 c2 c3 d1 d2 d3
      clear hx
      have hst := str_same (rfl : kk = kk)
      have h0 : (0 : Int) ≤ (j : Int) := by omega
      have h1 : (j : Int) < (n : Int) := by omega
      go_wp2_with fail
      go_quiet (fail)
      have HB1 := Lib.hid (below_then HB.out (drew_below wr nq))
      go_wp2_with fail
      go_roundg (n - (j + 1))
      case measure => omega
      case rel => exact ⟨j + 1, by omega, rfl, rfl, HB1⟩
    · obtain rfl : j = n := by omega
      go_wp2
      exact ⟨rfl, HB.out⟩
end Go.Proofs.YtigffdmpofcdgaaGreatDoor
end
