/- slices.Values, Sorted, Compact at texts. -/
import Derived.Test.YtkfciofpbnlmeaaDoorIt
import Derived.Test.YtkfciofpbnlmeaaDoorIs
import Derived.Test.YtkfciofpbnlmeaaDoorShelf
set_option linter.unusedVariables false
set_option linter.unusedSimpArgs false
set_option maxRecDepth 100000
namespace Go.Proofs.YtkfciofpbnlmeaaDoor
open Go.Proofs.BL Go.Proofs.Peel Go.RowKit Go.Proofs.Ky Go.Sort

theorem enc_txt (s : Str) : encStr (BL.txt s) = .string s := rfl
theorem enc_map (l : List Str) : (l.map BL.txt).map encStr = l.map Value.string := by rw [List.map_map]; exact List.map_congr_left (fun x _ => rfl)
theorem rwS_flat (l : List Str) : (rwS l).flatten = l.map Value.string := by
  induction l with
  | nil => rfl
  | cons x l ih => rw [rwS, List.map_cons, List.flatten_cons] ; show [Value.string x] ++ (rwS l).flatten = _; rw [ih]; rfl
theorem txt_surj (l : List (List UInt8)) : ∃ m : List Str, m.map BL.txt = l := ⟨l.map (fun s => ⟨s.toArray⟩), by rw [List.map_map]; exact (List.map_congr_left (fun x _ => rfl)).trans (List.map_id _)⟩
theorem vs_of {w : World} {A : Option Addr} {n c : Nat} {l : List Str} (h : RowsAt w 1 A (rwS l)) (hn : l.length = n) : VsS w.heap.size w (.slice A n c) l := by
  subst hn
  cases l with
  | nil => exact .inl ⟨A, c, rfl, rfl⟩
  | cons x l =>
    obtain ⟨b, o, e, hc⟩ := txtAt h (i := 0) (r := x) rfl
    subst e
    refine .inr ⟨b, o, c, rfl, World.block_lt_of_cell? _ _ hc, fun j hj => ?_⟩
    obtain ⟨b', o', e', hc'⟩ := txtAt h (i := j) (r := (x :: l)[j]) (List.getElem?_eq_getElem hj)
    injection e' with e'
    injection e' with e1 e2
    subst e1 e2
    rw [hc', List.getElem?_eq_getElem hj]
    rfl
set_option maxHeartbeats 1000000 in
theorem cVals (A : Option Addr) (n c : Nat) (w : World) :
    Calls Tryd.prog 19 #[.slice A n c] w (fun e w' => e = .returned (.func (.func 34) #[] #[.pointer (some ⟨w.heap.size, 0, none⟩)]) ∧ w' = w.alloc (.cells #[.slice A n c] 23)) := by
  refine via fun Q hQ => ?_
  go_enter Tryd.func19, Tryd.ntmps19
  have HQ := Lib.hid hQ
  clear hQ
  go_wp2_with fail
  exact HQ.out _ _ ⟨rfl, rfl⟩
def SrtPost (l : List Str) (w : World) (e : Ending) (w' : World) : Prop := ∃ v, e = .returned v ∧ BL.Own w' w.heap.size 9 1 v (rwS l) ∧ Below w.heap.size w w'
theorem own_of {w : World} {base : Nat} {v : Value} {l : List Str} (h : w.ownsRow base 9 1 v l.length (l.map Value.string)) : BL.Own w base 9 1 v (rwS l) := ⟨by rw [rwS_len, rwS_flat]; exact h, rwS_two l⟩
set_option maxHeartbeats 4000000 in
theorem cCollect (A : Option Addr) (n c Bs : Nat) (l : List Str) (w : World) (hr : RowsAt w 1 A (rwS l)) (hn : l.length = n) (hl : n ≤ 1000000) (hB : w.cell? ⟨Bs, 0, none⟩ = some (.slice A n c)) :
    Calls Tryd.prog 32 #[.func (.func 34) #[] #[.pointer (some ⟨Bs, 0, none⟩)]] w (SrtPost l w) := by
  refine via fun Q hQ => ?_
  have HA := Lib.hid (callsIn_wide.1 (appSeq_S Fence.wide 3 trivial trivial rfl (by omega) Bs w.heap.size _ l (by rw [hn]; omega) w (World.block_lt_of_cell? _ _ hB) (Nat.le_refl _) hB (vs_of hr hn)))
  have HQ := Lib.hid hQ
  clear hr hB hQ
  go_enter Tryd.func32, Tryd.ntmps32
  go_wp2_with fail
  (with_reducible refine HA.out.mono ?_)
  rintro e w1 ⟨v, rfl, hrow, _, hb⟩
  go_wp2_with fail
  exact HQ.out _ _ ⟨v, rfl, own_of hrow, hb⟩
set_option maxHeartbeats 4000000 in
theorem cSorted (A : Option Addr) (n c Bs : Nat) (l m : List Str) (w : World) (hr : RowsAt w 1 A (rwS l)) (hn : l.length = n) (hl : n ≤ 1000000) (hB : w.cell? ⟨Bs, 0, none⟩ = some (.slice A n c)) (hm : m.map BL.txt = srtB (l.map BL.txt)) :
    Calls Tryd.prog 18 #[.func (.func 34) #[] #[.pointer (some ⟨Bs, 0, none⟩)]] w (SrtPost m w) := by
  refine via fun Q hQ => ?_
  have HC := Lib.hid (cCollect A n c Bs l w hr hn hl hB)
  have HQ := Lib.hid hQ
  have hml : m.length = l.length := by
    have := congrArg List.length hm
    rw [List.length_map, srtB, List.length_mergeSort, List.length_map] at this
    exact this
  clear hr hB hQ
  go_enter Tryd.func18, Tryd.ntmps18
  go_wp2_with fail
  (with_reducible refine HC.out.mono ?_)
  rintro e w1 ⟨v, rfl, ho, hb⟩
  rcases ho.1.2 with ⟨rfl, h0⟩ | ⟨g, cap, cur, rfl, hbase, hgb, r1, r2, r3, r4⟩
  · rw [rwS_len] at h0
    have hl0 : l = [] := List.eq_nil_of_length_eq_zero h0
    have hm0 : m = [] := List.eq_nil_of_length_eq_zero (by omega)
    subst hl0 hm0
    have HS := Lib.hid (Tryd.slices_Sort_string_none none 0 w1)
    have HO := Lib.hid ho
    have HBb := Lib.hid hb
    clear ho hb HC
    go_wp2_with fail
    (with_reducible refine HS.out.mono ?_)
    rintro e w2 ⟨rfl, rfl⟩
    go_wp2_with fail
    exact HQ.out _ _ ⟨_, rfl, HO.out, HBb.out⟩
  · rw [rwS_len] at r1 r4 ⊢
    rw [rwS_flat, ← enc_map, Nat.mul_one] at r4
    have e1 : l.length = (l.map BL.txt).length := (List.length_map _).symm
    have hH : Go.Sort.Holds encStr w1 g 0 (l.map BL.txt).toArray := holds_of_block hgb (by rw [← e1]; exact r4)
    have hS := Tryd.slices_Sort_string g 0 cap (l.map BL.txt) w1 hH (Array.getElem?_eq_some_iff.1 hgb).1 (by rw [← e1]; omega)
    rw [← e1, hn] at hS
    have HS := Lib.hid hS
    have HF := Lib.hid (show ∀ (k : Nat) (os : Array Obj), BL.Own (grow (putRow encStr (Sort.ahead w1 k) g 0 (srtB (l.map BL.txt)).toArray) os) w.heap.size 9 1 (.slice (some ⟨g, 0, none⟩) n cap) (rwS m) ∧ Below w.heap.size w (grow (putRow encStr (Sort.ahead w1 k) g 0 (srtB (l.map BL.txt)).toArray) os) from fun k os => by
      have h1 := ownsRow_sorted (w := w1) (base := w.heap.size) (n := k) (os := os) (ss := l.map BL.txt) (ts := m.map BL.txt) (by rw [List.length_map, List.length_map, hml]) hbase hgb (by rw [← e1]; exact r1) r2 r3
      rw [enc_map, List.length_map, hm] at h1
      refine ⟨own_of (by rw [hml, hn]; rw [hn] at h1; exact h1), hb.grown (grownBy_sorted _) hb.size (fun j hj => by cases hj; exact hbase)⟩)
    clear ho hb HC hH hS
    go_wp2_with fail
    (with_reducible refine HS.out.mono ?_)
    rintro e w2 ⟨rfl, k, os, rfl⟩
    go_wp2_with fail
    obtain ⟨h1, h2⟩ := HF.out k os
    exact HQ.out _ _ ⟨_, rfl, h1, h2⟩
set_option maxHeartbeats 4000000 in
theorem cCompact (base : Nat) (v : Value) (l m : List Str) (w w0 : World) (ho : BL.Own w base 9 1 v (rwS l)) (hl : l.length ≤ 1000000) (hm : m.map BL.txt = Lib.compact (l.map BL.txt)) (hb : Below base w0 w) (hbs : base ≤ w.heap.size) :
    Calls Tryd.prog 17 #[v] w (fun e w' => ∃ v', e = .returned v' ∧ BL.Own w' base 9 1 v' (rwS m) ∧ Below base w0 w') := by
  have hml : m.length ≤ l.length := by
    have := congrArg List.length hm
    rw [List.length_map, compact_eq] at this
    have h2 : (compactK (l.map BL.txt)).length ≤ (l.map BL.txt).length := cmpK_len _
    rw [List.length_map] at h2
    omega
  rcases ho.1.2 with ⟨rfl, h0⟩ | ⟨g, cap, cur, rfl, hbase, hgb, r1, r2, r3, r4⟩
  · rw [rwS_len] at h0
    have hl0 : l = [] := List.eq_nil_of_length_eq_zero h0
    have hm0 : m = [] := List.eq_nil_of_length_eq_zero (by omega)
    subst hl0 hm0
    refine (Tryd.slices_Compact_string_empty none 0 w).mono ?_
    rintro e w' ⟨rfl, rfl⟩
    exact ⟨_, rfl, ho, hb⟩
  · rw [rwS_len] at r1 r4 ⊢
    rw [rwS_flat, ← enc_map, Nat.mul_one] at r4
    have e1 : l.length = (l.map BL.txt).length := (List.length_map _).symm
    have hH : Go.Sort.Holds encStr w g 0 (l.map BL.txt).toArray := holds_of_block hgb (by rw [← e1]; exact r4)
    rw [e1]
    refine (Tryd.slices_Compact_string g 0 cap (l.map BL.txt) w hH (by rw [← e1]; omega) (by rw [← e1]; exact r1)).mono ?_
    rintro e w' ⟨rfl, q, rfl⟩
    rw [← hm]
    generalize hT : m.map BL.txt ++ List.replicate ((l.map BL.txt).length - (m.map BL.txt).length) [] = T
    have hTl : T.length = l.length := by rw [← hT, List.length_append, List.length_replicate, List.length_map, List.length_map]; omega
    have hhp := heap_sorted (w := w) (g := g) (n := q) (os := #[]) (d := T.toArray) hgb
    rw [grow_empty] at hhp
    have hgr := grownBy_sorted (w := w) (g := g) (n := q) (os := #[]) T.toArray
    rw [grow_empty] at hgr
    refine ⟨_, rfl, ⟨?_, rwS_two m⟩, hb.grown hgr hbs (fun j hj => by cases hj; exact hbase)⟩
    rw [rwS_len, rwS_flat, List.length_map]
    refine ⟨by simp, .inr ⟨g, cap, _, rfl, hbase, hhp, by omega, r2, by simp [putCells, r3], ?_⟩⟩
    rw [Nat.mul_one]
    have h3 := take_putCells cur T (by rw [hTl, r3]; omega)
    have h4 := congrArg (List.take m.length) h3
    rw [List.take_take, Nat.min_eq_left (by omega), ← hT, List.map_append, List.take_append_of_le_length (by simp), enc_map] at h4
    rw [hT] at h4
    rw [h4, List.take_of_length_le (by simp)]
end Go.Proofs.YtkfciofpbnlmeaaDoor
