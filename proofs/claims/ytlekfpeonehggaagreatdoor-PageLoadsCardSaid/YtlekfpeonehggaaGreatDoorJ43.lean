/- A store's bytes: what is put into bytes is read as it was; the document's reading comes to the same. Plain. -/
import Derived.Test.YtlekfpeonehggaaGreatDoorJ42
section
set_option linter.unusedVariables false
set_option linter.unusedSimpArgs false
namespace Go.Proofs.YtlekfpeonehggaaGreatDoor
open Go.Proofs.BL Go.Proofs.Peel Go.RowKit Go.Proofs.Ky

theorem drop_step {bs x rest : List UInt8} {a : Nat} (h : bs.drop a = x ++ rest) : bs.drop (a + x.length) = rest := by
  rw [← List.drop_drop, h, List.drop_left]
theorem drop_len {bs x rest : List UInt8} {a : Nat} (h : bs.drop a = x ++ rest) (hx : 0 < x.length) : a + x.length ≤ bs.length := by
  have := congrArg List.length h
  rw [List.length_drop, List.length_append] at this
  omega
theorem rdNat_at {bs rest : List UInt8} {a n : Nat} (h : bs.drop a = natB n ++ rest) (hn : n < 2 ^ 64) : rdNat bs a [] = (n, a + (natB n).length, []) := by
  rw [rdNat, if_pos rfl, h, pnat_natB hn]
theorem zag_zig {m : Int} (h1 : -9223372036854775808 ≤ m) (h2 : m ≤ 9223372036854775807) : zag (zig m) = m := by
  unfold zag zig
  by_cases h : m < 0
  · rw [if_pos h, if_pos (by omega)]; omega
  · rw [if_neg h, if_neg (by omega)]; omega
theorem rdNum_at {bs rest : List UInt8} {a : Nat} {m : Int} (h : bs.drop a = natB (zig m) ++ rest) (h1 : -9223372036854775808 ≤ m) (h2 : m ≤ 9223372036854775807) : rdNum bs a [] = (m, a + (natB (zig m)).length, []) := by
  rw [rdNum, rdNat_at h (zig_lt m h1 h2), zag_zig h1 h2]
theorem rdStr_at {bs rest : List UInt8} {a : Nat} {s : ByteArray} {most : Int} (h : bs.drop a = strB s ++ rest) (hs : s.size < 2 ^ 64) (hm : (s.size : Int) ≤ max most 0) : rdStr bs a [] most = (s, a + (strB s).length, []) := by
  have h1 : bs.drop a = natB s.size ++ (txt s ++ rest) := by rw [h, strB, List.append_assoc]
  have h2 := drop_step h1
  have h3 := drop_len h1 (by rw [natB_pos]; omega)
  have h4 : s.size ≤ bs.length - (a + (natB s.size).length) := by
    have := congrArg List.length h2
    rw [List.length_drop, List.length_append, BL.txt_len] at this
    omega
  have hp : pstr bs a most = (some (s, a + (natB s.size).length + s.size), 0) := by
    rw [pstr, h1, pnat_natB hs]
    simp only
    rw [if_neg (by omega), if_neg (by omega), h2, ← BL.txt_len s, List.take_left]
    rfl
  rw [rdStr, if_pos rfl, hp]
  simp only [strB, List.length_append, BL.txt_len, Nat.add_assoc]
theorem stepR_at {bs rest : List UInt8} {a : Nat} {x : Rw} (h : bs.drop a = rowB x ++ rest) (hx : x.1.size ≤ 16 ∧ RwOk x) : stepR bs a [] = (x, a + (rowB x).length, []) := by
  have h1 : bs.drop a = strB x.1 ++ (natB (zig x.2) ++ rest) := by rw [h, rowB, List.append_assoc]
  have e1 := rdStr_at (most := 16) h1 (by omega) (by omega)
  have e2 := rdNum_at (drop_step h1) hx.2.2.1 hx.2.2.2
  rw [stepR, e1]
  simp only
  rw [e2, rowB, List.length_append, Nat.add_assoc]
theorem goR_at {bs : List UInt8} : ∀ {l : List Rw} {a : Nat} {rest : List UInt8}, bs.drop a = (l.map rowB).flatten ++ rest → (∀ x ∈ l, x.1.size ≤ 16 ∧ RwOk x) → goR bs l.length a = some (l, a + ((l.map rowB).flatten).length)
  | [], a, rest, _, _ => by simp [goR]
  | x :: l, a, rest, h, hok => by
    have h1 : bs.drop a = rowB x ++ ((l.map rowB).flatten ++ rest) := by rw [h]; simp
    have e1 := stepR_at h1 (hok x (by simp))
    rw [List.length_cons, goR_yes (by rw [e1]), e1]
    simp only
    rw [goR_at (drop_step h1) (fun y hy => hok y (by simp [hy]))]
    simp [Nat.add_assoc]
theorem rdPage_at {bs rest : List UInt8} {most a : Nat} {prev l : List Rw} (h : bs.drop a = pgB l ++ rest) (h1 : 1 ≤ l.length) (h2 : l.length ≤ most) (h3 : most ≤ 64) (hu : Up tx (prev ++ l)) (hok : ∀ x ∈ l, x.1.size ≤ 16 ∧ RwOk x) : rdPage bs most prev a = some (l, a + (pgB l).length) := by
  have h4 : bs.drop a = natB l.length ++ ((l.map rowB).flatten ++ rest) := by rw [h, pgB, List.append_assoc]
  have e1 := rdNat_at h4 (by omega)
  have e2 := goR_at (drop_step h4) hok
  have := rdPage_ok (bs := bs) (most := most) (prev := prev) (a := a) (y := (l, a + (pgB l).length)) (by rw [e1]; exact ⟨rfl, h1, h2⟩) (by rw [e1]; simp only; rw [e2, pgB, List.length_append, Nat.add_assoc]) hu
  exact this
/-- A store that may be. -/
structure PgGood (most : Nat) (P : List (List Rw)) : Prop where
  pg : ∀ r ∈ P, r ≠ [] ∧ r.length ≤ most
  up : Up tx P.flatten
  ok : ∀ x ∈ P.flatten, x.1.size ≤ 16 ∧ RwOk x
  tot : P.flatten.length ≤ 256
theorem goL_at {bs : List UInt8} {most : Nat} (hm : most ≤ 64) : ∀ {Q P : List (List Rw)} {a : Nat} {rest : List UInt8}, bs.drop a = (Q.map pgB).flatten ++ rest → PgGood most (P ++ Q) → goL bs most Q.length P a = some (P ++ Q, a + ((Q.map pgB).flatten).length)
  | [], P, a, rest, _, _ => by simp [goL]
  | l :: Q, P, a, rest, h, hg => by
    have h1 : bs.drop a = pgB l ++ ((Q.map pgB).flatten ++ rest) := by rw [h]; simp
    have hl := hg.pg l (by simp)
    have hfl : (P ++ l :: Q).flatten = P.flatten ++ l ++ Q.flatten := by simp
    have hup := hg.up
    rw [hfl] at hup
    have htot := hg.tot
    rw [hfl, List.length_append, List.length_append] at htot
    have hpos : 1 ≤ l.length := List.length_pos_iff.2 hl.1
    have e1 := rdPage_at (prev := P.flatten) h1 hpos hl.2 hm (by unfold Up at *; exact (List.pairwise_append.1 hup).1) (fun x hx => hg.ok x (by rw [hfl]; simp [hx]))
    rw [List.length_cons, goL, if_neg (by omega), e1]
    show goL bs most Q.length (P ++ [l]) (a + (pgB l).length) = _
    rw [goL_at hm (drop_step h1) (by rw [List.append_assoc]; exact hg)]
    simp [Nat.add_assoc]
/-- What was put into bytes is read as it was. -/
theorem decL_at {most : Nat} {P : List (List Rw)} (hm : most ≤ 64) (hg : PgGood most P) (hn : P.length < 2 ^ 64) : decL (stBy P) most = some P := by
  have h0 : (stBy P).drop 0 = natB P.length ++ ((P.map pgB).flatten ++ []) := by rw [List.drop_zero, stBy]; simp
  have e1 := rdNat_at h0 hn
  have e2 := goL_at hm (P := []) (drop_step h0) hg
  rw [decL, e1, if_pos rfl, e2]
  show fin (stBy P) _ = _
  unfold fin
  rw [if_pos ⟨by rw [stBy]; simp, hg.tot⟩]
  rfl
/-- So many pages, as the document reads them. -/
def goP (bs : List UInt8) : Nat → Nat → Option (List (List Rw) × Nat)
  | 0, a => some ([], a)
  | n + 1, a => if (rdNat bs a []).2.2 = [] then (goR bs (rdNat bs a []).1 (rdNat bs a []).2.1).bind (fun x => (goP bs n x.2).map (fun y => (x.1 :: y.1, y.2))) else none
def finP (bs : List UInt8) (most : Nat) (P : List (List Rw)) (x : List (List Rw) × Nat) : Option (List (List Rw)) := if bs.length ≤ x.2 ∧ hldB most (P ++ x.1) = true then some (P ++ x.1) else none
/-- The store of bytes, as the document reads it. -/
def decP (bs : List UInt8) (most : Nat) : Option (List (List Rw)) := if (rdNat bs 0 []).2.2 = [] then (goP bs (rdNat bs 0 []).1 (rdNat bs 0 []).2.1).bind (finP bs most []) else none
theorem hldB_pre {most : Nat} {P Q : List (List Rw)} {l : List Rw} (h : hldB most (P ++ l :: Q) = true) : upB (P.flatten ++ l) = true ∧ 1 ≤ l.length ∧ l.length ≤ most ∧ P.flatten.length ≤ 256 := by
  unfold hldB hldR hldP at h
  simp only [Bool.and_eq_true] at h
  obtain ⟨⟨⟨h1, _⟩, h2⟩, h3⟩ := h
  have h1 := (upB_iff _).1 h1
  have hfl : (P ++ l :: Q).flatten = P.flatten ++ l ++ Q.flatten := by simp
  rw [hfl] at h1 h3
  have h4 := List.all_eq_true.1 h2 l (by simp)
  simp only [Bool.and_eq_true, Bool.not_eq_true', beq_eq_false_iff_ne, decide_eq_true_eq] at h4
  have h3 := of_decide_eq_true h3
  rw [List.length_append, List.length_append] at h3
  refine ⟨(upB_iff _).2 ?_, by omega, by omega, by omega⟩
  unfold Up at *
  exact (List.pairwise_append.1 h1).1
theorem finP_no {bs : List UInt8} {most : Nat} {P : List (List Rw)} {l : List Rw} {n a : Nat} (h : ∀ Q, hldB most (P ++ l :: Q) = false) : ((goP bs n a).map (fun y => (l :: y.1, y.2))).bind (finP bs most P) = none := by
  cases hg : goP bs n a with
  | none => rfl
  | some y =>
    show finP bs most P (l :: y.1, y.2) = none
    unfold finP
    rw [if_neg (by simp [h])]
theorem goL_goP {bs : List UInt8} {most : Nat} (hm : most ≤ 64) : ∀ {n : Nat} {P : List (List Rw)} {a : Nat}, hldR P.flatten = true → hldP most P = true → (goL bs most n P a).bind (fin bs) = (goP bs n a).bind (finP bs most P)
  | 0, P, a, h1, h2 => by
    show fin bs (P, a) = finP bs most P ([], a)
    unfold fin finP
    rw [List.append_nil, hldB_yes h1 h2]
    simp
  | n + 1, P, a, h1, h2 => by
    rw [goL, goP]
    by_cases hc : (rdNat bs a []).2.2 = []
    · rw [if_pos hc]
      cases hg : goR bs (rdNat bs a []).1 (rdNat bs a []).2.1 with
      | none =>
        rw [rdPage_bad hg]
        split <;> rfl
      | some y =>
        obtain ⟨l, a'⟩ := y
        obtain ⟨i1, i2, i3⟩ := goR_inv hg
        show _ = ((goP bs n a').map (fun y => (l :: y.1, y.2))).bind (finP bs most P)
        by_cases ht : 256 < P.flatten.length
        · rw [if_pos ht, finP_no (fun Q => by
            cases hq : hldB most (P ++ l :: Q) with
            | false => rfl
            | true => have := (hldB_pre hq).2.2.2; omega)]
          rfl
        · rw [if_neg ht]
          by_cases hk : 1 ≤ l.length ∧ l.length ≤ most ∧ upB (P.flatten ++ l) = true
          · obtain ⟨k1, k2, k3⟩ := hk
            rw [rdPage_ok (y := (l, a')) ⟨hc, by omega, by omega⟩ hg ((upB_iff _).1 k3)]
            show (goL bs most n (P ++ [l]) a').bind (fin bs) = _
            have hfl : (P ++ [l]).flatten = P.flatten ++ l := by simp
            rw [goL_goP hm (by
              unfold hldR at *
              rw [hfl, k3, List.all_append]
              simp only [Bool.and_eq_true] at h1
              rw [h1.2, List.all_eq_true.2 (fun x hx => decide_eq_true (i3 x hx).1)]; rfl) (by
              unfold hldP at *
              rw [List.all_append, h2, List.all_cons, List.all_nil, decide_eq_true (show ((l.length : Nat) : Int) ≤ (most : Int) by omega), show (l.length == 0) = false from beq_eq_false_iff_ne.2 (by omega)]; rfl)]
            cases goP bs n a' with
            | none => rfl
            | some z =>
              show finP bs most (P ++ [l]) z = finP bs most P (l :: z.1, z.2)
              unfold finP
              rw [show P ++ [l] ++ z.1 = P ++ l :: z.1 from by simp]
          · rw [finP_no (fun Q => by
              cases hq : hldB most (P ++ l :: Q) with
              | false => rfl
              | true => exact absurd ⟨(hldB_pre hq).2.1, (hldB_pre hq).2.2.1, (hldB_pre hq).1⟩ hk)]
            by_cases hk2 : 1 ≤ l.length ∧ l.length ≤ most
            · rw [rdPage_ord (fun y hy => by
                rw [hg] at hy
                injection hy with hy
                subst hy
                cases hu : upB (P.flatten ++ l) with
                | false => rfl
                | true => exact absurd ⟨hk2.1, hk2.2, hu⟩ hk)]
              rfl
            · rw [rdPage_no (fun h => hk2 ⟨by omega, by omega⟩)]; rfl
    · rw [if_neg hc, rdPage_no (fun h => hc h.1)]
      split <;> rfl
/-- Both read the same. -/
theorem decL_decP {bs : List UInt8} {most : Nat} (hm : most ≤ 64) : decL bs most = decP bs most := by
  unfold decL decP
  split
  · exact goL_goP hm rfl rfl
  · rfl
end Go.Proofs.YtlekfpeonehggaaGreatDoor
end
