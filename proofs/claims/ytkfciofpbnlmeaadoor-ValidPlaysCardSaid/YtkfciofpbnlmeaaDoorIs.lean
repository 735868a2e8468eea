/- slices.Compact(slices.Sorted(slices.Values(keys))) is the set of the keys, rising: plain part. -/
import Derived.Test.YtkfciofpbnlmeaaDoorKt
import Derived.Test.YtkfciofpbnlmeaaDoorKs
import Derived.Test.YtkfciofpbnlmeaaDoorSb
import Derived.Lib.SlicesCompact
import Derived.Sort.OwnSorted
namespace Go.Proofs.Ky
set_option linter.unusedVariables false
set_option linter.unusedSectionVars false
open Go.Proofs.BL
theorem cmpK2 {K : Type} [DecidableEq K] (a b : K) (t : List K) : compactK (a :: b :: t) = if a = b then compactK (b :: t) else a :: compactK (b :: t) := rfl
theorem cmpK_snoc {K : Type} [DecidableEq K] : ∀ (l : List K) (y x : K), compactK (l ++ [y, x]) = if y = x then compactK (l ++ [y]) else compactK (l ++ [y]) ++ [x]
  | [], y, x => by
    by_cases h : y = x
    · subst h; simp [compactK]
    · simp [compactK, h]
  | [a], y, x => by
    have ih := cmpK_snoc [] y x
    simp only [List.nil_append] at ih
    simp only [List.cons_append, List.nil_append]
    rw [cmpK2 a y [x], cmpK2 a y [], ih]
    by_cases h : a = y
    · rw [if_pos h, if_pos h]
    · rw [if_neg h, if_neg h]
      by_cases h2 : y = x
      · rw [if_pos h2, if_pos h2]
      · rw [if_neg h2, if_neg h2]; rfl
  | a :: b :: l, y, x => by
    have ih := cmpK_snoc (b :: l) y x
    simp only [List.cons_append] at ih ⊢
    rw [cmpK2 a b, cmpK2 a b, ih]
    by_cases h : a = b
    · rw [if_pos h, if_pos h]
    · rw [if_neg h, if_neg h]
      by_cases h2 : y = x
      · rw [if_pos h2, if_pos h2]
      · rw [if_neg h2, if_neg h2]; rfl
theorem cmpK_len {K : Type} [DecidableEq K] : ∀ (l : List K), (compactK l).length ≤ l.length
  | [] => Nat.le_refl _
  | [_] => Nat.le_refl _
  | a :: b :: t => by
    have ih := cmpK_len (b :: t)
    rw [cmpK2]
    split
    · rw [List.length_cons]; omega
    · rw [List.length_cons, List.length_cons]; omega
theorem cmp_upto {K : Type} [DecidableEq K] [Inhabited K] [BEq K] [LawfulBEq K] (zs : List K) : ∀ m, m ≤ zs.length → Lib.compactUpTo zs.toArray m = compactK (zs.take m)
  | 0, _ => by simp [Lib.compactUpTo, compactK]
  | 1, h => by
    have h0 : 0 < zs.length := h
    rw [Lib.compactUpTo_succ]
    have : Lib.keeps zs.toArray 0 = true := Lib.keeps_lt_one _ 0 (by decide)
    rw [if_pos this, List.take_succ_eq_append_getElem h0]
    simp [Lib.compactUpTo, compactK, h0]
  | m + 2, h => by
    have h1 : m < zs.length := by omega
    have h2 : m + 1 < zs.length := by omega
    have ih := cmp_upto zs (m + 1) (by omega)
    rw [Lib.compactUpTo_succ, ih, List.take_succ_eq_append_getElem h2, List.take_succ_eq_append_getElem h1, List.append_assoc]
    have e := cmpK_snoc (zs.take m) zs[m] zs[m + 1]
    show _ = compactK (zs.take m ++ [zs[m], zs[m + 1]])
    rw [e]
    have hk : Lib.keeps zs.toArray (m + 1) = !(decide (zs[m] = zs[m + 1])) := by
      simp [Lib.keeps, h1, h2]
      by_cases h3 : zs[m] = zs[m + 1]
      · simp [h3]
      · have h4 : ¬ zs[m + 1] = zs[m] := fun e => h3 e.symm
        simp [h3, h4]
    rw [hk]
    by_cases h3 : zs[m] = zs[m + 1]
    · simp [h3]
    · simp [h3, h2]
theorem compact_eq {K : Type} [DecidableEq K] [Inhabited K] [BEq K] [LawfulBEq K] (zs : List K) : Lib.compact zs = compactK zs := by
  rw [Lib.compact, cmp_upto zs zs.length (Nat.le_refl _), List.take_length]
/-- Keys by their bytes. -/
def tx : Ord ByteArray where
  lt a b := decide (BL.txt a < BL.txt b)
  irr a := decide_eq_false (bl_irr _)
  tr a b c h1 h2 := decide_eq_true (bl_tr _ _ _ (of_decide_eq_true h1) (of_decide_eq_true h2))
  tot a b h1 h2 := txt_inj (bl_tot _ _ (of_decide_eq_false h1) (of_decide_eq_false h2))
theorem bl_le {a b : List UInt8} : a ≤ b ↔ ¬ b < a := List.not_lt.symm
def srtB (l : List (List UInt8)) : List (List UInt8) := l.mergeSort (fun x y => decide (x ≤ y))
theorem srt_up (l : List (List UInt8)) : (srtB l).Pairwise (fun a b => Ky.txt.lt b a = false) := by
  have h := List.pairwise_mergeSort (le := fun x y : List UInt8 => decide (x ≤ y)) (fun a b c h1 h2 => by
    have h1 := bl_le.1 (of_decide_eq_true h1)
    have h2 := bl_le.1 (of_decide_eq_true h2)
    refine decide_eq_true (bl_le.2 (fun h3 => ?_))
    by_cases h4 : a < b
    · exact h2 (bl_tr _ _ _ h3 h4)
    · have := bl_tot a b h4 h1
      subst this
      exact h2 h3) (fun a b => by
    by_cases h : b < a
    · have : ¬ a < b := fun h2 => bl_irr a (bl_tr _ _ _ h2 h)
      exact Bool.or_eq_true _ _ ▸ .inr (decide_eq_true (bl_le.2 this))
    · exact Bool.or_eq_true _ _ ▸ .inl (decide_eq_true (bl_le.2 h))) l
  exact h.imp (fun h => decide_eq_false (bl_le.1 (of_decide_eq_true h)))
theorem set_map (keys : List ByteArray) : setR Ky.txt (keys.map BL.txt) = (setR tx keys).map BL.txt := by
  have h1 := set_spec Ky.txt (keys.map BL.txt)
  have h2 := set_spec tx keys
  refine ext_mem Ky.txt h1.1 (List.pairwise_map.2 h2.1) (fun x => ?_)
  rw [h1.2, List.mem_map, List.mem_map]
  constructor
  · rintro ⟨k, hk, rfl⟩; exact ⟨k, (h2.2 k).2 hk, rfl⟩
  · rintro ⟨k, hk, rfl⟩; exact ⟨k, (h2.2 k).1 hk, rfl⟩
theorem set_sorted (keys : List ByteArray) : Lib.compact (srtB (keys.map BL.txt)) = (setR tx keys).map BL.txt := by
  rw [compact_eq, ← set_map]
  exact compact_set Ky.txt (srt_up _) (fun x => (List.mergeSort_perm _ _).mem_iff)
end Go.Proofs.Ky
