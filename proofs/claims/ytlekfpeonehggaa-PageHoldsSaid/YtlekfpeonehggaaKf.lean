/- Rows in pages: the document finds a page from the end; what Put and Del leave holds. Plain. -/
import Derived.Test.YtlekfpeonehggaaKe
namespace Go.Proofs.Ky
set_option linter.unusedVariables false
set_option linter.unusedSectionVars false
variable {K : Type} [DecidableEq K] (O : Ord K)
theorem getD_at {α : Type} (l : List α) (d : α) {i : Nat} (h : i < l.length) : l.getD i d = l[i] := by simp [List.getD, h]
theorem pgI_spec {k : K} : ∀ {P : List (List (Row K))}, P ≠ [] → (∀ j, 0 < j → j ≤ pgI O k P → over O k (P.getD j []) = false) ∧ (pgI O k P + 1 < P.length → over O k (P.getD (pgI O k P + 1) []) = true)
  | [], h => absurd rfl h
  | [p], _ => ⟨fun j h1 h2 => by simp only [pgI] at h2; omega, fun h => by simp [pgI] at h⟩
  | p :: q :: R, _ => by
    have ih := pgI_spec (k := k) (P := q :: R) (by simp)
    unfold pgI
    cases ho : over O k q with
    | true =>
      rw [if_pos rfl]
      exact ⟨fun j h1 h2 => by omega, fun _ => ho⟩
    | false =>
      rw [if_neg (by simp)]
      refine ⟨fun j h1 h2 => ?_, fun h => ih.2 (by simp only [List.length_cons] at h ⊢; omega)⟩
      cases j with
      | zero => omega
      | succ j =>
        cases j with
        | zero => exact ho
        | succ j => exact ih.1 (j + 1) (by omega) (by omega)
theorem pgs_lt {P : List (List (Row K))} (h : Pgs O P) {i j : Nat} (hi : i < P.length) (hj : j < P.length) (hij : i < j) : ∀ x ∈ P[i], ∀ y ∈ P[j], O.lt x.1 y.1 = true :=
  List.pairwise_iff_getElem.1 (List.pairwise_flatten.1 h.1).2 i j hi hj hij
theorem over_up {P : List (List (Row K))} (h : Pgs O P) {k : K} {i j : Nat} (hj : j < P.length) (hij : i < j) (ho : over O k (P.getD i []) = true) : over O k (P.getD j []) = true := by
  have hi : i < P.length := by omega
  have h1 := pgs_lt O h hi hj hij
  have hn := h.2 P[j] (List.getElem_mem hj)
  rw [getD_at _ _ hi] at ho
  rw [getD_at _ _ hj]
  cases hp : P[i] with
  | nil => rw [hp] at ho; cases ho
  | cons s p =>
    cases hq : P[j] with
    | nil => exact absurd hq hn
    | cons t q =>
      rw [hp] at ho h1
      rw [hq] at h1
      exact O.tr _ _ _ ho (h1 s List.mem_cons_self t List.mem_cons_self)
/-- The document's way: from the end. -/
def pgD (k : K) (P : List (List (Row K))) : Nat → Nat
  | 0 => 0
  | i + 1 => if over O k (P.getD (i + 1) []) then pgD k P i else i + 1
theorem pgD_down {k : K} {P : List (List (Row K))} {m : Nat} (h1 : ∀ j, 0 < j → j ≤ m → over O k (P.getD j []) = false) : ∀ i, m ≤ i → (∀ j, m < j → j ≤ i → over O k (P.getD j []) = true) → pgD O k P i = m
  | 0, h, _ => by unfold pgD; omega
  | i + 1, h, h2 => by
    unfold pgD
    by_cases e : m = i + 1
    · subst e
      rw [h1 (i + 1) (by omega) (Nat.le_refl _), if_neg (by simp)]
    · rw [h2 (i + 1) (by omega) (Nat.le_refl _), if_pos rfl]
      exact pgD_down h1 i (by omega) (fun j hj hji => h2 j hj (by omega))
theorem pgD_eq {k : K} {P : List (List (Row K))} (h : Pgs O P) (hn : P ≠ []) : pgD O k P (P.length - 1) = pgI O k P := by
  have hs := pgI_spec O (k := k) hn
  have hl := pgI_lt O k hn
  refine pgD_down O hs.1 _ (by omega) (fun j hj hji => ?_)
  have h1 := hs.2 (by omega)
  by_cases e : j = pgI O k P + 1
  · rw [e]; exact h1
  · exact over_up O h (show j < P.length by omega) (by omega) h1
/-- The document's Put: a page's rows with the key, parted if they are too many. -/
def putS (most : Nat) (k : K) (n : Int) (P : List (List (Row K))) : List (List (Row K)) :=
  if P = [] then [[(k, n)]] else putAt P (pgI O k P) (partR most (withR O k (some n) (P.getD (pgI O k P) [])))
theorem with_some_ne {k : K} {n : Int} {l : List (Row K)} : withR O k (some n) l ≠ [] := by
  intro e
  have := get_with O k k (some n) l
  rw [e, if_pos rfl] at this
  cases this
theorem part_ne {most : Nat} (hm : 1 ≤ most) {p : List (Row K)} (h : p ≠ []) : ∀ q ∈ partR most p, q ≠ [] := by
  intro q hq e
  have hl : 0 < p.length := List.length_pos_iff.2 h
  unfold partR at hq
  split at hq
  · subst e
    simp only [List.mem_cons, List.not_mem_nil, or_false] at hq
    rcases hq with hq | hq
    · have := congrArg List.length hq
      simp only [List.length_nil, List.length_take] at this
      omega
    · have := congrArg List.length hq
      simp only [List.length_nil, List.length_drop] at this
      omega
  · simp at hq; subst hq; exact h e
theorem putAt_mem {P : List (List (Row K))} {i : Nat} {l : List (List (Row K))} {q : List (Row K)} (h : q ∈ putAt P i l) : q ∈ P ∨ q ∈ l := by
  unfold putAt at h
  rcases List.mem_append.1 h with h | h
  · rcases List.mem_append.1 h with h | h
    · exact .inl (List.mem_of_mem_take h)
    · exact .inr h
  · exact .inl (List.mem_of_mem_drop h)
theorem put_flat {most : Nat} {k : K} {n : Int} {P : List (List (Row K))} (h : Pgs O P) : (putS O most k n P).flatten = withR O k (some n) P.flatten := by
  unfold putS
  by_cases hn : P = []
  · subst hn; rfl
  · rw [if_neg hn, with_flat O (some n) h hn]
    have hl := pgI_lt O k hn
    exact putAt_flat hl _ _ (by rw [part_flat, getD_at _ _ hl])
theorem put_pgs {most : Nat} (hm : 1 ≤ most) {k : K} {n : Int} {P : List (List (Row K))} (h : Pgs O P) : Pgs O (putS O most k n P) := by
  refine ⟨by rw [put_flat O h]; exact up_with_some O n h.1, fun q hq => ?_⟩
  unfold putS at hq
  split at hq
  · simp at hq; subst hq; simp
  · rcases putAt_mem hq with hq | hq
    · exact h.2 q hq
    · exact part_ne hm (with_some_ne O) q hq
end Go.Proofs.Ky
