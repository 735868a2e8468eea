/- Rows in pages: the document finds a page from the end; what Put and Del leave holds. Plain. Rows in pages: Del. Plain. Rows in pages: none gets too full. Plain. -/
import Derived.Test.YtlekfpeonehggaaGreatDoorJ19
section
namespace Go.Proofs.Ky
set_option linter.unusedVariables false
set_option linter.unusedSectionVars false
variable {K : Type} [DecidableEq K] (O : Ord K)
theorem getD_at {α : Type} (l : List α) (d : α) {i : Nat} (h : i < l.length) : l.getD i d = l[i] := by simp [List.getD, h]
theorem pgI_spec {k : K} : ∀ {P : List (List (Row K))}, P ≠ [] → (∀ j, 0 < j → j ≤ pgI O k P → over O k (P.getD j []) = false) ∧ (pgI O k P + 1 < P.length → over O k (P.getD (pgI O k P + 1) []) = true)
  | [], h => absurd rfl h
  | [p], _ => ⟨fun j h1 h2 => by simp only [pgI] at h2; omega, fun h => by simp [pgI] at h⟩
  | p :: q :: R, _ => by
    have ih := pgI_spec (k := k) (P := q :: R) (by simp)
    unfold pgI
    cases ho : over O k q with
    | true =>
      rw [if_pos rfl]
      exact ⟨fun j h1 h2 => by omega, fun _ => ho⟩
    | false =>
      rw [if_neg (by simp)]
      refine ⟨fun j h1 h2 => ?_, fun h => ih.2 (by simp only [List.length_cons] at h ⊢; omega)⟩
      cases j with
      | zero => omega
      | succ j =>
        cases j with
        | zero => exact ho
        | succ j => exact ih.1 (j + 1) (by omega) (by omega)
theorem pgs_lt {P : List (List (Row K))} (h : Pgs O P) {i j : Nat} (hi : i < P.length) (hj : j < P.length) (hij : i < j) : ∀ x ∈ P[i], ∀ y ∈ P[j], O.lt x.1 y.1 = true :=
  List.pairwise_iff_getElem.1 (List.pairwise_flatten.1 h.1).2 i j hi hj hij
theorem over_up {P : List (List (Row K))} (h : Pgs O P) {k : K} {i j : Nat} (hj : j < P.length) (hij : i < j) (ho : over O k (P.getD i []) = true) : over O k (P.getD j []) = true := by
  have hi : i < P.length := by omega
  have h1 := pgs_lt O h hi hj hij
  have hn := h.2 P[j] (List.getElem_mem hj)
  rw [getD_at _ _ hi] at ho
  rw [getD_at _ _ hj]
  cases hp : P[i] with
  | nil => rw [hp] at ho; cases ho
  | cons s p =>
    cases hq : P[j] with
    | nil => exact absurd hq hn
    | cons t q =>
      rw [hp] at ho h1
      rw [hq] at h1
      exact O.tr _ _ _ ho (h1 s List.mem_cons_self t List.mem_cons_self)
/-- The document's way: from the end. -/
def pgD (k : K) (P : List (List (Row K))) : Nat → Nat
  | 0 => 0
  | i + 1 => if over O k (P.getD (i + 1) []) then pgD k P i else i + 1
theorem pgD_down {k : K} {P : List (List (Row K))} {m : Nat} (h1 : ∀ j, 0 < j → j ≤ m → over O k (P.getD j []) = false) : ∀ i, m ≤ i → (∀ j, m < j → j ≤ i → over O k (P.getD j []) = true) → pgD O k P i = m
  | 0, h, _ => by unfold pgD; omega
  | i + 1, h, h2 => by
    unfold pgD
    by_cases e : m = i + 1
    · subst e
      rw [h1 (i + 1) (by omega) (Nat.le_refl _), if_neg (by simp)]
    · rw [h2 (i + 1) (by omega) (Nat.le_refl _), if_pos rfl]
      exact pgD_down h1 i (by omega) (fun j hj hji => h2 j hj (by omega))
theorem pgD_eq {k : K} {P : List (List (Row K))} (h : Pgs O P) (hn : P ≠ []) : pgD O k P (P.length - 1) = pgI O k P := by
  have hs := pgI_spec O (k := k) hn
  have hl := pgI_lt O k hn
  refine pgD_down O hs.1 _ (by omega) (fun j hj hji => ?_)
  have h1 := hs.2 (by omega)
  by_cases e : j = pgI O k P + 1
  · rw [e]; exact h1
  · exact over_up O h (show j < P.length by omega) (by omega) h1
/-- The document's Put: a page's rows with the key, parted if they are too many. -/
def putS (most : Nat) (k : K) (n : Int) (P : List (List (Row K))) : List (List (Row K)) :=
  if P = [] then [[(k, n)]] else putAt P (pgI O k P) (partR most (withR O k (some n) (P.getD (pgI O k P) [])))
theorem with_some_ne {k : K} {n : Int} {l : List (Row K)} : withR O k (some n) l ≠ [] := by
  intro e
  have := get_with O k k (some n) l
  rw [e, if_pos rfl] at this
  cases this
theorem part_ne {most : Nat} (hm : 1 ≤ most) {p : List (Row K)} (h : p ≠ []) : ∀ q ∈ partR most p, q ≠ [] := by
  intro q hq e
  have hl : 0 < p.length := List.length_pos_iff.2 h
  unfold partR at hq
  split at hq
  · subst e
    simp only [List.mem_cons, List.not_mem_nil, or_false] at hq
    rcases hq with hq | hq
    · have := congrArg List.length hq
      simp only [List.length_nil, List.length_take] at this
      omega
    · have := congrArg List.length hq
      simp only [List.length_nil, List.length_drop] at this
      omega
  · simp at hq; subst hq; exact h e
theorem putAt_mem {P : List (List (Row K))} {i : Nat} {l : List (List (Row K))} {q : List (Row K)} (h : q ∈ putAt P i l) : q ∈ P ∨ q ∈ l := by
  unfold putAt at h
  rcases List.mem_append.1 h with h | h
  · rcases List.mem_append.1 h with h | h
    · exact .inl (List.mem_of_mem_take h)
    · exact .inr h
  · exact .inl (List.mem_of_mem_drop h)
theorem put_flat {most : Nat} {k : K} {n : Int} {P : List (List (Row K))} (h : Pgs O P) : (putS O most k n P).flatten = withR O k (some n) P.flatten := by
  unfold putS
  by_cases hn : P = []
  · subst hn; rfl
  · rw [if_neg hn, with_flat O (some n) h hn]
    have hl := pgI_lt O k hn
    exact putAt_flat hl _ _ (by rw [part_flat, getD_at _ _ hl])
theorem put_pgs {most : Nat} (hm : 1 ≤ most) {k : K} {n : Int} {P : List (List (Row K))} (h : Pgs O P) : Pgs O (putS O most k n P) := by
  refine ⟨by rw [put_flat O h]; exact up_with_some O n h.1, fun q hq => ?_⟩
  unfold putS at hq
  split at hq
  · simp at hq; subst hq; simp
  · rcases putAt_mem hq with hq | hq
    · exact h.2 q hq
    · exact part_ne hm (with_some_ne O) q hq
end Go.Proofs.Ky
end

section
namespace Go.Proofs.Ky
set_option linter.unusedVariables false
set_option linter.unusedSectionVars false
variable {K : Type} [DecidableEq K] (O : Ord K)
/-- Two pages, one behind the other, as one. -/
def joinAt (P : List (List (Row K))) (a : Nat) : List (List (Row K)) := P.take a ++ [P.getD a [] ++ P.getD (a + 1) []] ++ P.drop (a + 2)
theorem join_flat {P : List (List (Row K))} {a : Nat} (h : a + 1 < P.length) : (joinAt P a).flatten = P.flatten := by
  unfold joinAt
  have e : P = P.take a ++ (P[a] :: P[a + 1] :: P.drop (a + 2)) := by
    rw [show P[a] :: P[a + 1] :: P.drop (a + 2) = P.drop a from by
      rw [List.drop_eq_getElem_cons (show a < P.length by omega), List.drop_eq_getElem_cons h]]
    exact (List.take_append_drop a P).symm
  rw [getD_at _ _ (show a < P.length by omega), getD_at _ _ h]
  have e2 := congrArg List.flatten e
  simp only [List.flatten_append, List.flatten_cons, List.flatten_nil, List.append_assoc, List.append_nil] at e2 ⊢
  exact e2.symm
/-- Which two are to be one, behind a Del from page i that leaves m rows there. -/
def joinI (most i m : Nat) (P : List (List (Row K))) : Option Nat :=
  if i + 1 < P.length ∧ m + (P.getD (i + 1) []).length ≤ most then some i else if 0 < i ∧ m + (P.getD (i - 1) []).length ≤ most then some (i - 1) else none
/-- The document's Del of a key that is there. -/
def delS (most : Nat) (k : K) (P : List (List (Row K))) : List (List (Row K)) :=
  let i := pgI O k P
  let p := withR O k none (P.getD i [])
  if p = [] then putAt P i [] else if most / 2 ≤ p.length then putAt P i [p] else match joinI most i p.length P with
    | some a => joinAt (putAt P i [p]) a
    | none => putAt P i [p]
theorem putAt_len {P : List (List (Row K))} {i : Nat} (hi : i < P.length) (p : List (Row K)) : (putAt P i [p]).length = P.length := by
  unfold putAt
  simp only [List.length_append, List.length_take, List.length_singleton, List.length_drop]
  omega
theorem joinI_lt {most i m a : Nat} {P : List (List (Row K))} (hi : i < P.length) (h : joinI most i m P = some a) : a + 1 < P.length := by
  unfold joinI at h
  split at h
  · rename_i h1; injection h with h; omega
  · split at h
    · rename_i h1; injection h with h; omega
    · cases h
theorem del_flat {most : Nat} {k : K} {P : List (List (Row K))} (h : Pgs O P) (hn : P ≠ []) : (delS O most k P).flatten = withR O k none P.flatten := by
  have hl := pgI_lt O k hn
  rw [with_flat O none h hn]
  unfold delS
  simp only []
  have hp : (putAt P (pgI O k P) [withR O k none (P.getD (pgI O k P) [])]).flatten = (P.modify (pgI O k P) (withR O k none)).flatten :=
    putAt_flat hl _ _ (by rw [getD_at _ _ hl]; simp)
  split
  · rename_i e
    exact putAt_flat hl _ _ (by rw [getD_at _ _ hl] at e; rw [e]; rfl)
  · split
    · exact hp
    · split
      · rename_i a ha
        rw [join_flat (by rw [putAt_len hl]; exact joinI_lt hl ha)]
        exact hp
      · exact hp
theorem del_pgs {most : Nat} {k : K} {P : List (List (Row K))} (h : Pgs O P) (hn : P ≠ []) : Pgs O (delS O most k P) := by
  refine ⟨by rw [del_flat O h hn]; exact up_with_none O h.1, fun q hq => ?_⟩
  unfold delS at hq
  simp only [] at hq
  have h1 : ∀ {p : List (Row K)}, p ≠ [] → ∀ q ∈ putAt P (pgI O k P) [p], q ≠ [] := fun hp q hq => by
    rcases putAt_mem hq with hq | hq
    · exact h.2 q hq
    · simp at hq; subst hq; exact hp
  split at hq
  · rcases putAt_mem hq with hq | hq
    · exact h.2 q hq
    · cases hq
  · rename_i hp
    split at hq
    · exact h1 hp q hq
    · split at hq
      · rename_i a ha
        have hl := pgI_lt O k hn
        have hal := joinI_lt hl ha
        unfold joinAt at hq
        rcases List.mem_append.1 hq with hq | hq
        · rcases List.mem_append.1 hq with hq | hq
          · exact h1 hp q (List.mem_of_mem_take hq)
          · simp only [List.mem_singleton] at hq
            have hlen := putAt_len hl (withR O k none (P.getD (pgI O k P) []))
            have hne := h1 hp _ (List.getElem_mem (show a < (putAt P (pgI O k P) [withR O k none (P.getD (pgI O k P) [])]).length by omega))
            rw [getD_at _ _ (by omega)] at hq
            intro e
            rw [hq] at e
            exact hne (List.append_eq_nil_iff.1 e).1
        · exact h1 hp q (List.mem_of_mem_drop hq)
      · exact h1 hp q hq
end Go.Proofs.Ky
end

section
namespace Go.Proofs.Ky
set_option linter.unusedVariables false
set_option linter.unusedSectionVars false
variable {K : Type} [DecidableEq K] (O : Ord K)
def Thin (most : Nat) (P : List (List (Row K))) : Prop := ∀ p ∈ P, p.length ≤ most
theorem pgs_up {P : List (List (Row K))} (h : Pgs O P) {i : Nat} (hi : i < P.length) : Up O P[i] := (List.pairwise_flatten.1 h.1).1 _ (List.getElem_mem hi)
theorem put_thin {most : Nat} (hm : 2 ≤ most) {k : K} {n : Int} {P : List (List (Row K))} (h : Pgs O P) (ht : Thin most P) : Thin most (putS O most k n P) := by
  intro q hq
  unfold putS at hq
  split at hq
  · simp at hq; subst hq; simp; omega
  · rename_i hn
    have hl := pgI_lt O k hn
    rcases putAt_mem hq with hq | hq
    · exact ht q hq
    · rw [getD_at _ _ hl] at hq
      have h1 := len_with_some O (k := k) n (pgs_up O h hl)
      have h2 := ht _ (List.getElem_mem hl)
      have h3 : (withR O k (some n) P[pgI O k P]).length ≤ most + 1 := by rw [h1]; split <;> omega
      generalize withR O k (some n) P[pgI O k P] = p at hq h3
      unfold partR at hq
      split at hq
      · simp only [List.mem_cons, List.not_mem_nil, or_false] at hq
        rcases hq with rfl | rfl
        · rw [List.length_take]; omega
        · rw [List.length_drop]; omega
      · simp at hq; subst hq; omega
theorem putAt_get {P : List (List (Row K))} {i : Nat} (hi : i < P.length) (p : List (Row K)) (j : Nat) : (putAt P i [p]).getD j [] = if j = i then p else P.getD j [] := by
  unfold putAt
  have e : P.take i ++ [p] ++ P.drop (i + 1) = P.set i p := by
    rw [List.set_eq_take_append_cons_drop, if_pos hi]; simp
  rw [e]
  simp only [List.getD, List.getElem?_set]
  by_cases h : i = j
  · subst h; simp [hi]
  · rw [if_neg h, if_neg (fun e => h e.symm)]
theorem del_thin {most : Nat} {k : K} {P : List (List (Row K))} (h : Pgs O P) (hn : P ≠ []) (ht : Thin most P) : Thin most (delS O most k P) := by
  have hl := pgI_lt O k hn
  have h1 := len_with_none O (k := k) (pgs_up O h hl)
  have h2 := ht _ (List.getElem_mem hl)
  intro q hq
  unfold delS at hq
  simp only [getD_at _ _ hl] at hq
  generalize withR O k none P[pgI O k P] = p at hq h1
  have hp : ∀ q ∈ putAt P (pgI O k P) [p], q.length ≤ most := fun q hq => by
    rcases putAt_mem hq with hq | hq
    · exact ht q hq
    · simp at hq; subst hq; omega
  split at hq
  · rcases putAt_mem hq with hq | hq
    · exact ht q hq
    · cases hq
  · split at hq
    · exact hp q hq
    · split at hq
      · rename_i a ha
        unfold joinAt at hq
        rcases List.mem_append.1 hq with hq | hq
        · rcases List.mem_append.1 hq with hq | hq
          · exact hp q (List.mem_of_mem_take hq)
          · simp only [List.mem_singleton] at hq
            subst hq
            rw [List.length_append, putAt_get hl, putAt_get hl]
            unfold joinI at ha
            split at ha
            · rename_i hj
              injection ha with ha
              subst ha
              rw [if_pos rfl, if_neg (by omega)]
              omega
            · split at ha
              · rename_i hj
                injection ha with ha
                subst ha
                rw [if_neg (by omega), if_pos (by omega)]
                omega
              · cases ha
        · exact hp q (List.mem_of_mem_drop hq)
      · exact hp q hq
end Go.Proofs.Ky
end
