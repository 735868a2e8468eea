/- Rows in pages: none gets too full. Plain. -/
import Derived.Test.YtlekfpeonehggaaKg
namespace Go.Proofs.Ky
set_option linter.unusedVariables false
set_option linter.unusedSectionVars false
variable {K : Type} [DecidableEq K] (O : Ord K)
def Thin (most : Nat) (P : List (List (Row K))) : Prop := ∀ p ∈ P, p.length ≤ most
theorem pgs_up {P : List (List (Row K))} (h : Pgs O P) {i : Nat} (hi : i < P.length) : Up O P[i] := (List.pairwise_flatten.1 h.1).1 _ (List.getElem_mem hi)
theorem put_thin {most : Nat} (hm : 2 ≤ most) {k : K} {n : Int} {P : List (List (Row K))} (h : Pgs O P) (ht : Thin most P) : Thin most (putS O most k n P) := by
  intro q hq
  unfold putS at hq
  split at hq
  · simp at hq; subst hq; simp; omega
  · rename_i hn
    have hl := pgI_lt O k hn
    rcases putAt_mem hq with hq | hq
    · exact ht q hq
    · rw [getD_at _ _ hl] at hq
      have h1 := len_with_some O (k := k) n (pgs_up O h hl)
      have h2 := ht _ (List.getElem_mem hl)
      have h3 : (withR O k (some n) P[pgI O k P]).length ≤ most + 1 := by rw [h1]; split <;> omega
      generalize withR O k (some n) P[pgI O k P] = p at hq h3
      unfold partR at hq
      split at hq
      · simp only [List.mem_cons, List.not_mem_nil, or_false] at hq
        rcases hq with rfl | rfl
        · rw [List.length_take]; omega
        · rw [List.length_drop]; omega
      · simp at hq; subst hq; omega
theorem putAt_get {P : List (List (Row K))} {i : Nat} (hi : i < P.length) (p : List (Row K)) (j : Nat) : (putAt P i [p]).getD j [] = if j = i then p else P.getD j [] := by
  unfold putAt
  have e : P.take i ++ [p] ++ P.drop (i + 1) = P.set i p := by
    rw [List.set_eq_take_append_cons_drop, if_pos hi]; simp
  rw [e]
  simp only [List.getD, List.getElem?_set]
  by_cases h : i = j
  · subst h; simp [hi]
  · rw [if_neg h, if_neg (fun e => h e.symm)]
theorem del_thin {most : Nat} {k : K} {P : List (List (Row K))} (h : Pgs O P) (hn : P ≠ []) (ht : Thin most P) : Thin most (delS O most k P) := by
  have hl := pgI_lt O k hn
  have h1 := len_with_none O (k := k) (pgs_up O h hl)
  have h2 := ht _ (List.getElem_mem hl)
  intro q hq
  unfold delS at hq
  simp only [getD_at _ _ hl] at hq
  generalize withR O k none P[pgI O k P] = p at hq h1
  have hp : ∀ q ∈ putAt P (pgI O k P) [p], q.length ≤ most := fun q hq => by
    rcases putAt_mem hq with hq | hq
    · exact ht q hq
    · simp at hq; subst hq; omega
  split at hq
  · rcases putAt_mem hq with hq | hq
    · exact ht q hq
    · cases hq
  · split at hq
    · exact hp q hq
    · split at hq
      · rename_i a ha
        unfold joinAt at hq
        rcases List.mem_append.1 hq with hq | hq
        · rcases List.mem_append.1 hq with hq | hq
          · exact hp q (List.mem_of_mem_take hq)
          · simp only [List.mem_singleton] at hq
            subst hq
            rw [List.length_append, putAt_get hl, putAt_get hl]
            unfold joinI at ha
            split at ha
            · rename_i hj
              injection ha with ha
              subst ha
              rw [if_pos rfl, if_neg (by omega)]
              omega
            · split at ha
              · rename_i hj
                injection ha with ha
                subst ha
                rw [if_neg (by omega), if_pos (by omega)]
                omega
              · cases ha
        · exact hp q (List.mem_of_mem_drop hq)
      · exact hp q hq
end Go.Proofs.Ky
