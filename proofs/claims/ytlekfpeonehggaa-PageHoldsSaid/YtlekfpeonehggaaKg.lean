/- Rows in pages: Del. Plain. -/
import Derived.Test.YtlekfpeonehggaaKf
namespace Go.Proofs.Ky
set_option linter.unusedVariables false
set_option linter.unusedSectionVars false
variable {K : Type} [DecidableEq K] (O : Ord K)
/-- Two pages, one behind the other, as one. -/
def joinAt (P : List (List (Row K))) (a : Nat) : List (List (Row K)) := P.take a ++ [P.getD a [] ++ P.getD (a + 1) []] ++ P.drop (a + 2)
theorem join_flat {P : List (List (Row K))} {a : Nat} (h : a + 1 < P.length) : (joinAt P a).flatten = P.flatten := by
  unfold joinAt
  have e : P = P.take a ++ (P[a] :: P[a + 1] :: P.drop (a + 2)) := by
    rw [show P[a] :: P[a + 1] :: P.drop (a + 2) = P.drop a from by
      rw [List.drop_eq_getElem_cons (show a < P.length by omega), List.drop_eq_getElem_cons h]]
    exact (List.take_append_drop a P).symm
  rw [getD_at _ _ (show a < P.length by omega), getD_at _ _ h]
  have e2 := congrArg List.flatten e
  simp only [List.flatten_append, List.flatten_cons, List.flatten_nil, List.append_assoc, List.append_nil] at e2 ⊢
  exact e2.symm
/-- Which two are to be one, behind a Del from page i that leaves m rows there. -/
def joinI (most i m : Nat) (P : List (List (Row K))) : Option Nat :=
  if i + 1 < P.length ∧ m + (P.getD (i + 1) []).length ≤ most then some i else if 0 < i ∧ m + (P.getD (i - 1) []).length ≤ most then some (i - 1) else none
/-- The document's Del of a key that is there. -/
def delS (most : Nat) (k : K) (P : List (List (Row K))) : List (List (Row K)) :=
  let i := pgI O k P
  let p := withR O k none (P.getD i [])
  if p = [] then putAt P i [] else if most / 2 ≤ p.length then putAt P i [p] else match joinI most i p.length P with
    | some a => joinAt (putAt P i [p]) a
    | none => putAt P i [p]
theorem putAt_len {P : List (List (Row K))} {i : Nat} (hi : i < P.length) (p : List (Row K)) : (putAt P i [p]).length = P.length := by
  unfold putAt
  simp only [List.length_append, List.length_take, List.length_singleton, List.length_drop]
  omega
theorem joinI_lt {most i m a : Nat} {P : List (List (Row K))} (hi : i < P.length) (h : joinI most i m P = some a) : a + 1 < P.length := by
  unfold joinI at h
  split at h
  · rename_i h1; injection h with h; omega
  · split at h
    · rename_i h1; injection h with h; omega
    · cases h
theorem del_flat {most : Nat} {k : K} {P : List (List (Row K))} (h : Pgs O P) (hn : P ≠ []) : (delS O most k P).flatten = withR O k none P.flatten := by
  have hl := pgI_lt O k hn
  rw [with_flat O none h hn]
  unfold delS
  simp only []
  have hp : (putAt P (pgI O k P) [withR O k none (P.getD (pgI O k P) [])]).flatten = (P.modify (pgI O k P) (withR O k none)).flatten :=
    putAt_flat hl _ _ (by rw [getD_at _ _ hl]; simp)
  split
  · rename_i e
    exact putAt_flat hl _ _ (by rw [getD_at _ _ hl] at e; rw [e]; rfl)
  · split
    · exact hp
    · split
      · rename_i a ha
        rw [join_flat (by rw [putAt_len hl]; exact joinI_lt hl ha)]
        exact hp
      · exact hp
theorem del_pgs {most : Nat} {k : K} {P : List (List (Row K))} (h : Pgs O P) (hn : P ≠ []) : Pgs O (delS O most k P) := by
  refine ⟨by rw [del_flat O h hn]; exact up_with_none O h.1, fun q hq => ?_⟩
  unfold delS at hq
  simp only [] at hq
  have h1 : ∀ {p : List (Row K)}, p ≠ [] → ∀ q ∈ putAt P (pgI O k P) [p], q ≠ [] := fun hp q hq => by
    rcases putAt_mem hq with hq | hq
    · exact h.2 q hq
    · simp at hq; subst hq; exact hp
  split at hq
  · rcases putAt_mem hq with hq | hq
    · exact h.2 q hq
    · cases hq
  · rename_i hp
    split at hq
    · exact h1 hp q hq
    · split at hq
      · rename_i a ha
        have hl := pgI_lt O k hn
        have hal := joinI_lt hl ha
        unfold joinAt at hq
        rcases List.mem_append.1 hq with hq | hq
        · rcases List.mem_append.1 hq with hq | hq
          · exact h1 hp q (List.mem_of_mem_take hq)
          · simp only [List.mem_singleton] at hq
            have hlen := putAt_len hl (withR O k none (P.getD (pgI O k P) []))
            have hne := h1 hp _ (List.getElem_mem (show a < (putAt P (pgI O k P) [withR O k none (P.getD (pgI O k P) [])]).length by omega))
            rw [getD_at _ _ (by omega)] at hq
            intro e
            rw [hq] at e
            exact hne (List.append_eq_nil_iff.1 e).1
        · exact h1 hp q (List.mem_of_mem_drop hq)
      · exact h1 hp q hq
end Go.Proofs.Ky
