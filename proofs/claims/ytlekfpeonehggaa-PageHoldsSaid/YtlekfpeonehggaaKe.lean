/- Rows in pages: where a key's page stands; With of all rows is With of that page. Plain. -/
import Derived.Test.YtlekfpeonehggaaKd
namespace Go.Proofs.Ky
set_option linter.unusedVariables false
set_option linter.unusedSectionVars false
variable {K : Type} [DecidableEq K] (O : Ord K)
theorem go_low {k : K} (n : Int) (i : Bool) : ∀ {p r : List (Row K)}, (∀ x ∈ p, O.lt x.1 k = true) → withGo O k n i (p ++ r) = p ++ withGo O k n i r
  | [], r, _ => rfl
  | x :: p, r, h => by
    have hx := h x List.mem_cons_self
    have ih := go_low n i (p := p) (r := r) (fun y hy => h y (List.mem_cons_of_mem _ hy))
    have hne := O.ne hx
    simp only [List.cons_append, withGo, hx, Bool.not_true, Bool.and_false, Bool.or_false, ih, hne, if_false, Bool.false_eq_true, List.nil_append]
theorem go_high {k : K} (n : Int) : ∀ (i : Bool) {p r : List (Row K)}, (∀ x ∈ r, O.lt k x.1 = true) → withGo O k n i (p ++ r) = withGo O k n i p ++ r
  | true, p, r, h => by
    rw [go_in, go_in, List.filter_append, filter_ne (fun x hx => (O.ne (h x hx)).symm)]
  | false, [], r, h => by
    cases r with
    | nil => simp
    | cons y t =>
      have hy := h y List.mem_cons_self
      have hlt := O.asym hy
      have hne : ¬ y.1 = k := (O.ne hy).symm
      simp only [List.nil_append, withGo, hlt, Bool.not_false, Bool.and_self, Bool.or_true, if_true, hne, if_false, go_in, Bool.false_eq_true]
      rw [filter_ne (fun x hx => (O.ne (h x (List.mem_cons_of_mem _ hx))).symm)]
      rfl
  | false, x :: p, r, h => by
    have ih := fun i => go_high (k := k) n i (p := p) (r := r) h
    simp only [List.cons_append, withGo, ih, List.append_assoc]
theorem with_low {k : K} (v : Option Int) {p r : List (Row K)} (h : ∀ x ∈ p, O.lt x.1 k = true) : withR O k v (p ++ r) = p ++ withR O k v r := by
  cases v with
  | none => exact go_low O 0 true h
  | some n => exact go_low O n false h
theorem with_high {k : K} (v : Option Int) {p r : List (Row K)} (h : ∀ x ∈ r, O.lt k x.1 = true) : withR O k v (p ++ r) = withR O k v p ++ r := by
  cases v with
  | none => exact go_high O 0 true h
  | some n => exact go_high O n false h
/-- A page begins above a key. -/
def over (k : K) (p : List (Row K)) : Bool := match p with | [] => false | r :: _ => O.lt k r.1
/-- A key's page. -/
def pgI (k : K) : List (List (Row K)) → Nat
  | [] => 0
  | [_] => 0
  | _ :: q :: R => if over O k q then 0 else pgI k (q :: R) + 1
theorem pgI_lt (k : K) : ∀ {P : List (List (Row K))}, P ≠ [] → pgI O k P < P.length
  | [], h => absurd rfl h
  | [p], _ => Nat.zero_lt_one
  | p :: q :: R, _ => by
    have := pgI_lt k (P := q :: R) (by simp)
    unfold pgI
    simp only [List.length_cons] at this ⊢
    split <;> omega
/-- Pages that hold: none empty, all rows by rising keys. -/
def Pgs (P : List (List (Row K))) : Prop := Up O P.flatten ∧ ∀ p ∈ P, p ≠ []
theorem Pgs.tail {p : List (Row K)} {R : List (List (Row K))} (h : Pgs O (p :: R)) : Pgs O R := by
  refine ⟨?_, fun q hq => h.2 q (List.mem_cons_of_mem _ hq)⟩
  have := h.1
  rw [List.flatten_cons] at this
  exact (List.pairwise_append.1 this).2.1
theorem pgs_over {k : K} {p q : List (Row K)} {R : List (List (Row K))} (h : Pgs O (p :: q :: R)) (ho : over O k q = true) : ∀ x ∈ (q :: R).flatten, O.lt k x.1 = true := by
  have hu := h.tail.1
  cases q with
  | nil => cases ho
  | cons s q =>
    intro x hx
    rw [List.flatten_cons, List.cons_append] at hu hx
    exact above_cons O hu ho x hx
theorem pgs_under {k : K} {p q : List (Row K)} {R : List (List (Row K))} (h : Pgs O (p :: q :: R)) (ho : over O k q = false) : ∀ x ∈ p, O.lt x.1 k = true := by
  intro x hx
  have hq := h.2 q (by simp)
  have hu := h.1
  cases q with
  | nil => exact absurd rfl hq
  | cons s q =>
    have hk : O.lt k s.1 = false := ho
    rw [List.flatten_cons] at hu
    have := (List.pairwise_append.1 hu).2.2 x hx s (by simp)
    cases e : O.lt s.1 k with
    | true => exact O.tr _ _ _ this e
    | false => rw [O.tot _ _ hk e]; exact this
/-- With of all rows is With of the key's page. -/
theorem with_flat {k : K} (v : Option Int) : ∀ {P : List (List (Row K))}, Pgs O P → P ≠ [] → withR O k v P.flatten = (P.modify (pgI O k P) (withR O k v)).flatten
  | [], _, h => absurd rfl h
  | [p], _, _ => by simp [pgI]
  | p :: q :: R, h, _ => by
    unfold pgI
    cases ho : over O k q with
    | true =>
      rw [if_pos rfl, List.flatten_cons, with_high O v (pgs_over O h ho)]
      simp
    | false =>
      have ih := with_flat v (k := k) (P := q :: R) h.tail (by simp)
      rw [if_neg (by simp), List.flatten_cons, with_low O v (pgs_under O h ho), ih]
      simp
theorem get_flat {k : K} : ∀ {P : List (List (Row K))}, Pgs O P → P ≠ [] → get k P.flatten = get k (P.getD (pgI O k P) [])
  | [], _, h => absurd rfl h
  | [p], _, _ => by simp [pgI]
  | p :: q :: R, h, _ => by
    unfold pgI
    cases ho : over O k q with
    | true =>
      rw [if_pos rfl, List.flatten_cons, get_app, get_none (l := (q :: R).flatten) (fun x hx => (O.ne (pgs_over O h ho x hx)).symm)]
      show _ = get k p
      cases get k p <;> rfl
    | false =>
      have ih := get_flat (k := k) (P := q :: R) h.tail (by simp)
      rw [if_neg (by simp), List.flatten_cons, get_app, get_none (l := p) (fun x hx => O.ne (pgs_under O h ho x hx))]
      show get k (q :: R).flatten = _
      rw [ih]
      simp
/-- A page that is too full is two. -/
def partR (most : Nat) (p : List (Row K)) : List (List (Row K)) := if most < p.length then [p.take (p.length / 2), p.drop (p.length / 2)] else [p]
theorem part_flat (most : Nat) (p : List (Row K)) : (partR most p).flatten = p := by
  unfold partR
  split <;> simp
/-- In the place of one page some others. -/
def putAt (P : List (List (Row K))) (i : Nat) (l : List (List (Row K))) : List (List (Row K)) := P.take i ++ l ++ P.drop (i + 1)
theorem putAt_flat {P : List (List (Row K))} {i : Nat} (hi : i < P.length) (f : List (Row K) → List (Row K)) (l : List (List (Row K))) (hl : l.flatten = f P[i]) : (putAt P i l).flatten = (P.modify i f).flatten := by
  unfold putAt
  rw [List.modify_eq_take_cons_drop hi]
  simp [hl]
end Go.Proofs.Ky
