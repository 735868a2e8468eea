/- Rows by rising keys: where a key stands, what With, Get, set and drop do. Plain, over any strict total order of keys. -/
namespace Go.Proofs.Ky
set_option linter.unusedVariables false
set_option linter.unusedSectionVars false
set_option linter.unusedSimpArgs false
structure Ord (K : Type) where
  lt : K → K → Bool
  irr : ∀ a, lt a a = false
  tr : ∀ a b c, lt a b = true → lt b c = true → lt a c = true
  tot : ∀ a b, lt a b = false → lt b a = false → a = b
variable {K : Type} [DecidableEq K] (O : Ord K)
abbrev Row (K : Type) := K × Int
theorem Ord.asym {a b : K} (h : O.lt a b = true) : O.lt b a = false := by
  cases e : O.lt b a with
  | false => rfl
  | true => have := O.tr _ _ _ h e; rw [O.irr] at this; cases this
theorem Ord.ne {a b : K} (h : O.lt a b = true) : a ≠ b := by rintro rfl; rw [O.irr] at h; cases h
def Up (l : List (Row K)) : Prop := l.Pairwise (fun a b => O.lt a.1 b.1 = true)
/-- How many stand below a key. -/
def low (k : K) (l : List (Row K)) : Nat := l.countP (fun r => O.lt r.1 k)
def get (k : K) (l : List (Row K)) : Option Int := (l.find? (fun r => r.1 == k)).map (·.2)
/-- The document's With: in: it stands already. -/
def withGo (k : K) (n : Int) : Bool → List (Row K) → List (Row K)
  | i, [] => if i then [] else [(k, n)]
  | i, r :: t =>
    let here := !i && !(O.lt r.1 k)
    let rest := withGo k n (i || here) t
    (if here then [(k, n)] else []) ++ (if r.1 = k then [] else [r]) ++ rest
def withR (k : K) (v : Option Int) (l : List (Row K)) : List (Row K) := match v with | some n => withGo O k n false l | none => withGo O k 0 true l
theorem low_le (k : K) (l : List (Row K)) : low O k l ≤ l.length := List.countP_le_length
theorem low_cons (k : K) (r : Row K) (l : List (Row K)) : low O k (r :: l) = low O k l + if O.lt r.1 k = true then 1 else 0 := by
  unfold low
  rw [List.countP_cons]
theorem low_zero {k : K} {r : Row K} {l : List (Row K)} (h : Up O (r :: l)) (hr : O.lt r.1 k = false) : low O k (r :: l) = 0 := by
  unfold low
  rw [List.countP_eq_zero]
  intro x hx
  rcases List.mem_cons.1 hx with rfl | hx
  · simp [hr]
  · have := (List.pairwise_cons.1 h).1 x hx
    cases e : O.lt x.1 k with
    | false => simp
    | true => have := O.tr _ _ _ this e; rw [hr] at this; cases this
theorem low_succ {k : K} {r : Row K} {l : List (Row K)} (hr : O.lt r.1 k = true) : low O k (r :: l) = low O k l + 1 := by rw [low_cons, if_pos hr]
/-- Of rising ones those below a key are the first. -/
theorem low_lt {k : K} : ∀ {l : List (Row K)}, Up O l → ∀ {i : Nat} {r : Row K}, l[i]? = some r → (O.lt r.1 k = true ↔ i < low O k l)
  | [], _, i, r, h => by simp at h
  | x :: l, hu, i, r, hi => by
    cases hx : O.lt x.1 k with
    | false =>
      rw [low_zero O hu hx]
      constructor
      · intro hr
        exfalso
        cases i with
        | zero => simp at hi; subst hi; rw [hx] at hr; cases hr
        | succ i =>
          have := (List.pairwise_cons.1 hu).1 r (List.mem_of_getElem? (by simpa using hi))
          have := O.tr _ _ _ this hr
          rw [hx] at this
          cases this
      · intro h; omega
    | true =>
      rw [low_succ O hx]
      cases i with
      | zero => simp at hi; subst hi; simp [hx]
      | succ i =>
        have := low_lt (List.pairwise_cons.1 hu).2 (k := k) (i := i) (r := r) (by simpa using hi)
        rw [this]
        omega
/-- Where a key stands, and whether it does. -/
def there (k : K) (l : List (Row K)) : Bool := match l[low O k l]? with | some r => r.1 == k | none => false
theorem there_nil (k : K) : there O k [] = false := rfl
theorem there_here {k : K} {r : Row K} {l : List (Row K)} (h : Up O (r :: l)) (hr : O.lt r.1 k = false) : there O k (r :: l) = (r.1 == k) := by
  unfold there
  rw [low_zero O h hr]
  rfl
theorem there_next {k : K} {r : Row K} {l : List (Row K)} (hr : O.lt r.1 k = true) : there O k (r :: l) = there O k l := by
  unfold there
  rw [low_succ O hr, List.getElem?_cons_succ]
theorem up_ne {k : K} {r : Row K} {l : List (Row K)} (h : Up O (r :: l)) (hr : O.lt r.1 k = false) : ∀ x ∈ l, x.1 ≠ k := by
  intro x hx e
  have := (List.pairwise_cons.1 h).1 x hx
  rw [e, hr] at this
  cases this
theorem get_none {k : K} {l : List (Row K)} (h : ∀ x ∈ l, x.1 ≠ k) : get k l = none := by
  unfold get
  rw [List.find?_eq_none.2 (fun x hx => by simpa using h x hx)]
  rfl
theorem get_there {k : K} : ∀ {l : List (Row K)}, Up O l → get k l = if there O k l then (l[low O k l]?).map (·.2) else none
  | [], _ => rfl
  | r :: l, h => by
    cases hr : O.lt r.1 k with
    | true =>
      have ih := get_there (k := k) (List.pairwise_cons.1 h).2
      rw [there_next O hr, low_succ O hr, List.getElem?_cons_succ, ← ih]
      unfold get
      rw [List.find?_cons]
      have : (r.1 == k) = false := by simpa using O.ne hr
      rw [this]
    | false =>
      rw [there_here O h hr, low_zero O h hr]
      by_cases e : r.1 = k
      · unfold get; simp [e]
      · rw [get_none (l := r :: l) (fun x hx => by
          rcases List.mem_cons.1 hx with rfl | hx
          · exact e
          · exact up_ne O h hr x hx)]
        simp [e]
theorem go_in {k : K} (n : Int) : ∀ {l : List (Row K)}, withGo O k n true l = l.filter (fun r => r.1 != k)
  | [] => rfl
  | r :: l => by
    have ih := go_in n (k := k) (l := l)
    simp only [withGo, Bool.not_true, Bool.false_and, Bool.or_false, Bool.true_or, ih, List.filter_cons]
    by_cases e : r.1 = k <;> simp [e]
theorem filter_ne {k : K} {l : List (Row K)} (h : ∀ x ∈ l, x.1 ≠ k) : l.filter (fun r => r.1 != k) = l := List.filter_eq_self.2 (fun x hx => by simpa using h x hx)
/-- With a key that holds something: put in its place. -/
theorem with_some {k : K} (n : Int) : ∀ {l : List (Row K)}, Up O l → withR O k (some n) l = if there O k l then l.set (low O k l) (k, n) else l.take (low O k l) ++ (k, n) :: l.drop (low O k l)
  | [], _ => rfl
  | r :: l, h => by
    show withGo O k n false (r :: l) = _
    cases hr : O.lt r.1 k with
    | true =>
      have ih : withGo O k n false l = _ := with_some n (k := k) (List.pairwise_cons.1 h).2
      have hne := O.ne hr
      simp only [withGo, hr, Bool.not_true, Bool.and_false, Bool.or_false, ih, there_next O hr, low_succ O hr]
      simp only [hne, if_false, Bool.false_eq_true, List.nil_append]
      split <;> simp
    | false =>
      rw [there_here O h hr, low_zero O h hr]
      have hl := filter_ne (up_ne O h hr)
      simp only [withGo, hr, Bool.not_false, Bool.and_self, Bool.or_true, go_in, hl]
      by_cases e : r.1 = k <;> simp [e]
theorem with_none {k : K} : ∀ {l : List (Row K)}, Up O l → withR O k none l = if there O k l then l.eraseIdx (low O k l) else l
  | [], _ => rfl
  | r :: l, h => by
    show withGo O k 0 true (r :: l) = _
    rw [go_in]
    cases hr : O.lt r.1 k with
    | true =>
      have ih : withGo O k 0 true l = _ := with_none (k := k) (List.pairwise_cons.1 h).2
      rw [go_in] at ih
      have hne : (r.1 != k) = true := bne_iff_ne.2 (O.ne hr)
      rw [there_next O hr, low_succ O hr, List.filter_cons, hne, if_pos rfl, ih]
      split <;> simp
    | false =>
      rw [there_here O h hr, low_zero O h hr, List.filter_cons, filter_ne (up_ne O h hr)]
      by_cases e : r.1 = k <;> simp [e]
theorem up_with_some {k : K} (n : Int) {l : List (Row K)} (h : Up O l) : Up O (withR O k (some n) l) := by
  rw [with_some O n h]
  have hk := low_le O k l
  split
  · rename_i ht
    unfold there at ht
    cases hg : l[low O k l]? with
    | none => rw [hg] at ht; cases ht
    | some r =>
      rw [hg] at ht
      have hrk : r.1 = k := by simpa using ht
      have hlt := (List.getElem?_eq_some_iff.1 hg).1
      have hlv := (List.getElem?_eq_some_iff.1 hg).2
      unfold Up at *
      rw [List.pairwise_iff_getElem] at h ⊢
      intro i j hi hj hij
      simp only [List.length_set] at hi hj
      have hb := h i j hi hj hij
      rw [List.getElem_set, List.getElem_set]
      split
      · rename_i e
        rw [if_neg (by omega)]
        subst e
        rw [hlv, hrk] at hb
        exact hb
      · split
        · rename_i e
          subst e
          rw [hlv, hrk] at hb
          exact hb
        · exact hb
  · rename_i ht
    unfold Up at *
    have hp := h
    rw [← List.take_append_drop (low O k l) l, List.pairwise_append] at hp
    rw [List.pairwise_append, List.pairwise_cons]
    have hlow : ∀ x ∈ l.take (low O k l), O.lt x.1 k = true := by
      intro x hx
      obtain ⟨i, hi, rfl⟩ := List.mem_iff_getElem.1 hx
      rw [List.length_take] at hi
      rw [List.getElem_take]
      exact (low_lt O h (List.getElem?_eq_getElem (by omega))).2 (by omega)
    have hhigh : ∀ x ∈ l.drop (low O k l), O.lt k x.1 = true := by
      intro x hx
      obtain ⟨i, hi, rfl⟩ := List.mem_iff_getElem.1 hx
      rw [List.length_drop] at hi
      rw [List.getElem_drop]
      have h1 := low_lt O (k := k) h (List.getElem?_eq_getElem (show low O k l + i < l.length by omega))
      cases e : O.lt k l[low O k l + i].1 with
      | true => rfl
      | false =>
        exfalso
        have e2 : O.lt l[low O k l + i].1 k = false := by
          cases e3 : O.lt l[low O k l + i].1 k with
          | false => rfl
          | true => have := h1.1 e3; omega
        have he := O.tot _ _ e e2
        cases i with
        | zero =>
          apply ht
          unfold there
          rw [List.getElem?_eq_getElem (show low O k l < l.length by omega)]
          simpa using he.symm
        | succ i =>
          have h3 := (List.pairwise_iff_getElem.1 h) (low O k l) (low O k l + (i + 1)) (by omega) (by omega) (by omega)
          rw [← he] at h3
          have := (low_lt O h (List.getElem?_eq_getElem (show low O k l < l.length by omega))).1 h3
          omega
    refine ⟨hp.1, ⟨hhigh, hp.2.1⟩, fun a ha b hb => ?_⟩
    rcases List.mem_cons.1 hb with rfl | hb
    · exact hlow a ha
    · exact hp.2.2 a ha b hb
theorem up_with_none {k : K} {l : List (Row K)} (h : Up O l) : Up O (withR O k none l) := by
  show Up O (withGo O k 0 true l)
  rw [go_in]
  exact List.Pairwise.sublist (List.filter_sublist) h
end Go.Proofs.Ky
