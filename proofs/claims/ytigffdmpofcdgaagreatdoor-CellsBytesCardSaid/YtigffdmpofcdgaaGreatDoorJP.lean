/- Rows by rising keys: where a key stands, what With, Get, set and drop do. Plain, over any strict total order of keys. The order of texts, byte by byte, is a strict total order (the model's: Op.bytesLess x y = decide (x < y), the kit's bytesLess_eq of Derived.Sort.Walk0). Plain. Rows by rising keys: two that hold the same are the same; what makes one of the other (Diff). Plain. Rows by rising keys: the program's set, drop, New, Run and Apply do what the document's With does. Plain. What Diff tells, when applied, makes the other one. Plain. What an operation does with what a key holds: the program's Eval and the document's say the same. Plain (for chapters 7 and on). -/
section
namespace Go.Proofs.Ky
set_option linter.unusedVariables false
set_option linter.unusedSectionVars false
set_option linter.unusedSimpArgs false
structure Ord (K : Type) where
  lt : K → K → Bool
  irr : ∀ a, lt a a = false
  tr : ∀ a b c, lt a b = true → lt b c = true → lt a c = true
  tot : ∀ a b, lt a b = false → lt b a = false → a = b
variable {K : Type} [DecidableEq K] (O : Ord K)
abbrev Row (K : Type) := K × Int
theorem Ord.asym {a b : K} (h : O.lt a b = true) : O.lt b a = false := by
  cases e : O.lt b a with
  | false => rfl
  | true => have := O.tr _ _ _ h e; rw [O.irr] at this; cases this
theorem Ord.ne {a b : K} (h : O.lt a b = true) : a ≠ b := by rintro rfl; rw [O.irr] at h; cases h
def Up (l : List (Row K)) : Prop := l.Pairwise (fun a b => O.lt a.1 b.1 = true)
/-- How many stand below a key. -/
def low (k : K) (l : List (Row K)) : Nat := l.countP (fun r => O.lt r.1 k)
def get (k : K) (l : List (Row K)) : Option Int := (l.find? (fun r => r.1 == k)).map (·.2)
/-- The document's With: in: it stands already. -/
def withGo (k : K) (n : Int) : Bool → List (Row K) → List (Row K)
  | i, [] => if i then [] else [(k, n)]
  | i, r :: t =>
    let here := !i && !(O.lt r.1 k)
    let rest := withGo k n (i || here) t
    (if here then [(k, n)] else []) ++ (if r.1 = k then [] else [r]) ++ rest
def withR (k : K) (v : Option Int) (l : List (Row K)) : List (Row K) := match v with | some n => withGo O k n false l | none => withGo O k 0 true l
theorem low_le (k : K) (l : List (Row K)) : low O k l ≤ l.length := List.countP_le_length
theorem low_cons (k : K) (r : Row K) (l : List (Row K)) : low O k (r :: l) = low O k l + if O.lt r.1 k = true then 1 else 0 := by
  unfold low
  rw [List.countP_cons]
theorem low_zero {k : K} {r : Row K} {l : List (Row K)} (h : Up O (r :: l)) (hr : O.lt r.1 k = false) : low O k (r :: l) = 0 := by
  unfold low
  rw [List.countP_eq_zero]
  intro x hx
  rcases List.mem_cons.1 hx with rfl | hx
  · simp [hr]
  · have := (List.pairwise_cons.1 h).1 x hx
    cases e : O.lt x.1 k with
    | false => simp
    | true => have := O.tr _ _ _ this e; rw [hr] at this; cases this
theorem low_succ {k : K} {r : Row K} {l : List (Row K)} (hr : O.lt r.1 k = true) : low O k (r :: l) = low O k l + 1 := by rw [low_cons, if_pos hr]
/-- Of rising ones those below a key are the first. -/
theorem low_lt {k : K} : ∀ {l : List (Row K)}, Up O l → ∀ {i : Nat} {r : Row K}, l[i]? = some r → (O.lt r.1 k = true ↔ i < low O k l)
  | [], _, i, r, h => by simp at h
  | x :: l, hu, i, r, hi => by
    cases hx : O.lt x.1 k with
    | false =>
      rw [low_zero O hu hx]
      constructor
      · intro hr
        exfalso
        cases i with
        | zero => simp at hi; subst hi; rw [hx] at hr; cases hr
        | succ i =>
          have := (List.pairwise_cons.1 hu).1 r (List.mem_of_getElem? (by simpa using hi))
          have := O.tr _ _ _ this hr
          rw [hx] at this
          cases this
      · intro h; omega
    | true =>
      rw [low_succ O hx]
      cases i with
      | zero => simp at hi; subst hi; simp [hx]
      | succ i =>
        have := low_lt (List.pairwise_cons.1 hu).2 (k := k) (i := i) (r := r) (by simpa using hi)
        rw [this]
        omega
/-- Where a key stands, and whether it does. -/
def there (k : K) (l : List (Row K)) : Bool := match l[low O k l]? with | some r => r.1 == k | none => false
theorem there_nil (k : K) : there O k [] = false := rfl
theorem there_here {k : K} {r : Row K} {l : List (Row K)} (h : Up O (r :: l)) (hr : O.lt r.1 k = false) : there O k (r :: l) = (r.1 == k) := by
  unfold there
  rw [low_zero O h hr]
  rfl
theorem there_next {k : K} {r : Row K} {l : List (Row K)} (hr : O.lt r.1 k = true) : there O k (r :: l) = there O k l := by
  unfold there
  rw [low_succ O hr, List.getElem?_cons_succ]
theorem up_ne {k : K} {r : Row K} {l : List (Row K)} (h : Up O (r :: l)) (hr : O.lt r.1 k = false) : ∀ x ∈ l, x.1 ≠ k := by
  intro x hx e
  have := (List.pairwise_cons.1 h).1 x hx
  rw [e, hr] at this
  cases this
theorem get_none {k : K} {l : List (Row K)} (h : ∀ x ∈ l, x.1 ≠ k) : get k l = none := by
  unfold get
  rw [List.find?_eq_none.2 (fun x hx => by simpa using h x hx)]
  rfl
theorem get_there {k : K} : ∀ {l : List (Row K)}, Up O l → get k l = if there O k l then (l[low O k l]?).map (·.2) else none
  | [], _ => rfl
  | r :: l, h => by
    cases hr : O.lt r.1 k with
    | true =>
      have ih := get_there (k := k) (List.pairwise_cons.1 h).2
      rw [there_next O hr, low_succ O hr, List.getElem?_cons_succ, ← ih]
      unfold get
      rw [List.find?_cons]
      have : (r.1 == k) = false := by simpa using O.ne hr
      rw [this]
    | false =>
      rw [there_here O h hr, low_zero O h hr]
      by_cases e : r.1 = k
      · unfold get; simp [e]
      · rw [get_none (l := r :: l) (fun x hx => by
          rcases List.mem_cons.1 hx with rfl | hx
          · exact e
          · exact up_ne O h hr x hx)]
        simp [e]
theorem go_in {k : K} (n : Int) : ∀ {l : List (Row K)}, withGo O k n true l = l.filter (fun r => r.1 != k)
  | [] => rfl
  | r :: l => by
    have ih := go_in n (k := k) (l := l)
    simp only [withGo, Bool.not_true, Bool.false_and, Bool.or_false, Bool.true_or, ih, List.filter_cons]
    by_cases e : r.1 = k <;> simp [e]
theorem filter_ne {k : K} {l : List (Row K)} (h : ∀ x ∈ l, x.1 ≠ k) : l.filter (fun r => r.1 != k) = l := List.filter_eq_self.2 (fun x hx => by simpa using h x hx)
/-- With a key that holds something: put in its place. -/
theorem with_some {k : K} (n : Int) : ∀ {l : List (Row K)}, Up O l → withR O k (some n) l = if there O k l then l.set (low O k l) (k, n) else l.take (low O k l) ++ (k, n) :: l.drop (low O k l)
  | [], _ => rfl
  | r :: l, h => by
    show withGo O k n false (r :: l) = _
    cases hr : O.lt r.1 k with
    | true =>
      have ih : withGo O k n false l = _ := with_some n (k := k) (List.pairwise_cons.1 h).2
      have hne := O.ne hr
      simp only [withGo, hr, Bool.not_true, Bool.and_false, Bool.or_false, ih, there_next O hr, low_succ O hr]
      simp only [hne, if_false, Bool.false_eq_true, List.nil_append]
      split <;> simp
    | false =>
      rw [there_here O h hr, low_zero O h hr]
      have hl := filter_ne (up_ne O h hr)
      simp only [withGo, hr, Bool.not_false, Bool.and_self, Bool.or_true, go_in, hl]
      by_cases e : r.1 = k <;> simp [e]
theorem with_none {k : K} : ∀ {l : List (Row K)}, Up O l → withR O k none l = if there O k l then l.eraseIdx (low O k l) else l
  | [], _ => rfl
  | r :: l, h => by
    show withGo O k 0 true (r :: l) = _
    rw [go_in]
    cases hr : O.lt r.1 k with
    | true =>
      have ih : withGo O k 0 true l = _ := with_none (k := k) (List.pairwise_cons.1 h).2
      rw [go_in] at ih
      have hne : (r.1 != k) = true := bne_iff_ne.2 (O.ne hr)
      rw [there_next O hr, low_succ O hr, List.filter_cons, hne, if_pos rfl, ih]
      split <;> simp
    | false =>
      rw [there_here O h hr, low_zero O h hr, List.filter_cons, filter_ne (up_ne O h hr)]
      by_cases e : r.1 = k <;> simp [e]
theorem up_with_some {k : K} (n : Int) {l : List (Row K)} (h : Up O l) : Up O (withR O k (some n) l) := by
  rw [with_some O n h]
  have hk := low_le O k l
  split
  · rename_i ht
    unfold there at ht
    cases hg : l[low O k l]? with
    | none => rw [hg] at ht; cases ht
    | some r =>
      rw [hg] at ht
      have hrk : r.1 = k := by simpa using ht
      have hlt := (List.getElem?_eq_some_iff.1 hg).1
      have hlv := (List.getElem?_eq_some_iff.1 hg).2
      unfold Up at *
      rw [List.pairwise_iff_getElem] at h ⊢
      intro i j hi hj hij
      simp only [List.length_set] at hi hj
      have hb := h i j hi hj hij
      rw [List.getElem_set, List.getElem_set]
      split
      · rename_i e
        rw [if_neg (by omega)]
        subst e
        rw [hlv, hrk] at hb
        exact hb
      · split
        · rename_i e
          subst e
          rw [hlv, hrk] at hb
          exact hb
        · exact hb
  · rename_i ht
    unfold Up at *
    have hp := h
    rw [← List.take_append_drop (low O k l) l, List.pairwise_append] at hp
    rw [List.pairwise_append, List.pairwise_cons]
    have hlow : ∀ x ∈ l.take (low O k l), O.lt x.1 k = true := by
      intro x hx
      obtain ⟨i, hi, rfl⟩ := List.mem_iff_getElem.1 hx
      rw [List.length_take] at hi
      rw [List.getElem_take]
      exact (low_lt O h (List.getElem?_eq_getElem (by omega))).2 (by omega)
    have hhigh : ∀ x ∈ l.drop (low O k l), O.lt k x.1 = true := by
      intro x hx
      obtain ⟨i, hi, rfl⟩ := List.mem_iff_getElem.1 hx
      rw [List.length_drop] at hi
      rw [List.getElem_drop]
      have h1 := low_lt O (k := k) h (List.getElem?_eq_getElem (show low O k l + i < l.length by omega))
      cases e : O.lt k l[low O k l + i].1 with
      | true => rfl
      | false =>
        exfalso
        have e2 : O.lt l[low O k l + i].1 k = false := by
          cases e3 : O.lt l[low O k l + i].1 k with
          | false => rfl
          | true => have := h1.1 e3; omega
        have he := O.tot _ _ e e2
        cases i with
        | zero =>
          apply ht
          unfold there
          rw [List.getElem?_eq_getElem (show low O k l < l.length by omega)]
          simpa using he.symm
        | succ i =>
          have h3 := (List.pairwise_iff_getElem.1 h) (low O k l) (low O k l + (i + 1)) (by omega) (by omega) (by omega)
          rw [← he] at h3
          have := (low_lt O h (List.getElem?_eq_getElem (show low O k l < l.length by omega))).1 h3
          omega
    refine ⟨hp.1, ⟨hhigh, hp.2.1⟩, fun a ha b hb => ?_⟩
    rcases List.mem_cons.1 hb with rfl | hb
    · exact hlow a ha
    · exact hp.2.2 a ha b hb
theorem up_with_none {k : K} {l : List (Row K)} (h : Up O l) : Up O (withR O k none l) := by
  show Up O (withGo O k 0 true l)
  rw [go_in]
  exact List.Pairwise.sublist (List.filter_sublist) h
end Go.Proofs.Ky
end

section
namespace Go.Proofs.Ky
theorem u8_tot (a b : UInt8) (h1 : ¬ a < b) (h2 : ¬ b < a) : a = b := by
  apply UInt8.toNat_inj.1
  rw [UInt8.lt_iff_toNat_lt] at h1 h2
  omega
theorem u8_irr (a : UInt8) : ¬ a < a := by rw [UInt8.lt_iff_toNat_lt]; omega
theorem u8_tr (a b c : UInt8) (h1 : a < b) (h2 : b < c) : a < c := by
  rw [UInt8.lt_iff_toNat_lt] at *
  omega
theorem bl_irr : ∀ a : List UInt8, ¬ a < a
  | [] => by simp
  | x :: a => by
    rw [List.cons_lt_cons_iff]
    rintro (h | ⟨_, h⟩)
    · exact u8_irr x h
    · exact bl_irr a h
theorem bl_tr : ∀ a b c : List UInt8, a < b → b < c → a < c
  | _, [], _, h, _ => by simp at h
  | _, _ :: _, [], _, h => by simp at h
  | [], _ :: _, _ :: _, _, _ => by simp
  | x :: a, y :: b, z :: c, h1, h2 => by
    rw [List.cons_lt_cons_iff] at *
    rcases h1 with h1 | ⟨rfl, h1⟩
    · rcases h2 with h2 | ⟨rfl, h2⟩
      · exact .inl (u8_tr x y z h1 h2)
      · exact .inl h1
    · rcases h2 with h2 | ⟨rfl, h2⟩
      · exact .inl h2
      · exact .inr ⟨rfl, bl_tr a b c h1 h2⟩
theorem bl_tot : ∀ a b : List UInt8, ¬ a < b → ¬ b < a → a = b
  | [], [], _, _ => rfl
  | [], y :: b, h, _ => absurd (by simp) h
  | x :: a, [], _, h => absurd (by simp) h
  | x :: a, y :: b, h1, h2 => by
    rw [List.cons_lt_cons_iff] at h1 h2
    have e := u8_tot x y (fun h => h1 (.inl h)) (fun h => h2 (.inl h))
    subst e
    rw [bl_tot a b (fun h => h1 (.inr ⟨rfl, h⟩)) (fun h => h2 (.inr ⟨rfl, h⟩))]
/-- Texts by their bytes. -/
def txt : Ord (List UInt8) where
  lt a b := decide (a < b)
  irr a := decide_eq_false (bl_irr a)
  tr a b c h1 h2 := decide_eq_true (bl_tr a b c (of_decide_eq_true h1) (of_decide_eq_true h2))
  tot a b h1 h2 := bl_tot a b (of_decide_eq_false h1) (of_decide_eq_false h2)
end Go.Proofs.Ky
end

section
namespace Go.Proofs.Ky
set_option linter.unusedVariables false
set_option linter.unusedSectionVars false
set_option linter.unusedSimpArgs false
variable {K : Type} [DecidableEq K] (O : Ord K)
theorem get_cons (k : K) (r : Row K) (l : List (Row K)) : get k (r :: l) = if r.1 = k then some r.2 else get k l := by
  unfold get
  by_cases h : r.1 = k
  · rw [List.find?_cons_of_pos (by simpa using h), if_pos h]; rfl
  · rw [List.find?_cons_of_neg (by simpa using h), if_neg h]
theorem get_app (k : K) (a b : List (Row K)) : get k (a ++ b) = match get k a with | some n => some n | none => get k b := by
  induction a with
  | nil => rfl
  | cons r a ih =>
    rw [List.cons_append, get_cons, get_cons, ih]
    split <;> rfl
theorem get_go (k k' : K) (n : Int) : ∀ (i : Bool) (l : List (Row K)), get k (withGo O k' n i l) = if k = k' then (if i then none else some n) else get k l
  | i, [] => by
    cases i
    · by_cases h : k = k'
      · subst h; simp [withGo, get]
      · have : ¬ k' = k := fun e => h e.symm
        simp [withGo, get, h, this]
    · simp [withGo, get]
  | i, r :: l => by
    have ih := fun i => get_go k k' n i l
    simp only [withGo]
    generalize hh : (!i && !(O.lt r.1 k')) = here
    rw [get_app, get_app, ih, get_cons]
    by_cases h : k = k'
    · subst h
      rw [if_pos rfl, if_pos rfl]
      cases here
      · have hr : get k (if r.1 = k then ([] : List (Row K)) else [r]) = none := by
          split
          · rfl
          · rename_i e; rw [get_cons, if_neg e]; rfl
        simp only [Bool.false_eq_true, if_false, Bool.or_false]
        rw [show get k ([] : List (Row K)) = none from rfl, hr]
      · have hi : i = false := by cases i <;> simp_all
        subst hi
        simp [get]
    · rw [if_neg h, if_neg h]
      have h2 : ¬ k' = k := fun e => h e.symm
      have hg : get k (if here = true then [(k', n)] else []) = none := by cases here <;> simp [get, h2]
      rw [hg]
      by_cases e : r.1 = k'
      · have : ¬ r.1 = k := by rw [e]; exact h2
        simp [e, h2, get]
      · rw [if_neg e, get_cons]
        by_cases e2 : r.1 = k
        · simp [e2]
        · simp [e2, get]
theorem get_with (k k' : K) (v : Option Int) (l : List (Row K)) : get k (withR O k' v l) = if k = k' then v else get k l := by
  cases v with
  | none => exact (get_go O k k' 0 true l)
  | some n => exact (get_go O k k' n false l)
theorem get_mem {k : K} {l : List (Row K)} {n : Int} (h : get k l = some n) : (k, n) ∈ l := by
  unfold get at h
  obtain ⟨r, hr, he⟩ := Option.map_eq_some_iff.1 h
  have := List.find?_some hr
  simp at this
  subst this he
  exact List.mem_of_find?_eq_some hr
theorem get_head_none {k : K} {r : Row K} {l : List (Row K)} (h : Up O (r :: l)) (hk : O.lt k r.1 = true ∨ k = r.1) : get k l = none :=
  get_none (fun x hx e => by
    have h1 := (List.pairwise_cons.1 h).1 x hx
    rw [e] at h1
    rcases hk with hk | hk
    · rw [O.asym hk] at h1; cases h1
    · rw [hk, O.irr] at h1; cases h1)
/-- Two that hold the same are the same. -/
theorem ext_get : ∀ {l m : List (Row K)}, Up O l → Up O m → (∀ k, get k l = get k m) → l = m
  | [], [], _, _, _ => rfl
  | [], s :: m, _, _, h => by have := h s.1; rw [get_cons, if_pos rfl] at this; cases this
  | r :: l, [], _, _, h => by have := h r.1; rw [get_cons, if_pos rfl] at this; cases this
  | r :: l, s :: m, hl, hm, h => by
    have h1 := h r.1
    have h2 := h s.1
    rw [get_cons, if_pos rfl] at h1
    rw [get_cons (r := s), if_pos rfl] at h2
    have e : r.1 = s.1 := by
      rcases List.mem_cons.1 (get_mem h1.symm) with h3 | h3
      · exact congrArg (·.1) h3
      · rcases List.mem_cons.1 (get_mem h2) with h4 | h4
        · exact (congrArg (·.1) h4).symm
        · have h5 := (List.pairwise_cons.1 hm).1 _ h3
          have h6 := (List.pairwise_cons.1 hl).1 _ h4
          rw [O.asym h5] at h6
          cases h6
    rw [get_cons, if_pos e.symm] at h1
    have e2 : r = s := Prod.ext e (Option.some.inj h1)
    subst e2
    rw [ext_get (List.pairwise_cons.1 hl).2 (List.pairwise_cons.1 hm).2 (fun k => by
      by_cases hk : r.1 = k
      · rw [get_head_none O hl (.inr hk.symm), get_head_none O hm (.inr hk.symm)]
      · have := h k
        rwa [get_cons, get_cons, if_neg hk, if_neg hk] at this)]
/-- All keys of both: what the second holds, else what the first does. -/
def allR (a b : List (Row K)) : List (Row K) := b.foldl (fun l r => withR O r.1 (some r.2) l) a
theorem up_all : ∀ {b a : List (Row K)}, Up O a → Up O (allR O a b)
  | [], _, h => h
  | r :: b, a, h => up_all (b := b) (up_with_some O r.2 h)
theorem get_all : ∀ {b a : List (Row K)}, Up O b → ∀ k, get k (allR O a b) = match get k b with | some n => some n | none => get k a
  | [], a, _, k => rfl
  | r :: b, a, hb, k => by
    have ih := get_all (b := b) (a := withR O r.1 (some r.2) a) (List.pairwise_cons.1 hb).2 k
    show get k (allR O (withR O r.1 (some r.2) a) b) = _
    rw [ih, get_with, get_cons]
    by_cases h : k = r.1
    · rw [get_head_none O hb (.inr h), if_pos h, if_pos h.symm]
    · rw [if_neg h, if_neg (fun e => h e.symm)]
/-- The same by one walk through both. -/
def mrg : Nat → List (Row K) → List (Row K) → List (Row K)
  | 0, _, _ => []
  | _ + 1, [], [] => []
  | f + 1, [], s :: b => s :: mrg f [] b
  | f + 1, r :: a, [] => r :: mrg f a []
  | f + 1, r :: a, s :: b => if O.lt r.1 s.1 then r :: mrg f a (s :: b) else if O.lt s.1 r.1 then s :: mrg f (r :: a) b else s :: mrg f a b
theorem mrg_mem : ∀ (f : Nat) (a b : List (Row K)) (x : Row K), x ∈ mrg O f a b → x ∈ a ∨ x ∈ b
  | 0, _, _, x, h => by simp [mrg] at h
  | f + 1, [], [], x, h => by simp [mrg] at h
  | f + 1, [], s :: b, x, h => by
    rcases List.mem_cons.1 h with rfl | h
    · exact .inr List.mem_cons_self
    · exact (mrg_mem f _ _ x h).imp id (List.mem_cons_of_mem _)
  | f + 1, r :: a, [], x, h => by
    rcases List.mem_cons.1 h with rfl | h
    · exact .inl List.mem_cons_self
    · exact (mrg_mem f _ _ x h).imp (List.mem_cons_of_mem _) id
  | f + 1, r :: a, s :: b, x, h => by
    simp only [mrg] at h
    split at h
    · rcases List.mem_cons.1 h with rfl | h
      · exact .inl List.mem_cons_self
      · exact (mrg_mem f _ _ x h).imp (List.mem_cons_of_mem _) id
    · split at h
      · rcases List.mem_cons.1 h with rfl | h
        · exact .inr List.mem_cons_self
        · exact (mrg_mem f _ _ x h).imp id (List.mem_cons_of_mem _)
      · rcases List.mem_cons.1 h with rfl | h
        · exact .inr List.mem_cons_self
        · exact (mrg_mem f _ _ x h).imp (List.mem_cons_of_mem _) (List.mem_cons_of_mem _)
/-- Both heads' keys: those behind are other ones. -/
theorem mrg_above {f : Nat} {a b : List (Row K)} {k : K} (ha : ∀ x ∈ a, O.lt k x.1 = true) (hb : ∀ x ∈ b, O.lt k x.1 = true) : ∀ x ∈ mrg O f a b, O.lt k x.1 = true := fun x hx =>
  (mrg_mem O f a b x hx).elim (ha x) (hb x)
theorem above_cons {k : K} {s : Row K} {b : List (Row K)} (hb : Up O (s :: b)) (h : O.lt k s.1 = true) : ∀ x ∈ s :: b, O.lt k x.1 = true := fun x hx => by
  rcases List.mem_cons.1 hx with rfl | hx
  · exact h
  · exact O.tr _ _ _ h ((List.pairwise_cons.1 hb).1 x hx)
theorem mrg_up : ∀ (f : Nat) (a b : List (Row K)), Up O a → Up O b → Up O (mrg O f a b)
  | 0, _, _, _, _ => List.Pairwise.nil
  | f + 1, [], [], _, _ => List.Pairwise.nil
  | f + 1, [], s :: b, ha, hb => List.pairwise_cons.2 ⟨mrg_above O (fun x h => by cases h) (List.pairwise_cons.1 hb).1, mrg_up f _ _ ha (List.pairwise_cons.1 hb).2⟩
  | f + 1, r :: a, [], ha, hb => List.pairwise_cons.2 ⟨mrg_above O (List.pairwise_cons.1 ha).1 (fun x h => by cases h), mrg_up f _ _ (List.pairwise_cons.1 ha).2 hb⟩
  | f + 1, r :: a, s :: b, ha, hb => by
    have ha' := List.pairwise_cons.1 ha
    have hb' := List.pairwise_cons.1 hb
    simp only [mrg]
    split
    · rename_i h
      exact List.pairwise_cons.2 ⟨mrg_above O ha'.1 (above_cons O hb h), mrg_up f _ _ ha'.2 hb⟩
    · split
      · rename_i h
        exact List.pairwise_cons.2 ⟨mrg_above O (above_cons O ha h) hb'.1, mrg_up f _ _ ha hb'.2⟩
      · rename_i h1 h2
        have e := O.tot r.1 s.1 (by simpa using h1) (by simpa using h2)
        exact List.pairwise_cons.2 ⟨mrg_above O (by rw [← e]; exact ha'.1) hb'.1, mrg_up f _ _ ha'.2 hb'.2⟩
theorem get_above {k : K} {l : List (Row K)} (h : ∀ x ∈ l, O.lt k x.1 = true) : get k l = none := get_none (fun x hx e => by have := h x hx; rw [e, O.irr] at this; cases this)
theorem get_mrg : ∀ (f : Nat) (a b : List (Row K)), a.length + b.length ≤ f → Up O a → Up O b → ∀ k, get k (mrg O f a b) = match get k b with | some n => some n | none => get k a
  | 0, a, b, h, _, _, k => by
    have e1 := List.eq_nil_of_length_eq_zero (show a.length = 0 by omega)
    have e2 := List.eq_nil_of_length_eq_zero (show b.length = 0 by omega)
    subst e1 e2
    rfl
  | f + 1, [], [], _, _, _, k => rfl
  | f + 1, [], s :: b, h, ha, hb, k => by
    have ih := get_mrg f [] b (by simp at h ⊢; omega) ha (List.pairwise_cons.1 hb).2 k
    show get k (s :: mrg O f [] b) = _
    rw [get_cons, get_cons, ih]
    by_cases e : s.1 = k
    · rw [if_pos e, if_pos e]
    · rw [if_neg e, if_neg e]
  | f + 1, r :: a, [], h, ha, hb, k => by
    have ih := get_mrg f a [] (by simp at h ⊢; omega) (List.pairwise_cons.1 ha).2 hb k
    show get k (r :: mrg O f a []) = _
    rw [get_cons, ih]
    show _ = get k (r :: a)
    rw [get_cons]
    rfl
  | f + 1, r :: a, s :: b, h, ha, hb, k => by
    have ha' := List.pairwise_cons.1 ha
    have hb' := List.pairwise_cons.1 hb
    simp only [mrg]
    split
    · rename_i hlt
      have ih := get_mrg f a (s :: b) (by simp at h ⊢; omega) ha'.2 hb k
      rw [get_cons, ih, get_cons (r := r)]
      by_cases e : r.1 = k
      · rw [if_pos e, if_pos e, get_above O (by rw [← e]; exact above_cons O hb hlt)]
      · rw [if_neg e, if_neg e]
    · split
      · have ih := get_mrg f (r :: a) b (by simp at h ⊢; omega) ha hb'.2 k
        rw [get_cons, ih, get_cons (r := s)]
        by_cases e : s.1 = k
        · rw [if_pos e, if_pos e]
        · rw [if_neg e, if_neg e]
      · rename_i h1 h2
        have e := O.tot r.1 s.1 (by simpa using h1) (by simpa using h2)
        have ih := get_mrg f a b (by simp at h ⊢; omega) ha'.2 hb'.2 k
        rw [get_cons, ih, get_cons (r := s), get_cons (r := r), e]
        by_cases e2 : s.1 = k
        · rw [if_pos e2, if_pos e2]
        · rw [if_neg e2, if_neg e2, if_neg e2]
theorem all_mrg {a b : List (Row K)} (ha : Up O a) (hb : Up O b) (f : Nat) (h : a.length + b.length ≤ f) : allR O a b = mrg O f a b :=
  ext_get O (up_all O ha) (mrg_up O f a b ha hb) (fun k => by rw [get_all O hb k, get_mrg O f a b h ha hb k])
abbrev Chg (K : Type) := K × Int × Bool
def dec (k : K) (n m : Option Int) : Option (Chg K) := if n.isSome ≠ m.isSome ∨ n.getD 0 ≠ m.getD 0 then some (k, m.getD 0, m.isSome) else none
theorem dec_ns (k : K) (m : Int) : dec k none (some m) = some (k, m, true) := by simp [dec]
theorem dec_sn (k : K) (n : Int) : dec k (some n) none = some (k, 0, false) := by simp [dec]
/-- The document's Diff. -/
def diffR (a b : List (Row K)) : List (Chg K) := (allR O a b).filterMap (fun x => dec x.1 (get x.1 a) (get x.1 b))
/-- The program's: one walk through both. -/
def diffP : Nat → List (Row K) → List (Row K) → List (Chg K)
  | 0, _, _ => []
  | _ + 1, [], [] => []
  | f + 1, [], s :: b => (s.1, s.2, true) :: diffP f [] b
  | f + 1, r :: a, [] => (r.1, 0, false) :: diffP f a []
  | f + 1, r :: a, s :: b => if O.lt r.1 s.1 then (r.1, 0, false) :: diffP f a (s :: b) else if O.lt s.1 r.1 then (s.1, s.2, true) :: diffP f (r :: a) b else (if r.2 ≠ s.2 then [(s.1, s.2, true)] else []) ++ diffP f a b
theorem fm_congr {α β : Type} {F G : α → Option β} : ∀ {l : List α}, (∀ x ∈ l, F x = G x) → l.filterMap F = l.filterMap G
  | [], _ => rfl
  | x :: l, h => by
    rw [List.filterMap_cons, List.filterMap_cons, h x List.mem_cons_self, fm_congr (fun y hy => h y (List.mem_cons_of_mem _ hy))]
theorem get_far {k : K} {r : Row K} {l : List (Row K)} (h : O.lt r.1 k = true) : get k (r :: l) = get k l := by rw [get_cons, if_neg (O.ne h)]
theorem diff_mrg : ∀ (f : Nat) (a b : List (Row K)), Up O a → Up O b → diffP O f a b = (mrg O f a b).filterMap (fun x => dec x.1 (get x.1 a) (get x.1 b))
  | 0, _, _, _, _ => rfl
  | f + 1, [], [], _, _ => rfl
  | f + 1, [], s :: b, ha, hb => by
    have hb' := List.pairwise_cons.1 hb
    have ih := diff_mrg f [] b ha hb'.2
    show _ :: diffP O f [] b = (s :: mrg O f [] b).filterMap _
    have hn : get s.1 ([] : List (Row K)) = none := rfl
    rw [List.filterMap_cons, ih, get_cons, if_pos rfl, hn, dec_ns]
    exact congrArg _ (fm_congr (fun x hx => by rw [get_far O (l := b) (mrg_above O (f := f) (a := []) (fun x h => by cases h) hb'.1 x hx)]))
  | f + 1, r :: a, [], ha, hb => by
    have ha' := List.pairwise_cons.1 ha
    have ih := diff_mrg f a [] ha'.2 hb
    show _ :: diffP O f a [] = (r :: mrg O f a []).filterMap _
    rw [List.filterMap_cons, get_cons, if_pos rfl, ih]
    have hn : get r.1 ([] : List (Row K)) = none := rfl
    rw [hn]
    rw [dec_sn]
    congr 1
    exact fm_congr (fun x hx => by rw [get_far O (mrg_above O (f := f) (b := []) ha'.1 (fun x h => by cases h) x hx)])
  | f + 1, r :: a, s :: b, ha, hb => by
    have ha' := List.pairwise_cons.1 ha
    have hb' := List.pairwise_cons.1 hb
    simp only [diffP, mrg]
    split
    · rename_i h
      have ih := diff_mrg f a (s :: b) ha'.2 hb
      rw [List.filterMap_cons, get_cons (r := r), if_pos rfl, get_above O (above_cons O hb h), ih]
      rw [dec_sn]
      congr 1
      exact fm_congr (fun x hx => by rw [get_far O (mrg_above O (f := f) ha'.1 (above_cons O hb h) x hx)])
    · split
      · rename_i h
        have ih := diff_mrg f (r :: a) b ha hb'.2
        rw [List.filterMap_cons, get_cons (r := s), if_pos rfl, get_above O (above_cons O ha h), ih]
        simp only [dec, Option.isSome_none, Option.isSome_some, Option.getD_none, Option.getD_some, ne_eq, Bool.false_eq_true, not_false_eq_true, true_or, if_true]
        congr 1
        exact fm_congr (fun x hx => by rw [get_far O (l := b) (mrg_above O (f := f) (above_cons O ha h) hb'.1 x hx)])
      · rename_i h1 h2
        have e := O.tot r.1 s.1 (by simpa using h1) (by simpa using h2)
        have ih := diff_mrg f a b ha'.2 hb'.2
        have hab := mrg_above O (f := f) (k := s.1) (by rw [← e]; exact ha'.1) hb'.1
        rw [List.filterMap_cons, get_cons (r := s), if_pos rfl, get_cons (r := r), if_pos e, ih]
        have hc : (mrg O f a b).filterMap (fun x => dec x.1 (get x.1 a) (get x.1 b)) = (mrg O f a b).filterMap (fun x => dec x.1 (get x.1 (r :: a)) (get x.1 (s :: b))) :=
          fm_congr (fun x hx => by rw [get_far O (l := b) (hab x hx), get_far O (l := a) (r := r) (by rw [e]; exact hab x hx)])
        rw [hc]
        by_cases hn : r.2 = s.2 <;> simp [dec, hn]
/-- What makes one of the other: both say the same. -/
theorem diff_same {a b : List (Row K)} (ha : Up O a) (hb : Up O b) (f : Nat) (h : a.length + b.length ≤ f) : diffP O f a b = diffR O a b := by
  rw [diff_mrg O f a b ha hb, diffR, all_mrg O ha hb f h]
end Go.Proofs.Ky
end

section
namespace Go.Proofs.Ky
set_option linter.unusedVariables false
set_option linter.unusedSectionVars false
variable {K : Type} [DecidableEq K] (O : Ord K)
theorem there_lt {k : K} {l : List (Row K)} (h : there O k l = true) : low O k l < l.length := by
  unfold there at h
  cases hg : l[low O k l]? with
  | none => rw [hg] at h; cases h
  | some r => exact (List.getElem?_eq_some_iff.1 hg).1
theorem len_with_some {k : K} (n : Int) {l : List (Row K)} (h : Up O l) : (withR O k (some n) l).length = if there O k l then l.length else l.length + 1 := by
  rw [with_some O n h]
  have := low_le O k l
  split
  · simp
  · simp only [List.length_append, List.length_cons, List.length_take, List.length_drop]; omega
theorem len_with_none {k : K} {l : List (Row K)} (h : Up O l) : (withR O k none l).length ≤ l.length := by
  rw [with_none O h]
  split
  · exact (List.eraseIdx_sublist _ _).length_le
  · exact Nat.le_refl _
/-- The program's set: none: there is no room. -/
def setP (k : K) (n : Int) (l : List (Row K)) : Option (List (Row K)) :=
  if there O k l then some (l.set (low O k l) (k, n)) else if 256 ≤ l.length then none else some (l.take (low O k l) ++ (k, n) :: l.drop (low O k l))
def dropP (k : K) (l : List (Row K)) : List (Row K) := if there O k l then l.eraseIdx (low O k l) else l
theorem set_with {k : K} {n : Int} {l : List (Row K)} (h : Up O l) (hl : l.length ≤ 256) : setP O k n l = if 256 < (withR O k (some n) l).length then none else some (withR O k (some n) l) := by
  rw [len_with_some O n h, with_some O n h]
  unfold setP
  cases ht : there O k l
  · simp only [Bool.false_eq_true, if_false]
    by_cases hn : 256 ≤ l.length
    · rw [if_pos hn, if_pos (by omega)]
    · rw [if_neg hn, if_neg (by omega)]
  · simp only [if_true]
    rw [if_neg (by omega)]
theorem drop_with {k : K} {l : List (Row K)} (h : Up O l) : dropP O k l = withR O k none l := (with_none O h).symm
/-- New, of rows; ok: a key that is not too long. -/
def newP (ok : K → Bool) (rows l : List (Row K)) : List (Row K) := rows.foldl (fun l r => if ok r.1 then (setP O r.1 r.2 l).getD l else l) l
def newR (ok : K → Bool) (rows l : List (Row K)) : List (Row K) := rows.foldl (fun l r => if ok r.1 = true ∧ (withR O r.1 (some r.2) l).length ≤ 256 then withR O r.1 (some r.2) l else l) l
def Fit (l : List (Row K)) : Prop := Up O l ∧ l.length ≤ 256
theorem new_step (ok : K → Bool) (r : Row K) {l : List (Row K)} (h : Fit O l) : (if ok r.1 then (setP O r.1 r.2 l).getD l else l) = (if ok r.1 = true ∧ (withR O r.1 (some r.2) l).length ≤ 256 then withR O r.1 (some r.2) l else l) ∧
    Fit O (if ok r.1 = true ∧ (withR O r.1 (some r.2) l).length ≤ 256 then withR O r.1 (some r.2) l else l) := by
  rw [set_with O h.1 h.2]
  cases hk : ok r.1
  · exact ⟨by simp, by simpa using h⟩
  · by_cases hn : (withR O r.1 (some r.2) l).length ≤ 256
    · rw [if_pos rfl, if_neg (by omega), if_pos ⟨rfl, hn⟩]
      exact ⟨rfl, up_with_some O r.2 h.1, hn⟩
    · rw [if_pos rfl, if_pos (by omega), if_neg (fun e => hn e.2)]
      exact ⟨rfl, h⟩
theorem new_same (ok : K → Bool) : ∀ (rows l : List (Row K)), Fit O l → newP O ok rows l = newR O ok rows l ∧ Fit O (newR O ok rows l)
  | [], l, h => ⟨rfl, h⟩
  | r :: rows, l, h => by
    obtain ⟨h1, h2⟩ := new_step O ok r h
    have ih := new_same ok rows _ h2
    unfold newP newR at *
    rw [List.foldl_cons, List.foldl_cons, h1]
    exact ih
/-- What an operation asks: what its key holds now (none: nothing), what it tells; or an error. -/
def runP {U : Type} (key : U → K) (ev : U → Option Int → Except Int (Option Int × Int)) : Nat → List (Row K) → List U → Except (Nat × Int) (List (Row K) × List Int)
  | _, l, [] => .ok (l, [])
  | i, l, o :: os => match ev o (get (key o) l) with
    | .error e => .error (i, e)
    | .ok (none, t) => (runP key ev (i + 1) (dropP O (key o) l) os).map (fun x => (x.1, t :: x.2))
    | .ok (some n, t) => match setP O (key o) n l with
      | none => .error (i, 5)
      | some m => (runP key ev (i + 1) m os).map (fun x => (x.1, t :: x.2))
def runR {U : Type} (key : U → K) (ev : U → Option Int → Except Int (Option Int × Int)) : Nat → List (Row K) → List U → Except (Nat × Int) (List (Row K) × List Int)
  | _, l, [] => .ok (l, [])
  | i, l, o :: os => match ev o (get (key o) l) with
    | .error e => .error (i, e)
    | .ok (v, t) => if 256 < (withR O (key o) v l).length then .error (i, 5) else (runR key ev (i + 1) (withR O (key o) v l) os).map (fun x => (x.1, t :: x.2))
theorem run_same {U : Type} (key : U → K) (ev : U → Option Int → Except Int (Option Int × Int)) : ∀ (os : List U) (i : Nat) (l : List (Row K)), Fit O l → runP O key ev i l os = runR O key ev i l os
  | [], _, _, _ => rfl
  | o :: os, i, l, h => by
    simp only [runP, runR]
    cases ev o (get (key o) l) with
    | error e => rfl
    | ok vt =>
      obtain ⟨v, t⟩ := vt
      cases v with
      | none =>
        have hl := len_with_none O (k := key o) h.1
        have h2 := h.2
        simp only []
        rw [if_neg (by omega), drop_with O h.1, run_same key ev os _ _ ⟨up_with_none O h.1, by omega⟩]
      | some n =>
        simp only []
        rw [set_with O h.1 h.2]
        by_cases hn : 256 < (withR O (key o) (some n) l).length
        · rw [if_pos hn, if_pos hn]
        · rw [if_neg hn, if_neg hn]
          simp only []
          rw [run_same key ev os _ _ ⟨up_with_some O n h.1, by omega⟩]
/-- Changes: (key, what it holds, whether it does). -/
def appP : List (Row K) → List (Chg K) → Option (List (Row K))
  | l, [] => some l
  | l, (k, n, t) :: c => if t then (match setP O k n l with | none => none | some m => appP m c) else appP (dropP O k l) c
def appR : List (Row K) → List (Chg K) → Option (List (Row K))
  | l, [] => some l
  | l, (k, n, t) :: c => if 256 < (withR O k (if t then some n else none) l).length then none else appR (withR O k (if t then some n else none) l) c
theorem app_same : ∀ (c : List (Chg K)) (l : List (Row K)), Fit O l → appP O l c = appR O l c
  | [], _, _ => rfl
  | (k, n, t) :: c, l, h => by
    cases t with
    | false =>
      have hl := len_with_none O (k := k) h.1
      have h2 := h.2
      simp only [appP, appR, Bool.false_eq_true, if_false]
      rw [if_neg (by omega), drop_with O h.1]
      exact app_same c _ ⟨up_with_none O h.1, by omega⟩
    | true =>
      simp only [appP, appR, if_true]
      rw [set_with O h.1 h.2]
      by_cases hn : 256 < (withR O k (some n) l).length
      · rw [if_pos hn, if_pos hn]
      · rw [if_neg hn, if_neg hn]
        exact app_same c _ ⟨up_with_some O n h.1, by omega⟩
end Go.Proofs.Ky
end

section
namespace Go.Proofs.Ky
set_option linter.unusedVariables false
set_option linter.unusedSectionVars false
variable {K : Type} [DecidableEq K] (O : Ord K)
def val (x : Chg K) : Option Int := if x.2.2 then some x.2.1 else none
def appAll (l : List (Row K)) (c : List (Chg K)) : List (Row K) := c.foldl (fun l x => withR O x.1 (val x) l) l
def getC (k : K) (c : List (Chg K)) : Option (Chg K) := c.find? (fun x => x.1 == k)
theorem getC_cons (k : K) (x : Chg K) (c : List (Chg K)) : getC k (x :: c) = if x.1 = k then some x else getC k c := by
  unfold getC
  by_cases h : x.1 = k
  · rw [List.find?_cons_of_pos (by simpa using h), if_pos h]
  · rw [List.find?_cons_of_neg (by simpa using h), if_neg h]
theorem up_appAll : ∀ (c : List (Chg K)) (l : List (Row K)), Up O l → Up O (appAll O l c)
  | [], _, h => h
  | x :: c, l, h => by
    refine up_appAll c (withR O x.1 (val x) l) ?_
    cases val x with
    | none => exact up_with_none O h
    | some n => exact up_with_some O n h
theorem len_with {k : K} (v : Option Int) {l : List (Row K)} (h : Up O l) : (withR O k v l).length ≤ l.length + 1 := by
  cases v with
  | none => have := len_with_none O (k := k) h; omega
  | some n => rw [len_with_some O n h]; split <;> omega
theorem app_all : ∀ (c : List (Chg K)) (l : List (Row K)), Up O l → l.length + c.length ≤ 256 → appR O l c = some (appAll O l c)
  | [], l, _, _ => rfl
  | (k, n, t) :: c, l, h, hl => by
    have h1 := len_with O (k := k) (if t then some n else none) h
    simp only [List.length_cons] at hl
    simp only [appR]
    rw [if_neg (by omega)]
    refine app_all c _ ?_ (by omega)
    cases t
    · exact up_with_none O h
    · exact up_with_some O n h
theorem get_appAll (k : K) : ∀ (c : List (Chg K)) (l : List (Row K)), c.Pairwise (fun a b => a.1 ≠ b.1) → get k (appAll O l c) = match getC k c with | some x => val x | none => get k l
  | [], l, _ => rfl
  | x :: c, l, h => by
    have h' := List.pairwise_cons.1 h
    have ih := get_appAll k c (withR O x.1 (val x) l) h'.2
    show get k (appAll O (withR O x.1 (val x) l) c) = _
    rw [ih, get_with, getC_cons]
    by_cases e : x.1 = k
    · have hn : getC k c = none := List.find?_eq_none.2 (fun y hy => by have := h'.1 y hy; rw [e] at this; simpa using Ne.symm this)
      rw [hn, if_pos e, if_pos e.symm]
    · rw [if_neg e, if_neg (fun h => e h.symm)]
theorem dec_key {k : K} {n m : Option Int} {x : Chg K} (h : dec k n m = some x) : x.1 = k ∧ val x = m := by
  unfold dec at h
  split at h
  · injection h with h
    subst h
    refine ⟨rfl, ?_⟩
    cases m <;> rfl
  · cases h
theorem dec_none {k : K} {n m : Option Int} (h : dec k n m = none) : n = m := by
  unfold dec at h
  split at h
  · cases h
  · rename_i h1
    cases n <;> cases m <;> simp_all
theorem fm_dist (F : Row K → Option (Chg K)) (hF : ∀ x y, F x = some y → y.1 = x.1) : ∀ {l : List (Row K)}, Up O l → (l.filterMap F).Pairwise (fun a b => a.1 ≠ b.1)
  | [], _ => List.Pairwise.nil
  | x :: l, h => by
    have h' := List.pairwise_cons.1 h
    have ih := fm_dist F hF h'.2
    rw [List.filterMap_cons]
    cases hx : F x with
    | none => exact ih
    | some y =>
      refine List.pairwise_cons.2 ⟨fun z hz => ?_, ih⟩
      obtain ⟨u, hu, hz2⟩ := List.mem_filterMap.1 hz
      rw [hF x y hx, hF u z hz2]
      exact O.ne (h'.1 u hu)
theorem fm_get (F : Row K → Option (Chg K)) (hF : ∀ x y, F x = some y → y.1 = x.1) (k : K) : ∀ {l : List (Row K)}, Up O l → getC k (l.filterMap F) = match l.find? (fun r => r.1 == k) with | some x => F x | none => none
  | [], _ => rfl
  | x :: l, h => by
    have h' := List.pairwise_cons.1 h
    have ih := fm_get F hF k h'.2
    rw [List.filterMap_cons]
    by_cases e : x.1 = k
    · rw [List.find?_cons_of_pos (by simpa using e)]
      have hl : l.find? (fun r => r.1 == k) = none := List.find?_eq_none.2 (fun y hy => by have := O.ne (h'.1 y hy); rw [e] at this; simpa using Ne.symm this)
      rw [hl] at ih
      cases hx : F x with
      | none => exact ih.trans hx.symm
      | some y =>
        exact ((getC_cons k y _).trans (if_pos (by rw [hF x y hx]; exact e))).trans hx.symm
    · rw [List.find?_cons_of_neg (by simpa using e), ← ih]
      cases hx : F x with
      | none => rfl
      | some y =>
        simp only []
        rw [getC_cons, if_neg (by rw [hF x y hx]; exact e)]
theorem diff_makes {a b : List (Row K)} (ha : Up O a) (hb : Up O b) : appAll O a (diffR O a b) = b := by
  have hF : ∀ x y, dec (K := K) x.1 (get x.1 a) (get x.1 b) = some y → y.1 = (x : Row K).1 := fun x y h => (dec_key h).1
  have hall := up_all O (b := b) ha
  refine ext_get O (up_appAll O _ _ ha) hb (fun k => ?_)
  unfold diffR
  rw [get_appAll O k _ _ (fm_dist O _ hF hall)]
  rw [fm_get O _ hF k hall]
  have hg := get_all O (a := a) hb k
  unfold get at hg
  cases hx : (allR O a b).find? (fun r => r.1 == k) with
  | none =>
    rw [hx] at hg
    show get k a = get k b
    unfold get
    cases h1 : b.find? (fun r => r.1 == k) with
    | some s => rw [h1] at hg; cases hg
    | none =>
      rw [h1] at hg
      cases h2 : a.find? (fun r => r.1 == k) with
      | some s => rw [h2] at hg; cases hg
      | none => rfl
  | some x =>
    have hk : x.1 = k := by simpa using List.find?_some hx
    subst hk
    simp only []
    cases hd : dec x.1 (get x.1 a) (get x.1 b) with
    | none => exact dec_none hd
    | some y => exact (dec_key hd).2
theorem diff_len {a b : List (Row K)} (ha : Up O a) (hb : Up O b) : (diffR O a b).length ≤ a.length + b.length := by
  unfold diffR
  refine Nat.le_trans (List.length_filterMap_le _ _) ?_
  have : ∀ (b a : List (Row K)), Up O a → (allR O a b).length ≤ a.length + b.length := by
    intro b
    induction b with
    | nil => intro a _; exact Nat.le_refl _
    | cons r b ih =>
      intro a h
      have h1 := ih (withR O r.1 (some r.2) a) (up_with_some O r.2 h)
      have h2 := len_with O (k := r.1) (some r.2) h
      show (allR O (withR O r.1 (some r.2) a) b).length ≤ _
      simp only [List.length_cons]
      omega
  exact this b a ha
end Go.Proofs.Ky
end

section
namespace Go.Proofs.Ky
set_option linter.unusedVariables false
/-- 64 bits, signed. -/
def w64 (x : Int) : Int := (x + 9223372036854775808) % 18446744073709551616 - 9223372036854775808
def in64 (x : Int) : Prop := -9223372036854775808 ≤ x ∧ x ≤ 9223372036854775807
instance (x : Int) : Decidable (in64 x) := by unfold in64; infer_instance
theorem w64_in {x : Int} (h : in64 x) : w64 x = x := by unfold w64 in64 at *; omega
/-- The program's test whether a sum fits. -/
theorem sum_fits {a b : Int} (ha : in64 a) (hb : in64 b) : (decide (w64 (a + b) < a) == decide (b < 0)) = decide (in64 (a + b)) := by
  have key : ((w64 (a + b) < a) ↔ (b < 0)) ↔ in64 (a + b) := by
    unfold w64 in64 at *
    constructor
    · intro h; constructor <;> omega
    · intro h; constructor <;> intro _ <;> omega
  by_cases h1 : w64 (a + b) < a <;> by_cases h2 : b < 0 <;> by_cases h3 : in64 (a + b) <;> simp [h1, h2, h3] at key ⊢
/-- The document's. -/
theorem fits_doc {a b : Int} (ha : in64 a) (hb : in64 b) : (¬ ((b > 0 ∧ a > 9223372036854775807 - b) ∨ (b < 0 ∧ a < -9223372036854775807 - 1 - b))) ↔ in64 (a + b) := by
  unfold in64 at *
  constructor
  · intro h; constructor <;> omega
  · intro h; omega
/-- Eval: what it holds then, whether it does, what is told, the error. may: may it be? -/
def evalV (may : Bool) (k n lo old : Int) (there : Bool) : Int × Bool × Int × Int :=
  if may then
    let o := if there then old else 0
    if k = 1 then (o, there, o, 0) else if k = 2 then (n, true, n, 0) else if k = 3 then (0, false, o, 0) else if k = 6 then (w64 (o + n), true, w64 (o + n), 0)
    else if ¬ in64 (o + n) then (o, there, 0, 25) else if k = 5 ∧ o + n < lo then (o, there, 0, 24) else (o + n, true, o + n, 0)
  else (0, false, 0, 2)
end Go.Proofs.Ky
end
