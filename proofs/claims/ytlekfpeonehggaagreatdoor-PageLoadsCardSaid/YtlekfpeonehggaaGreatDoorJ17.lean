/- Rows by rising keys: two that hold the same are the same; what makes one of the other (Diff). Plain. -/
import Derived.Test.YtlekfpeonehggaaGreatDoorJ16
section
namespace Go.Proofs.Ky
set_option linter.unusedVariables false
set_option linter.unusedSectionVars false
set_option linter.unusedSimpArgs false
variable {K : Type} [DecidableEq K] (O : Ord K)
theorem get_cons (k : K) (r : Row K) (l : List (Row K)) : get k (r :: l) = if r.1 = k then some r.2 else get k l := by
  unfold get
  by_cases h : r.1 = k
  · rw [List.find?_cons_of_pos (by simpa using h), if_pos h]; rfl
  · rw [List.find?_cons_of_neg (by simpa using h), if_neg h]
theorem get_app (k : K) (a b : List (Row K)) : get k (a ++ b) = match get k a with | some n => some n | none => get k b := by
  induction a with
  | nil => rfl
  | cons r a ih =>
    rw [List.cons_append, get_cons, get_cons, ih]
    split <;> rfl
theorem get_go (k k' : K) (n : Int) : ∀ (i : Bool) (l : List (Row K)), get k (withGo O k' n i l) = if k = k' then (if i then none else some n) else get k l
  | i, [] => by
    cases i
    · by_cases h : k = k'
      · subst h; simp [withGo, get]
      · have : ¬ k' = k := fun e => h e.symm
        simp [withGo, get, h, this]
    · simp [withGo, get]
  | i, r :: l => by
    have ih := fun i => get_go k k' n i l
    simp only [withGo]
    generalize hh : (!i && !(O.lt r.1 k')) = here
    rw [get_app, get_app, ih, get_cons]
    by_cases h : k = k'
    · subst h
      rw [if_pos rfl, if_pos rfl]
      cases here
      · have hr : get k (if r.1 = k then ([] : List (Row K)) else [r]) = none := by
          split
          · rfl
          · rename_i e; rw [get_cons, if_neg e]; rfl
        simp only [Bool.false_eq_true, if_false, Bool.or_false]
        rw [show get k ([] : List (Row K)) = none from rfl, hr]
      · have hi : i = false := by cases i <;> simp_all
        subst hi
        simp [get]
    · rw [if_neg h, if_neg h]
      have h2 : ¬ k' = k := fun e => h e.symm
      have hg : get k (if here = true then [(k', n)] else []) = none := by cases here <;> simp [get, h2]
      rw [hg]
      by_cases e : r.1 = k'
      · have : ¬ r.1 = k := by rw [e]; exact h2
        simp [e, h2, get]
      · rw [if_neg e, get_cons]
        by_cases e2 : r.1 = k
        · simp [e2]
        · simp [e2, get]
theorem get_with (k k' : K) (v : Option Int) (l : List (Row K)) : get k (withR O k' v l) = if k = k' then v else get k l := by
  cases v with
  | none => exact (get_go O k k' 0 true l)
  | some n => exact (get_go O k k' n false l)
theorem get_mem {k : K} {l : List (Row K)} {n : Int} (h : get k l = some n) : (k, n) ∈ l := by
  unfold get at h
  obtain ⟨r, hr, he⟩ := Option.map_eq_some_iff.1 h
  have := List.find?_some hr
  simp at this
  subst this he
  exact List.mem_of_find?_eq_some hr
theorem get_head_none {k : K} {r : Row K} {l : List (Row K)} (h : Up O (r :: l)) (hk : O.lt k r.1 = true ∨ k = r.1) : get k l = none :=
  get_none (fun x hx e => by
    have h1 := (List.pairwise_cons.1 h).1 x hx
    rw [e] at h1
    rcases hk with hk | hk
    · rw [O.asym hk] at h1; cases h1
    · rw [hk, O.irr] at h1; cases h1)
/-- Two that hold the same are the same. -/
theorem ext_get : ∀ {l m : List (Row K)}, Up O l → Up O m → (∀ k, get k l = get k m) → l = m
  | [], [], _, _, _ => rfl
  | [], s :: m, _, _, h => by have := h s.1; rw [get_cons, if_pos rfl] at this; cases this
  | r :: l, [], _, _, h => by have := h r.1; rw [get_cons, if_pos rfl] at this; cases this
  | r :: l, s :: m, hl, hm, h => by
    have h1 := h r.1
    have h2 := h s.1
    rw [get_cons, if_pos rfl] at h1
    rw [get_cons (r := s), if_pos rfl] at h2
    have e : r.1 = s.1 := by
      rcases List.mem_cons.1 (get_mem h1.symm) with h3 | h3
      · exact congrArg (·.1) h3
      · rcases List.mem_cons.1 (get_mem h2) with h4 | h4
        · exact (congrArg (·.1) h4).symm
        · have h5 := (List.pairwise_cons.1 hm).1 _ h3
          have h6 := (List.pairwise_cons.1 hl).1 _ h4
          rw [O.asym h5] at h6
          cases h6
    rw [get_cons, if_pos e.symm] at h1
    have e2 : r = s := Prod.ext e (Option.some.inj h1)
    subst e2
    rw [ext_get (List.pairwise_cons.1 hl).2 (List.pairwise_cons.1 hm).2 (fun k => by
      by_cases hk : r.1 = k
      · rw [get_head_none O hl (.inr hk.symm), get_head_none O hm (.inr hk.symm)]
      · have := h k
        rwa [get_cons, get_cons, if_neg hk, if_neg hk] at this)]
/-- All keys of both: what the second holds, else what the first does. -/
def allR (a b : List (Row K)) : List (Row K) := b.foldl (fun l r => withR O r.1 (some r.2) l) a
theorem up_all : ∀ {b a : List (Row K)}, Up O a → Up O (allR O a b)
  | [], _, h => h
  | r :: b, a, h => up_all (b := b) (up_with_some O r.2 h)
theorem get_all : ∀ {b a : List (Row K)}, Up O b → ∀ k, get k (allR O a b) = match get k b with | some n => some n | none => get k a
  | [], a, _, k => rfl
  | r :: b, a, hb, k => by
    have ih := get_all (b := b) (a := withR O r.1 (some r.2) a) (List.pairwise_cons.1 hb).2 k
    show get k (allR O (withR O r.1 (some r.2) a) b) = _
    rw [ih, get_with, get_cons]
    by_cases h : k = r.1
    · rw [get_head_none O hb (.inr h), if_pos h, if_pos h.symm]
    · rw [if_neg h, if_neg (fun e => h e.symm)]
/-- The same by one walk through both. -/
def mrg : Nat → List (Row K) → List (Row K) → List (Row K)
  | 0, _, _ => []
  | _ + 1, [], [] => []
  | f + 1, [], s :: b => s :: mrg f [] b
  | f + 1, r :: a, [] => r :: mrg f a []
  | f + 1, r :: a, s :: b => if O.lt r.1 s.1 then r :: mrg f a (s :: b) else if O.lt s.1 r.1 then s :: mrg f (r :: a) b else s :: mrg f a b
theorem mrg_mem : ∀ (f : Nat) (a b : List (Row K)) (x : Row K), x ∈ mrg O f a b → x ∈ a ∨ x ∈ b
  | 0, _, _, x, h => by simp [mrg] at h
  | f + 1, [], [], x, h => by simp [mrg] at h
  | f + 1, [], s :: b, x, h => by
    rcases List.mem_cons.1 h with rfl | h
    · exact .inr List.mem_cons_self
    · exact (mrg_mem f _ _ x h).imp id (List.mem_cons_of_mem _)
  | f + 1, r :: a, [], x, h => by
    rcases List.mem_cons.1 h with rfl | h
    · exact .inl List.mem_cons_self
    · exact (mrg_mem f _ _ x h).imp (List.mem_cons_of_mem _) id
  | f + 1, r :: a, s :: b, x, h => by
    simp only [mrg] at h
    split at h
    · rcases List.mem_cons.1 h with rfl | h
      · exact .inl List.mem_cons_self
      · exact (mrg_mem f _ _ x h).imp (List.mem_cons_of_mem _) id
    · split at h
      · rcases List.mem_cons.1 h with rfl | h
        · exact .inr List.mem_cons_self
        · exact (mrg_mem f _ _ x h).imp id (List.mem_cons_of_mem _)
      · rcases List.mem_cons.1 h with rfl | h
        · exact .inr List.mem_cons_self
        · exact (mrg_mem f _ _ x h).imp (List.mem_cons_of_mem _) (List.mem_cons_of_mem _)
/-- Both heads' keys: those behind are other ones. -/
theorem mrg_above {f : Nat} {a b : List (Row K)} {k : K} (ha : ∀ x ∈ a, O.lt k x.1 = true) (hb : ∀ x ∈ b, O.lt k x.1 = true) : ∀ x ∈ mrg O f a b, O.lt k x.1 = true := fun x hx =>
  (mrg_mem O f a b x hx).elim (ha x) (hb x)
theorem above_cons {k : K} {s : Row K} {b : List (Row K)} (hb : Up O (s :: b)) (h : O.lt k s.1 = true) : ∀ x ∈ s :: b, O.lt k x.1 = true := fun x hx => by
  rcases List.mem_cons.1 hx with rfl | hx
  · exact h
  · exact O.tr _ _ _ h ((List.pairwise_cons.1 hb).1 x hx)
theorem mrg_up : ∀ (f : Nat) (a b : List (Row K)), Up O a → Up O b → Up O (mrg O f a b)
  | 0, _, _, _, _ => List.Pairwise.nil
  | f + 1, [], [], _, _ => List.Pairwise.nil
  | f + 1, [], s :: b, ha, hb => List.pairwise_cons.2 ⟨mrg_above O (fun x h => by cases h) (List.pairwise_cons.1 hb).1, mrg_up f _ _ ha (List.pairwise_cons.1 hb).2⟩
  | f + 1, r :: a, [], ha, hb => List.pairwise_cons.2 ⟨mrg_above O (List.pairwise_cons.1 ha).1 (fun x h => by cases h), mrg_up f _ _ (List.pairwise_cons.1 ha).2 hb⟩
  | f + 1, r :: a, s :: b, ha, hb => by
    have ha' := List.pairwise_cons.1 ha
    have hb' := List.pairwise_cons.1 hb
    simp only [mrg]
    split
    · rename_i h
      exact List.pairwise_cons.2 ⟨mrg_above O ha'.1 (above_cons O hb h), mrg_up f _ _ ha'.2 hb⟩
    · split
      · rename_i h
        exact List.pairwise_cons.2 ⟨mrg_above O (above_cons O ha h) hb'.1, mrg_up f _ _ ha hb'.2⟩
      · rename_i h1 h2
        have e := O.tot r.1 s.1 (by simpa using h1) (by simpa using h2)
        exact List.pairwise_cons.2 ⟨mrg_above O (by rw [← e]; exact ha'.1) hb'.1, mrg_up f _ _ ha'.2 hb'.2⟩
theorem get_above {k : K} {l : List (Row K)} (h : ∀ x ∈ l, O.lt k x.1 = true) : get k l = none := get_none (fun x hx e => by have := h x hx; rw [e, O.irr] at this; cases this)
theorem get_mrg : ∀ (f : Nat) (a b : List (Row K)), a.length + b.length ≤ f → Up O a → Up O b → ∀ k, get k (mrg O f a b) = match get k b with | some n => some n | none => get k a
  | 0, a, b, h, _, _, k => by
    have e1 := List.eq_nil_of_length_eq_zero (show a.length = 0 by omega)
    have e2 := List.eq_nil_of_length_eq_zero (show b.length = 0 by omega)
    subst e1 e2
    rfl
  | f + 1, [], [], _, _, _, k => rfl
  | f + 1, [], s :: b, h, ha, hb, k => by
    have ih := get_mrg f [] b (by simp at h ⊢; omega) ha (List.pairwise_cons.1 hb).2 k
    show get k (s :: mrg O f [] b) = _
    rw [get_cons, get_cons, ih]
    by_cases e : s.1 = k
    · rw [if_pos e, if_pos e]
    · rw [if_neg e, if_neg e]
  | f + 1, r :: a, [], h, ha, hb, k => by
    have ih := get_mrg f a [] (by simp at h ⊢; omega) (List.pairwise_cons.1 ha).2 hb k
    show get k (r :: mrg O f a []) = _
    rw [get_cons, ih]
    show _ = get k (r :: a)
    rw [get_cons]
    rfl
  | f + 1, r :: a, s :: b, h, ha, hb, k => by
    have ha' := List.pairwise_cons.1 ha
    have hb' := List.pairwise_cons.1 hb
    simp only [mrg]
    split
    · rename_i hlt
      have ih := get_mrg f a (s :: b) (by simp at h ⊢; omega) ha'.2 hb k
      rw [get_cons, ih, get_cons (r := r)]
      by_cases e : r.1 = k
      · rw [if_pos e, if_pos e, get_above O (by rw [← e]; exact above_cons O hb hlt)]
      · rw [if_neg e, if_neg e]
    · split
      · have ih := get_mrg f (r :: a) b (by simp at h ⊢; omega) ha hb'.2 k
        rw [get_cons, ih, get_cons (r := s)]
        by_cases e : s.1 = k
        · rw [if_pos e, if_pos e]
        · rw [if_neg e, if_neg e]
      · rename_i h1 h2
        have e := O.tot r.1 s.1 (by simpa using h1) (by simpa using h2)
        have ih := get_mrg f a b (by simp at h ⊢; omega) ha'.2 hb'.2 k
        rw [get_cons, ih, get_cons (r := s), get_cons (r := r), e]
        by_cases e2 : s.1 = k
        · rw [if_pos e2, if_pos e2]
        · rw [if_neg e2, if_neg e2, if_neg e2]
theorem all_mrg {a b : List (Row K)} (ha : Up O a) (hb : Up O b) (f : Nat) (h : a.length + b.length ≤ f) : allR O a b = mrg O f a b :=
  ext_get O (up_all O ha) (mrg_up O f a b ha hb) (fun k => by rw [get_all O hb k, get_mrg O f a b h ha hb k])
abbrev Chg (K : Type) := K × Int × Bool
def dec (k : K) (n m : Option Int) : Option (Chg K) := if n.isSome ≠ m.isSome ∨ n.getD 0 ≠ m.getD 0 then some (k, m.getD 0, m.isSome) else none
theorem dec_ns (k : K) (m : Int) : dec k none (some m) = some (k, m, true) := by simp [dec]
theorem dec_sn (k : K) (n : Int) : dec k (some n) none = some (k, 0, false) := by simp [dec]
/-- The document's Diff. -/
def diffR (a b : List (Row K)) : List (Chg K) := (allR O a b).filterMap (fun x => dec x.1 (get x.1 a) (get x.1 b))
/-- The program's: one walk through both. -/
def diffP : Nat → List (Row K) → List (Row K) → List (Chg K)
  | 0, _, _ => []
  | _ + 1, [], [] => []
  | f + 1, [], s :: b => (s.1, s.2, true) :: diffP f [] b
  | f + 1, r :: a, [] => (r.1, 0, false) :: diffP f a []
  | f + 1, r :: a, s :: b => if O.lt r.1 s.1 then (r.1, 0, false) :: diffP f a (s :: b) else if O.lt s.1 r.1 then (s.1, s.2, true) :: diffP f (r :: a) b else (if r.2 ≠ s.2 then [(s.1, s.2, true)] else []) ++ diffP f a b
theorem fm_congr {α β : Type} {F G : α → Option β} : ∀ {l : List α}, (∀ x ∈ l, F x = G x) → l.filterMap F = l.filterMap G
  | [], _ => rfl
  | x :: l, h => by
    rw [List.filterMap_cons, List.filterMap_cons, h x List.mem_cons_self, fm_congr (fun y hy => h y (List.mem_cons_of_mem _ hy))]
theorem get_far {k : K} {r : Row K} {l : List (Row K)} (h : O.lt r.1 k = true) : get k (r :: l) = get k l := by rw [get_cons, if_neg (O.ne h)]
theorem diff_mrg : ∀ (f : Nat) (a b : List (Row K)), Up O a → Up O b → diffP O f a b = (mrg O f a b).filterMap (fun x => dec x.1 (get x.1 a) (get x.1 b))
  | 0, _, _, _, _ => rfl
  | f + 1, [], [], _, _ => rfl
  | f + 1, [], s :: b, ha, hb => by
    have hb' := List.pairwise_cons.1 hb
    have ih := diff_mrg f [] b ha hb'.2
    show _ :: diffP O f [] b = (s :: mrg O f [] b).filterMap _
    have hn : get s.1 ([] : List (Row K)) = none := rfl
    rw [List.filterMap_cons, ih, get_cons, if_pos rfl, hn, dec_ns]
    exact congrArg _ (fm_congr (fun x hx => by rw [get_far O (l := b) (mrg_above O (f := f) (a := []) (fun x h => by cases h) hb'.1 x hx)]))
  | f + 1, r :: a, [], ha, hb => by
    have ha' := List.pairwise_cons.1 ha
    have ih := diff_mrg f a [] ha'.2 hb
    show _ :: diffP O f a [] = (r :: mrg O f a []).filterMap _
    rw [List.filterMap_cons, get_cons, if_pos rfl, ih]
    have hn : get r.1 ([] : List (Row K)) = none := rfl
    rw [hn]
    rw [dec_sn]
    congr 1
    exact fm_congr (fun x hx => by rw [get_far O (mrg_above O (f := f) (b := []) ha'.1 (fun x h => by cases h) x hx)])
  | f + 1, r :: a, s :: b, ha, hb => by
    have ha' := List.pairwise_cons.1 ha
    have hb' := List.pairwise_cons.1 hb
    simp only [diffP, mrg]
    split
    · rename_i h
      have ih := diff_mrg f a (s :: b) ha'.2 hb
      rw [List.filterMap_cons, get_cons (r := r), if_pos rfl, get_above O (above_cons O hb h), ih]
      rw [dec_sn]
      congr 1
      exact fm_congr (fun x hx => by rw [get_far O (mrg_above O (f := f) ha'.1 (above_cons O hb h) x hx)])
    · split
      · rename_i h
        have ih := diff_mrg f (r :: a) b ha hb'.2
        rw [List.filterMap_cons, get_cons (r := s), if_pos rfl, get_above O (above_cons O ha h), ih]
        simp only [dec, Option.isSome_none, Option.isSome_some, Option.getD_none, Option.getD_some, ne_eq, Bool.false_eq_true, not_false_eq_true, true_or, if_true]
        congr 1
        exact fm_congr (fun x hx => by rw [get_far O (l := b) (mrg_above O (f := f) (above_cons O ha h) hb'.1 x hx)])
      · rename_i h1 h2
        have e := O.tot r.1 s.1 (by simpa using h1) (by simpa using h2)
        have ih := diff_mrg f a b ha'.2 hb'.2
        have hab := mrg_above O (f := f) (k := s.1) (by rw [← e]; exact ha'.1) hb'.1
        rw [List.filterMap_cons, get_cons (r := s), if_pos rfl, get_cons (r := r), if_pos e, ih]
        have hc : (mrg O f a b).filterMap (fun x => dec x.1 (get x.1 a) (get x.1 b)) = (mrg O f a b).filterMap (fun x => dec x.1 (get x.1 (r :: a)) (get x.1 (s :: b))) :=
          fm_congr (fun x hx => by rw [get_far O (l := b) (hab x hx), get_far O (l := a) (r := r) (by rw [e]; exact hab x hx)])
        rw [hc]
        by_cases hn : r.2 = s.2 <;> simp [dec, hn]
/-- What makes one of the other: both say the same. -/
theorem diff_same {a b : List (Row K)} (ha : Up O a) (hb : Up O b) (f : Nat) (h : a.length + b.length ≤ f) : diffP O f a b = diffR O a b := by
  rw [diff_mrg O f a b ha hb, diffR, all_mrg O ha hb f h]
end Go.Proofs.Ky
end
