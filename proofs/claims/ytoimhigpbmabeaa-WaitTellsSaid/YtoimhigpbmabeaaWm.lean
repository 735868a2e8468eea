/- Graphs of edges: plain words. -/
namespace Go.Proofs.Wm

abbrev Es := List (Int × Int)
def succs (es : Es) (a : Int) : List Int := (es.filter (fun e => e.1 == a)).map (·.2)
def nodes (es : Es) : List Int := es.flatMap (fun e => [e.1, e.2])
theorem mem_succs {es : Es} {a b : Int} : b ∈ succs es a ↔ (a, b) ∈ es := by
  simp only [succs, List.mem_map, List.mem_filter, beq_iff_eq]
  constructor
  · rintro ⟨⟨x, y⟩, ⟨h1, h2⟩, h3⟩
    simp only at h2 h3
    subst h2 h3
    exact h1
  · intro h; exact ⟨(a, b), ⟨h, rfl⟩, rfl⟩
theorem mem_nodes {es : Es} {a : Int} : a ∈ nodes es ↔ ∃ e ∈ es, a = e.1 ∨ a = e.2 := by simp [nodes, List.mem_flatMap]
theorem succs_snoc (es : Es) (e : Int × Int) (a : Int) : succs (es ++ [e]) a = succs es a ++ (if e.1 = a then [e.2] else []) := by
  unfold succs
  rw [List.filter_append, List.map_append]
  congr 1
  by_cases h : e.1 = a <;> simp [h]
theorem nodes_snoc (es : Es) (e : Int × Int) : nodes (es ++ [e]) = nodes es ++ [e.1, e.2] := by simp [nodes]
theorem succs_nil_of {es : Es} {a : Int} (h : a ∉ nodes es) : succs es a = [] := by
  apply List.eq_nil_iff_forall_not_mem.2
  intro b hb
  exact h (mem_nodes.2 ⟨_, mem_succs.1 hb, .inl rfl⟩)
theorem succs_len (es : Es) (a : Int) : (succs es a).length ≤ es.length := by
  unfold succs; rw [List.length_map]; exact List.length_filter_le _ _
end Go.Proofs.Wm
namespace Go.Proofs.Wm
/-- One waits for the other, by and by. -/
inductive TC (es : Es) (a : Int) : Int → Prop
  | one {b : Int} : (a, b) ∈ es → TC es a b
  | more {b c : Int} : TC es a b → (b, c) ∈ es → TC es a c
theorem TC.trans {es : Es} {a b c : Int} (h : TC es a b) (k : TC es b c) : TC es a c := by
  induction k with
  | one h1 => exact h.more h1
  | more _ h1 ih => exact ih.more h1
theorem TC.mem {es : Es} {a b : Int} (h : TC es a b) : b ∈ es.map (·.2) := by
  cases h with
  | one h => exact List.mem_map.2 ⟨_, h, rfl⟩
  | more _ h => exact List.mem_map.2 ⟨_, h, rfl⟩
/-- Where the search stands. -/
structure Inv (es : Es) (a : Int) (seen next : List Int) : Prop where
  s : ∀ x ∈ seen, TC es a x
  n : ∀ x ∈ next, TC es a x
  r : ∀ b, (a, b) ∈ es → b ∈ seen ∨ b ∈ next
  c : ∀ x ∈ seen, ∀ b, (x, b) ∈ es → b ∈ seen ∨ b ∈ next
  d : seen.Nodup
theorem inv_start (es : Es) (a : Int) : Inv es a [] (succs es a) :=
  ⟨(fun x h => by cases h), (fun x h => .one (mem_succs.1 h)), (fun b h => .inr (mem_succs.2 h)), (fun x h => by cases h), List.nodup_nil⟩
theorem inv_old {es : Es} {a x : Int} {seen next : List Int} (h : Inv es a seen (next ++ [x])) (hx : x ∈ seen) : Inv es a seen next :=
  ⟨h.s, fun y hy => h.n y (by simp [hy]), fun b hb => (h.r b hb).elim .inl (fun h1 => by
    rcases List.mem_append.1 h1 with h1 | h1
    · exact .inr h1
    · rw [List.mem_singleton.1 h1]; exact .inl hx), fun y hy b hb => (h.c y hy b hb).elim .inl (fun h1 => by
    rcases List.mem_append.1 h1 with h1 | h1
    · exact .inr h1
    · rw [List.mem_singleton.1 h1]; exact .inl hx), h.d⟩
theorem inv_new {es : Es} {a x : Int} {seen next : List Int} (h : Inv es a seen (next ++ [x])) (hx : x ∉ seen) : Inv es a (seen ++ [x]) (next ++ succs es x) := by
  have hxt := h.n x (by simp)
  refine ⟨fun y hy => ?_, fun y hy => ?_, fun b hb => ?_, fun y hy b hb => ?_, ?_⟩
  · rcases List.mem_append.1 hy with h1 | h1
    · exact h.s y h1
    · rw [List.mem_singleton.1 h1]; exact hxt
  · rcases List.mem_append.1 hy with h1 | h1
    · exact h.n y (by simp [h1])
    · exact hxt.more (mem_succs.1 h1)
  · rcases h.r b hb with h1 | h1
    · exact .inl (by simp [h1])
    · rcases List.mem_append.1 h1 with h1 | h1
      · exact .inr (by simp [h1])
      · exact .inl (by simp [List.mem_singleton.1 h1])
  · rcases List.mem_append.1 hy with h1 | h1
    · rcases h.c y h1 b hb with h1 | h1
      · exact .inl (by simp [h1])
      · rcases List.mem_append.1 h1 with h1 | h1
        · exact .inr (by simp [h1])
        · exact .inl (by simp [List.mem_singleton.1 h1])
    · rw [List.mem_singleton.1 h1] at hb
      exact .inr (List.mem_append.2 (.inr (mem_succs.2 hb)))
  · rw [List.nodup_append]
    exact ⟨h.d, by simp, fun y hy z hz => by rw [List.mem_singleton.1 hz]; rintro rfl; exact hx hy⟩
theorem inv_end {es : Es} {a : Int} {seen : List Int} (h : Inv es a seen []) (x : Int) : x ∈ seen ↔ TC es a x := by
  refine ⟨h.s x, fun hx => ?_⟩
  induction hx with
  | one h1 => exact (h.r _ h1).resolve_right (by simp)
  | more _ h1 ih => exact (h.c _ ih _ h1).resolve_right (by simp)
/-- How much is left to be done. -/
def unseen (es : Es) (seen : List Int) : Nat := (es.filter (fun e => !seen.contains e.2)).length
def work (es : Es) (seen next : List Int) : Nat := unseen es seen * (es.length + 1) + next.length
theorem work_old (es : Es) (seen next : List Int) (x : Int) : work es seen next < work es seen (next ++ [x]) := by unfold work; simp
theorem unseen_lt {es : Es} {seen : List Int} {x : Int} (hm : x ∈ es.map (·.2)) (hx : x ∉ seen) : unseen es (seen ++ [x]) < unseen es seen := by
  unfold unseen
  induction es with
  | nil => cases hm
  | cons e es ih =>
    have hle : (es.filter (fun e => !(seen ++ [x]).contains e.2)).length ≤ (es.filter (fun e => !seen.contains e.2)).length := by
      clear ih hm
      induction es with
      | nil => simp
      | cons e es ih =>
        simp only [List.filter_cons]
        by_cases h1 : e.2 ∈ seen
        · simp [h1] at ih ⊢; exact ih
        · by_cases h2 : e.2 = x
          · rw [if_neg (by simp [h2]), if_pos (by simpa using h1), List.length_cons]
            omega
          · simp [h1, h2] at ih ⊢; omega
    simp only [List.filter_cons]
    by_cases h2 : e.2 = x
    · have h1 : e.2 ∉ seen := by rw [h2]; exact hx
      rw [if_neg (by simp [h2]), if_pos (by simpa using h1), List.length_cons]
      omega
    · have hm' : x ∈ es.map (·.2) := by
        rcases List.mem_cons.1 hm with h | h
        · exact absurd h.symm h2
        · exact h
      have := ih hm'
      by_cases h1 : e.2 ∈ seen
      · rw [if_neg (by simp [h1]), if_neg (by simp [h1])]; exact this
      · rw [if_pos (by simp [h1, h2]), if_pos (by simpa using h1), List.length_cons, List.length_cons]; omega
theorem work_new {es : Es} {seen next : List Int} {x : Int} (hm : x ∈ es.map (·.2)) (hx : x ∉ seen) : work es (seen ++ [x]) (next ++ succs es x) < work es seen (next ++ [x]) := by
  have h1 := unseen_lt hm hx
  have h2 := succs_len es x
  unfold work
  have : (unseen es (seen ++ [x]) + 1) * (es.length + 1) ≤ unseen es seen * (es.length + 1) := Nat.mul_le_mul_right _ h1
  rw [Nat.add_mul] at this
  simp only [List.length_append, List.length_singleton]
  omega
theorem unseen_le (es : Es) (seen : List Int) : unseen es seen ≤ es.length := List.length_filter_le _ _
end Go.Proofs.Wm
