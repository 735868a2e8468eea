/- Orders: what they are. -/
import Derived.Test.YtoimhigpbmabeaaPb
set_option linter.unusedVariables false
namespace Go.Proofs.Wm

/-- Each one's successors stand ahead of it. -/
def Behind (es : Es) (o : List Int) : Prop := ∀ i (hi : i < o.length), ∀ t ∈ succs es o[i], t ∈ o.take i
theorem behind_snoc {es : Es} {o : List Int} {x : Int} (h : Behind es o) (hx : free es o x = true) : Behind es (o ++ [x]) := by
  intro i hi t ht
  rw [List.length_append, List.length_singleton] at hi
  by_cases h1 : i < o.length
  · rw [List.getElem_append_left h1] at ht
    rw [List.take_append_of_le_length (by omega)]
    exact h i h1 t ht
  · obtain rfl : i = o.length := by omega
    rw [List.getElem_concat_length (by rfl)] at ht
    rw [List.take_append_of_le_length (by omega), List.take_length]
    have := List.all_eq_true.1 hx t ht
    simpa using this
theorem cons_erase : ∀ {l : List Int} {i : Nat} (hi : i < l.length), (l[i] :: l.eraseIdx i).Perm l
  | x :: l, 0, _ => List.Perm.refl _
  | x :: l, i + 1, hi => by
    simp only [List.getElem_cons_succ, List.eraseIdx_cons_succ]
    exact (List.Perm.swap _ _ _).trans ((cons_erase (by simpa using hi)).cons x)
theorem dup_of : ∀ {l : List Int}, ¬ l.Nodup → ∃ i j, ∃ hi : i < l.length, ∃ hj : j < l.length, i < j ∧ l[i] = l[j]
  | [], h => absurd List.nodup_nil h
  | x :: r, h => by
    by_cases hx : x ∈ r
    · obtain ⟨j, hj, e⟩ := List.mem_iff_getElem.1 hx
      exact ⟨0, j + 1, by simp, by simpa using hj, by omega, by simpa using e.symm⟩
    · have hr : ¬ r.Nodup := fun h2 => h (List.nodup_cons.2 ⟨hx, h2⟩)
      obtain ⟨i, j, hi, hj, hij, e⟩ := dup_of hr
      exact ⟨i + 1, j + 1, by simpa using hi, by simpa using hj, by omega, by simpa using e⟩
theorem erase_perm {l d : List Int} {i : Nat} (hi : i < l.length) : (l.eraseIdx i ++ (d ++ [l[i]])).Perm (l ++ d) := by
  have h1 : (l.eraseIdx i ++ (d ++ [l[i]])).Perm (l[i] :: (l.eraseIdx i ++ d)) := by
    rw [← List.append_assoc]
    exact List.perm_append_comm
  refine h1.trans ?_
  rw [← List.cons_append]
  exact (cons_erase hi).append_right d
theorem loop_spec (es : Es) : ∀ (k : Nat) (left done : List Int), left.length < k → Behind es done → (ordLoop es k left done).2 = true →
    Behind es (ordLoop es k left done).1 ∧ (ordLoop es k left done).1.Perm (left ++ done)
  | 0, _, _, h, _, _ => by omega
  | k + 1, left, done, hk, hb, ht => by
    unfold ordLoop at ht ⊢
    split at ht
    · rename_i h0
      rw [if_pos h0]
      subst h0
      exact ⟨hb, List.Perm.refl _⟩
    · rename_i h0
      rw [if_neg h0]
      cases hf : left.findIdx? (free es done) with
      | none => rw [hf] at ht; simp at ht
      | some i =>
        rw [hf] at ht
        obtain ⟨hil, hfr, _⟩ := List.findIdx?_eq_some_iff_getElem.1 hf
        have hgd : left.getD i 0 = left[i] := by rw [List.getD_eq_getElem?_getD, List.getElem?_eq_getElem hil]; rfl
        simp only [hgd] at ht ⊢
        have := loop_spec es k (left.eraseIdx i) (done ++ [left[i]]) (by rw [List.length_eraseIdx_of_lt hil]; omega) (behind_snoc hb hfr) ht
        exact ⟨this.1, this.2.trans (erase_perm hil)⟩
theorem loop_false (es : Es) : ∀ (k : Nat) (left done : List Int), (ordLoop es k left done).2 = false → (ordLoop es k left done).1 = []
  | 0, _, _, _ => rfl
  | k + 1, left, done, h => by
    unfold ordLoop at h ⊢
    split at h
    · simp at h
    · rename_i h0
      rw [if_neg h0]
      cases hf : left.findIdx? (free es done) with
      | none => rfl
      | some i => rw [hf] at h; exact loop_false es k _ _ h
theorem ord_true {es : Es} (h : (ordL es).2 = true) : Behind es (ordL es).1 ∧ (ordL es).1.Perm (allL es) := by
  have := loop_spec es ((allL es).length + 1) (allL es) [] (by omega) (fun i hi => absurd hi (Nat.not_lt_zero _)) h
  rw [List.append_nil] at this
  exact this
theorem ord_false {es : Es} (h : (ordL es).2 = false) : (ordL es).1 = [] := loop_false es _ _ _ h
theorem allL_nodup (es : Es) : (allL es).Nodup := (srt_allL es).imp (fun h => by omega)
/-- In an order nobody stands ahead of one for whom it waits. -/
theorem ord_edge {es : Es} (h : (ordL es).2 = true) {a b : Int} (he : (a, b) ∈ es) : ∃ i j, ∃ hi : i < (ordL es).1.length, ∃ hj : j < (ordL es).1.length, (ordL es).1[i] = a ∧ (ordL es).1[j] = b ∧ j < i := by
  obtain ⟨hb, hp⟩ := ord_true h
  have ha : a ∈ (ordL es).1 := hp.mem_iff.2 (mem_allL.2 (mem_nodes.2 ⟨_, he, .inl rfl⟩))
  obtain ⟨i, hi, hia⟩ := List.mem_iff_getElem.1 ha
  have h1 := hb i hi b (by rw [hia]; exact mem_succs.2 he)
  obtain ⟨j, hj, hjb⟩ := List.mem_iff_getElem.1 h1
  rw [List.length_take] at hj
  rw [List.getElem_take] at hjb
  exact ⟨i, j, hi, by omega, hia, hjb, by omega⟩
/-- With an order nobody stands in a circle. -/
theorem ord_no_circ {es : Es} (h : (ordL es).2 = true) : circL es = [] := by
  apply List.eq_nil_iff_forall_not_mem.2
  intro x hx
  have htc := mem_circL.1 hx
  obtain ⟨hb, hp⟩ := ord_true h
  have hn : (ordL es).1.Nodup := hp.nodup_iff.2 (allL_nodup es)
  have key : ∀ {a b : Int}, TC es a b → ∀ i (hi : i < (ordL es).1.length), (ordL es).1[i] = a → ∃ j, ∃ hj : j < (ordL es).1.length, (ordL es).1[j] = b ∧ j < i := by
    intro a b hab
    induction hab with
    | one he =>
      intro i hi hia
      have h1 := hb i hi _ (by rw [hia]; exact mem_succs.2 he)
      obtain ⟨j, hj, hjb⟩ := List.mem_iff_getElem.1 h1
      rw [List.length_take] at hj
      rw [List.getElem_take] at hjb
      exact ⟨j, by omega, hjb, by omega⟩
    | more _ he ih =>
      intro i hi hia
      obtain ⟨j, hj, hjb, hji⟩ := ih i hi hia
      have h1 := hb j hj _ (by rw [hjb]; exact mem_succs.2 he)
      obtain ⟨q, hq, hqb⟩ := List.mem_iff_getElem.1 h1
      rw [List.length_take] at hq
      rw [List.getElem_take] at hqb
      exact ⟨q, by omega, hqb, by omega⟩
  have hxo : x ∈ (ordL es).1 := hp.mem_iff.2 (mem_allL.2 (by obtain ⟨e, he, hx⟩ := List.mem_map.1 htc.mem; exact mem_nodes.2 ⟨e, he, .inr hx.symm⟩))
  obtain ⟨i, hi, hia⟩ := List.mem_iff_getElem.1 hxo
  obtain ⟨j, hj, hjb, hji⟩ := key htc i hi hia
  have := (List.getElem_inj hn).1 (hjb.trans hia.symm)
  omega
/-- If nobody may come next, somebody stands in a circle. -/
theorem stuck_circ {es : Es} {left done : List Int} (hl : left ≠ []) (hall : ∀ x ∈ nodes es, x ∈ left ∨ x ∈ done) (hno : ∀ x ∈ left, free es done x = false) : ∃ x, TC es x x := by
  have step : ∀ x ∈ left, ∃ y ∈ left, (x, y) ∈ es := by
    intro x hx
    have := hno x hx
    rw [free, Bool.eq_false_iff] at this
    have h2 : ∃ t ∈ succs es x, done.contains t = false := by
      apply Classical.byContradiction
      intro hc
      apply this
      rw [List.all_eq_true]
      intro t ht
      cases h3 : done.contains t with
      | true => rfl
      | false => exact absurd ⟨t, ht, h3⟩ hc
    obtain ⟨t, ht, hd⟩ := h2
    have he := mem_succs.1 ht
    refine ⟨t, ?_, he⟩
    rcases hall t (mem_nodes.2 ⟨_, he, .inr rfl⟩) with h | h
    · exact h
    · exact absurd (List.contains_iff_mem.2 h) (by rw [hd]; simp)
  -- a walk of more steps than there are nodes comes back
  obtain ⟨x0, hx0⟩ := List.exists_mem_of_ne_nil left hl
  have walk : ∀ n : Nat, ∃ p : List Int, p.length = n + 1 ∧ (∀ x ∈ p, x ∈ left) ∧ (∀ i j (hi : i < p.length) (hj : j < p.length), i < j → TC es p[j] p[i]) := by
    intro n
    induction n with
    | zero => exact ⟨[x0], rfl, by simpa using hx0, fun i j hi hj h => by simp at hi hj; omega⟩
    | succ n ih =>
      obtain ⟨p, hp, hm, ht⟩ := ih
      obtain ⟨z, r, rfl⟩ := List.exists_cons_of_length_eq_add_one hp
      obtain ⟨y, hy, he⟩ := step z (hm z (by simp))
      refine ⟨y :: z :: r, by simp at hp ⊢; omega, fun x hx => ?_, fun i j hi hj h => ?_⟩
      · rcases List.mem_cons.1 hx with rfl | hx
        · exact hy
        · exact hm x hx
      · obtain ⟨j, rfl⟩ : ∃ q, j = q + 1 := ⟨j - 1, by omega⟩
        rcases i with _ | i
        · simp only [List.getElem_cons_succ, List.getElem_cons_zero]
          rcases j with _ | j
          · exact .one he
          · exact (ht 0 (j + 1) (by simp) (by simpa using hj) (by omega)).more he
        · simp only [List.getElem_cons_succ]
          exact ht i j (by simpa using hi) (by simpa using hj) (by omega)
  obtain ⟨p, hp, hm, ht⟩ := walk left.length
  have hnd : ¬ p.Nodup := fun h => by have := nodup_len h hm; omega
  obtain ⟨i, j, hi, hj, hij, e⟩ := dup_of hnd
  have := ht i j hi hj hij
  rw [e] at this
  exact ⟨_, this⟩
theorem loop_circ (es : Es) : ∀ (k : Nat) (left done : List Int), left.length < k → (∀ x ∈ nodes es, x ∈ left ∨ x ∈ done) → (ordLoop es k left done).2 = false → ∃ x, TC es x x
  | 0, _, _, h, _, _ => by omega
  | k + 1, left, done, hk, hall, ht => by
    unfold ordLoop at ht
    split at ht
    · simp at ht
    · rename_i h0
      cases hf : left.findIdx? (free es done) with
      | none =>
        rw [List.findIdx?_eq_none_iff] at hf
        exact stuck_circ h0 hall hf
      | some i =>
        rw [hf] at ht
        obtain ⟨hil, _, _⟩ := List.findIdx?_eq_some_iff_getElem.1 hf
        have hgd : left.getD i 0 = left[i] := by rw [List.getD_eq_getElem?_getD, List.getElem?_eq_getElem hil]; rfl
        simp only [hgd] at ht
        refine loop_circ es k _ _ (by rw [List.length_eraseIdx_of_lt hil]; omega) (fun x hx => ?_) ht
        have := (erase_perm (d := done) hil).mem_iff (a := x)
        exact List.mem_append.1 (this.2 (List.mem_append.2 (hall x hx)))
theorem ord_circ (es : Es) : (ordL es).2 = decide (circL es = []) := by
  cases h : (ordL es).2 with
  | true => rw [ord_no_circ h]; simp
  | false =>
    obtain ⟨x, hx⟩ := loop_circ es _ (allL es) [] (by omega) (fun x hx => .inl (mem_allL.2 hx)) h
    have : circL es ≠ [] := fun e => by have := mem_circL.2 hx; rw [e] at this; cases this
    simp [this]
end Go.Proofs.Wm
