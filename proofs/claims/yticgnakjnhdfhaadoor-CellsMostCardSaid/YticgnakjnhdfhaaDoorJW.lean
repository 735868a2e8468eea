/- Arguments of this chapter, opened. -/
import Derived.Test.YticgnakjnhdfhaaDoorJR
import Derived.Test.YticgnakjnhdfhaaDoorJB
import Derived.Test.YticgnakjnhdfhaaDoorJP
import Derived.Lib.SmallJoins
section
namespace Go.Proofs.YticgnakjnhdfhaaDoor
open Go.Proofs.BL Go.ChangeShapes Go.WideShapes Go.ChangeAt Go.RowKit Go.Deep Go.Proofs.Ky
set_option maxRecDepth 100000
set_option linter.unusedVariables false
theorem lit_i64 {n : Int} (h : (Lit.int .i64 n).wf = true) : in64 n := by
  have h2 := Bool.and_eq_true_iff.1 (show (decide (IntKind.i64.min ≤ n) && decide (n ≤ IntKind.i64.max)) = true from h)
  exact ⟨of_decide_eq_true h2.1, of_decide_eq_true h2.2⟩
section
variable {H : Type} {enc : TypeId × Value → H} {w : World} {base : Nat} {spare : Nat → Bool} {held : Bool}
theorem rows_of_trod {fuel : Nat} {cs : List Value} {x : DataW H × List MemPlace} (h : DataW.trod enc Tryd.prog w base spare held fuel 22 cs = some x) :
    ∃ (l : List Rw) (A : Option Addr) (c : Nat), cs = [.slice A l.length c] ∧ l.length ≤ c ∧ RowsAt w 2 A (rwR l) ∧ l.length ≤ 9223372036854775807 ∧ ∀ o ∈ l, in64 o.2 := by
  rcases open_slice_fields Tryd.underlying22 Tryd.underlying49 (by kernel_rfl) (by kernel_rfl) h with hcs | ⟨a, len, cap, hcs, hl, hm, hi⟩
  · exact ⟨[], none, 0, hcs, Nat.le_refl _, RowsAt.nil _ _ _, by simp, fun o ho => by cases ho⟩
  · have hx : ∀ i, i < len → ∃ o : Rw, (∀ j u, (enR o)[j]? = some u → w.cell? (a.add (i * 2 + j)) = some u) ∧ (in64 o.2) := fun i hil => by
      obtain ⟨v0, y0, n0, c0, t0⟩ := hi i hil 0 _ rfl
      obtain ⟨v1, y1, n1, c1, t1⟩ := hi i hil 1 _ rfl
      obtain ⟨x0, e0, _, g0⟩ := DataW.trod_string Tryd.underlying9 t0
      obtain ⟨x1, e1, _, g1⟩ := DataW.trod_int Tryd.underlying2 t1
      simp only [List.cons.injEq, and_true] at e0 e1
      subst e0 e1
      have q1 := lit_i64 g1
      refine ⟨(x0, x1), fun j u hj => ?_, by first | exact trivial | (refine ⟨?_, ?_⟩ <;> assumption) | assumption | (exact ⟨by assumption, by assumption, by assumption⟩)⟩
      unfold enR at hj
      rcases j with _ | _ | j
      · simp at hj; subst hj; exact c0
      · simp at hj; subst hj; exact c1
      · simp at hj
    haveI : Inhabited (Rw) := ⟨(⟨#[]⟩, 0)⟩
    obtain ⟨f, hf⟩ := choose_lt hx
    refine ⟨(List.range len).map f, some a, cap, by rw [hcs]; simp, by simpa using hl, ?_, by simpa [maxLen] using Nat.le_trans hl hm, fun o ho => ?_⟩
    · refine rowsAt_of_cells (by decide) (fun i r hr => ?_)
      rw [rwR, List.getElem?_map, List.getElem?_map] at hr
      obtain ⟨x, hx1, rfl⟩ := Option.map_eq_some_iff.1 hr
      obtain ⟨k, hk, rfl⟩ := Option.map_eq_some_iff.1 hx1
      have hil : i < len := by
        have := (List.getElem?_eq_some_iff.1 hk).1
        simpa using this
      have hki : k = i := by
        have := (List.getElem?_eq_some_iff.1 hk).2
        simpa using this.symm
      subst hki
      exact ⟨rfl, (hf _ hil).1⟩
    · obtain ⟨k, hk, rfl⟩ := List.mem_map.1 ho
      exact (hf k (List.mem_range.1 hk)).2
theorem open_rows {v : Value} {d : DataW H} {p : List MemPlace} {b0 : Nat} {r : Reach} (hv : Value.okWide Tryd.prog w r b0 22 v) (h : DataW.Trod enc Tryd.prog w base spare held 22 v d p) :
    ∃ (l : List Rw) (A : Option Addr) (c : Nat), v = .slice A l.length c ∧ l.length ≤ c ∧ RowsAt w 2 A (rwR l) ∧ l.length ≤ 9223372036854775807 ∧ ∀ o ∈ l, in64 o.2 := by
  obtain ⟨a0, len0, cap0, rfl⟩ := okWide_slice Tryd.underlying22 hv
  obtain ⟨fuel, hf⟩ := h
  obtain ⟨l, A, c, e, h1, h2, h3, h4⟩ := rows_of_trod hf
  have e2 : Value.slice a0 len0 cap0 = .slice A l.length c := by simpa [Value.cells] using e
  exact ⟨l, A, c, e2, h1, h2, h3, h4⟩
theorem ops_of_trod {fuel : Nat} {cs : List Value} {x : DataW H × List MemPlace} (h : DataW.trod enc Tryd.prog w base spare held fuel 27 cs = some x) :
    ∃ (l : List Opr) (A : Option Addr) (c : Nat), cs = [.slice A l.length c] ∧ l.length ≤ c ∧ RowsAt w 4 A (rwO l) ∧ l.length ≤ 9223372036854775807 ∧ ∀ o ∈ l, in64 o.n ∧ in64 o.lo := by
  rcases open_slice_fields Tryd.underlying27 Tryd.underlying42 (by kernel_rfl) (by kernel_rfl) h with hcs | ⟨a, len, cap, hcs, hl, hm, hi⟩
  · exact ⟨[], none, 0, hcs, Nat.le_refl _, RowsAt.nil _ _ _, by simp, fun o ho => by cases ho⟩
  · have hx : ∀ i, i < len → ∃ o : Opr, (∀ j u, (enO o)[j]? = some u → w.cell? (a.add (i * 4 + j)) = some u) ∧ (in64 o.n ∧ in64 o.lo) := fun i hil => by
      obtain ⟨v0, y0, n0, c0, t0⟩ := hi i hil 0 _ rfl
      obtain ⟨v1, y1, n1, c1, t1⟩ := hi i hil 1 _ rfl
      obtain ⟨v2, y2, n2, c2, t2⟩ := hi i hil 2 _ rfl
      obtain ⟨v3, y3, n3, c3, t3⟩ := hi i hil 3 _ rfl
      obtain ⟨x0, e0, _, g0⟩ := DataW.trod_int Tryd.underlying3 t0
      obtain ⟨x1, e1, _, g1⟩ := DataW.trod_string Tryd.underlying9 t1
      obtain ⟨x2, e2, _, g2⟩ := DataW.trod_int Tryd.underlying2 t2
      obtain ⟨x3, e3, _, g3⟩ := DataW.trod_int Tryd.underlying2 t3
      simp only [List.cons.injEq, and_true] at e0 e1 e2 e3
      subst e0 e1 e2 e3
      have q0 := lit_i64 g0
      have q2 := lit_i64 g2
      have q3 := lit_i64 g3
      refine ⟨⟨x0, x1, x2, x3⟩, fun j u hj => ?_, by first | exact trivial | (refine ⟨?_, ?_⟩ <;> assumption) | assumption | (exact ⟨by assumption, by assumption, by assumption⟩)⟩
      unfold enO at hj
      rcases j with _ | _ | _ | _ | j
      · simp at hj; subst hj; exact c0
      · simp at hj; subst hj; exact c1
      · simp at hj; subst hj; exact c2
      · simp at hj; subst hj; exact c3
      · simp at hj
    haveI : Inhabited (Opr) := ⟨⟨0, ⟨#[]⟩, 0, 0⟩⟩
    obtain ⟨f, hf⟩ := choose_lt hx
    refine ⟨(List.range len).map f, some a, cap, by rw [hcs]; simp, by simpa using hl, ?_, by simpa [maxLen] using Nat.le_trans hl hm, fun o ho => ?_⟩
    · refine rowsAt_of_cells (by decide) (fun i r hr => ?_)
      rw [rwO, List.getElem?_map, List.getElem?_map] at hr
      obtain ⟨x, hx1, rfl⟩ := Option.map_eq_some_iff.1 hr
      obtain ⟨k, hk, rfl⟩ := Option.map_eq_some_iff.1 hx1
      have hil : i < len := by
        have := (List.getElem?_eq_some_iff.1 hk).1
        simpa using this
      have hki : k = i := by
        have := (List.getElem?_eq_some_iff.1 hk).2
        simpa using this.symm
      subst hki
      exact ⟨rfl, (hf _ hil).1⟩
    · obtain ⟨k, hk, rfl⟩ := List.mem_map.1 ho
      exact (hf k (List.mem_range.1 hk)).2
theorem open_ops {v : Value} {d : DataW H} {p : List MemPlace} {b0 : Nat} {r : Reach} (hv : Value.okWide Tryd.prog w r b0 27 v) (h : DataW.Trod enc Tryd.prog w base spare held 27 v d p) :
    ∃ (l : List Opr) (A : Option Addr) (c : Nat), v = .slice A l.length c ∧ l.length ≤ c ∧ RowsAt w 4 A (rwO l) ∧ l.length ≤ 9223372036854775807 ∧ ∀ o ∈ l, in64 o.n ∧ in64 o.lo := by
  obtain ⟨a0, len0, cap0, rfl⟩ := okWide_slice Tryd.underlying27 hv
  obtain ⟨fuel, hf⟩ := h
  obtain ⟨l, A, c, e, h1, h2, h3, h4⟩ := ops_of_trod hf
  have e2 : Value.slice a0 len0 cap0 = .slice A l.length c := by simpa [Value.cells] using e
  exact ⟨l, A, c, e2, h1, h2, h3, h4⟩
theorem open_lists {v : Value} {d : DataW H} {p : List MemPlace} {b0 : Nat} {r : Reach} (hv : Value.okWide Tryd.prog w r b0 23 v) (h : DataW.Trod enc Tryd.prog w base spare held 23 v d p) :
    ∃ (L : List (List Opr × Option Addr × Nat)) (A : Option Addr) (c : Nat), v = .slice A L.length c ∧ L.length ≤ c ∧ RowsAt w 1 A (L.map fun x => [.slice x.2.1 x.1.length x.2.2]) ∧ L.length ≤ 9223372036854775807 ∧
      ∀ x ∈ L, x.1.length ≤ x.2.2 ∧ RowsAt w 4 x.2.1 (rwO x.1) ∧ x.1.length ≤ 9223372036854775807 ∧ ∀ o ∈ x.1, in64 o.n ∧ in64 o.lo := by
  obtain ⟨a0, len0, cap0, rfl⟩ := okWide_slice Tryd.underlying23 hv
  obtain ⟨fuel, hf⟩ := h
  rcases open_slice Tryd.underlying23 hf with ⟨hcs, _⟩ | ⟨a, len, cap, m, n, D, Pl, hcs, hb, hl, hm, hmm, hx, hi⟩
  · obtain ⟨rfl, rfl, rfl⟩ : a0 = none ∧ len0 = 0 ∧ cap0 = 0 := by simpa [Value.cells] using hcs
    exact ⟨[], none, 0, rfl, Nat.le_refl _, RowsAt.nil _ _ _, by simp, fun x hx => by cases hx⟩
  · obtain ⟨rfl, rfl, rfl⟩ : a0 = some a ∧ len0 = len ∧ cap0 = cap := by simpa [Value.cells] using hcs
    have hC : Tryd.prog.cellsOf 27 = 1 := by kernel_rfl
    have hx : ∀ i, i < len0 → ∃ x : List Opr × Option Addr × Nat, w.cell? (a.add i) = some (.slice x.2.1 x.1.length x.2.2) ∧ x.1.length ≤ x.2.2 ∧ RowsAt w 4 x.2.1 (rwO x.1) ∧ x.1.length ≤ 9223372036854775807 ∧ ∀ o ∈ x.1, in64 o.n ∧ in64 o.lo := fun i hil => by
      obtain ⟨cs', hc, ht'⟩ := hi i (by rw [hmm]; split <;> omega)
      rw [hC] at hc
      obtain ⟨l, A, c, e, h1, h2, h3, h4⟩ := ops_of_trod ht'
      subst e
      obtain ⟨_, hcl, hat⟩ := World.cells?_some hc
      have := hat 0 (by decide)
      rw [Nat.mul_one] at this
      have e0 : (a.add i).add 0 = a.add i := by simp [Addr.add]
      rw [e0] at this
      exact ⟨(l, A, c), by rw [this]; rfl, h1, h2, h3, h4⟩
    haveI : Inhabited (List Opr × Option Addr × Nat) := ⟨([], none, 0)⟩
    obtain ⟨f, hf⟩ := choose_lt hx
    refine ⟨(List.range len0).map f, some a, cap0, by simp, by simpa using hl, ?_, by simpa [maxLen] using Nat.le_trans hl hm, fun o ho => ?_⟩
    · refine rowsAt_of_cells (by decide) (fun i r hr => ?_)
      rw [List.getElem?_map, List.getElem?_map] at hr
      obtain ⟨x, hx1, rfl⟩ := Option.map_eq_some_iff.1 hr
      obtain ⟨k, hk, rfl⟩ := Option.map_eq_some_iff.1 hx1
      have hil : i < len0 := by
        have := (List.getElem?_eq_some_iff.1 hk).1
        simpa using this
      have hki : k = i := by
        have := (List.getElem?_eq_some_iff.1 hk).2
        simpa using this.symm
      subst hki
      refine ⟨rfl, fun j u hj => ?_⟩
      cases j with
      | zero =>
        simp at hj
        subst hj
        rw [Nat.mul_one, Nat.add_zero]
        exact (hf _ hil).1
      | succ j => simp at hj
    · obtain ⟨k, hk, rfl⟩ := List.mem_map.1 ho
      exact (hf k (List.mem_range.1 hk)).2
theorem open_op1 {v : Value} {d : DataW H} {p : List MemPlace} {b0 : Nat} {r : Reach} (hv : Value.okWide Tryd.prog w r b0 42 v) (h : DataW.Trod enc Tryd.prog w base spare held 42 v d p) :
    ∃ o : Opr, v = .agg (enO o).toArray ∧ in64 o.n ∧ in64 o.lo := by
  obtain ⟨v0, v1, v2, v3, y0, y1, y2, y3, n, rfl, _, _, t0, t1, t2, t3⟩ := Go.Joins.open_agg4 Tryd.underlying42 (by kernel_rfl) (by kernel_rfl) hv h
  obtain ⟨x0, e0, _, g0⟩ := DataW.trod_int Tryd.underlying3 t0
  obtain ⟨x1, e1, _, g1⟩ := DataW.trod_string Tryd.underlying9 t1
  obtain ⟨x2, e2, _, g2⟩ := DataW.trod_int Tryd.underlying2 t2
  obtain ⟨x3, e3, _, g3⟩ := DataW.trod_int Tryd.underlying2 t3
  simp only [List.cons.injEq, and_true] at e0 e1 e2 e3
  subst e0 e1 e2 e3
  have q2 := lit_i64 g2
  have q3 := lit_i64 g3
  exact ⟨⟨x0, x1, x2, x3⟩, rfl, by first | exact ⟨q2, q3⟩ | exact q2⟩
end
end Go.Proofs.YticgnakjnhdfhaaDoor
end
