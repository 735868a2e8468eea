/- Arguments of this chapter, opened. -/
import Derived.Test.YtkfciofpbnlmeaaDoorRowK
import Derived.Test.YtkfciofpbnlmeaaDoorRow16
import Derived.Test.YtkfciofpbnlmeaaDoorVn
namespace Go.Proofs.YtkfciofpbnlmeaaDoor
open Go.Proofs.BL Go.Proofs.Vl Go.ChangeShapes Go.WideShapes Go.ChangeAt Go.RowKit Go.Deep Go.Proofs.Ky
set_option maxRecDepth 100000
set_option linter.unusedVariables false
section
variable {H : Type} {enc : TypeId × Value → H} {w : World} {base : Nat} {spare : Nat → Bool} {held : Bool}
theorem opms_of_trod {fuel : Nat} {cs : List Value} {x : DataW H × List MemPlace} (h : DataW.trod enc Tryd.prog w base spare held fuel 34 cs = some x) :
    ∃ (l : List Opm) (A : Option Addr) (c : Nat), cs = [.slice A l.length c] ∧ l.length ≤ c ∧ RowsAt w 4 A (rwO l) ∧ l.length ≤ 9223372036854775807 ∧ ∀ x ∈ l, RowsAt w 1 x.2.1 (rwS x.1.l) ∧ x.1.l.length ≤ 9223372036854775807 ∧ -9223372036854775808 ≤ x.1.n ∧ x.1.n ≤ 9223372036854775807 := by
  rcases open_slice_fields Tryd.underlying34 Tryd.underlying39 (by kernel_rfl) (by kernel_rfl) h with hcs | ⟨a, len, cap, hcs, hl, hm, hi⟩
  · exact ⟨[], none, 0, hcs, Nat.le_refl _, RowsAt.nil _ _ _, by simp, fun o ho => by cases ho⟩
  · have hx : ∀ i, i < len → ∃ x : Opm, (∀ j u, (enO x)[j]? = some u → w.cell? (a.add (i * 4 + j)) = some u) ∧ (RowsAt w 1 x.2.1 (rwS x.1.l) ∧ x.1.l.length ≤ 9223372036854775807 ∧ -9223372036854775808 ≤ x.1.n ∧ x.1.n ≤ 9223372036854775807) := fun i hil => by
      obtain ⟨v0, y0, n0, c0, t0⟩ := hi i hil 0 _ rfl
      obtain ⟨v1, y1, n1, c1, t1⟩ := hi i hil 1 _ rfl
      obtain ⟨v2, y2, n2, c2, t2⟩ := hi i hil 2 _ rfl
      obtain ⟨v3, y3, n3, c3, t3⟩ := hi i hil 3 _ rfl
      obtain ⟨x0, e0, _, g0⟩ := DataW.trod_int Tryd.underlying3 t0
      obtain ⟨x1, e1, _⟩ := DataW.trod_bool Tryd.underlying4 t1
      obtain ⟨x2, e2, _, g2⟩ := DataW.trod_int Tryd.underlying3 t2
      obtain ⟨x3, A3, d3, e3, _, hr3, hm3, _⟩ := txs_of_trod t3
      simp only [List.cons.injEq, and_true] at e0 e1 e2 e3
      subst e0 e1 e2 e3
      have q2 := lit_i64 g2
      refine ⟨(⟨x0, x1, x2, x3⟩, A3, d3), fun j u hj => ?_, hr3, hm3, q2.1, q2.2⟩
      unfold enO at hj
      rcases j with _ | _ | _ | _ | j
      · simp at hj; subst hj; exact c0
      · simp at hj; subst hj; exact c1
      · simp at hj; subst hj; exact c2
      · simp at hj; subst hj; exact c3
      · simp at hj
    haveI : Inhabited Opm := ⟨(⟨0, false, 0, []⟩, none, 0)⟩
    obtain ⟨f, hf⟩ := choose_lt hx
    refine ⟨(List.range len).map f, some a, cap, by rw [hcs]; simp, by simpa using hl, ?_, by simpa [maxLen] using Nat.le_trans hl hm, fun o ho => ?_⟩
    · refine rowsAt_of_cells (by decide) (fun i r hr => ?_)
      rw [rwO, List.getElem?_map, List.getElem?_map] at hr
      obtain ⟨x, hx1, rfl⟩ := Option.map_eq_some_iff.1 hr
      obtain ⟨k, hk, rfl⟩ := Option.map_eq_some_iff.1 hx1
      have hil : i < len := by
        have := (List.getElem?_eq_some_iff.1 hk).1
        simpa using this
      have hki : k = i := by
        have := (List.getElem?_eq_some_iff.1 hk).2
        simpa using this.symm
      subst hki
      exact ⟨rfl, (hf _ hil).1⟩
    · obtain ⟨k, hk, rfl⟩ := List.mem_map.1 ho
      exact (hf k (List.mem_range.1 hk)).2
theorem open_opms {v : Value} {d : DataW H} {p : List MemPlace} {b0 : Nat} {r : Reach} (hv : Value.okWide Tryd.prog w r b0 34 v) (h : DataW.Trod enc Tryd.prog w base spare held 34 v d p) :
    ∃ (l : List Opm) (A : Option Addr) (c : Nat), v = .slice A l.length c ∧ l.length ≤ c ∧ RowsAt w 4 A (rwO l) ∧ l.length ≤ 9223372036854775807 ∧ ∀ x ∈ l, RowsAt w 1 x.2.1 (rwS x.1.l) ∧ x.1.l.length ≤ 9223372036854775807 ∧ -9223372036854775808 ≤ x.1.n ∧ x.1.n ≤ 9223372036854775807 := by
  obtain ⟨a0, len0, cap0, rfl⟩ := okWide_slice Tryd.underlying34 hv
  obtain ⟨fuel, hf⟩ := h
  obtain ⟨l, A, c, e, h1, h2, h3, h4⟩ := opms_of_trod hf
  have e2 : Value.slice a0 len0 cap0 = .slice A l.length c := by simpa [Value.cells] using e
  exact ⟨l, A, c, e2, h1, h2, h3, h4⟩
end
end Go.Proofs.YtkfciofpbnlmeaaDoor
