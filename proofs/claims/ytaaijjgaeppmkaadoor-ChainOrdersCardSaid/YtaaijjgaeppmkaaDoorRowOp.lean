/- A slice of calls, opened. -/
import Derived.Test.YtaaijjgaeppmkaaDoorRowK
import Derived.Test.YtaaijjgaeppmkaaDoorCt
namespace Go.Proofs.YtaaijjgaeppmkaaDoor
open Go.Proofs.BL Go.ChangeShapes Go.WideShapes Go.ChangeAt Go.RowKit Go.Deep
set_option maxRecDepth 100000
set_option linter.unusedVariables false

section
variable {H : Type} {enc : TypeId × Value → H} {w : World} {base : Nat} {spare : Nat → Bool} {held : Bool}
/-- A slice of calls, opened. -/
theorem open_ops {v : Value} {d : DataW H} {p : List MemPlace} {b0 : Nat} {r : Reach} (hv : Value.okWide Tryd.prog w r b0 22 v) (h : DataW.Trod enc Tryd.prog w base spare held 22 v d p) :
    ∃ (l : List Opn) (A : Option Addr) (c : Nat), v = .slice A l.length c ∧ l.length ≤ c ∧ RowsAt w 4 A (l.map Opn.enc) ∧ l.length ≤ 9223372036854775807 := by
  obtain ⟨a0, len0, cap0, rfl⟩ := okWide_slice Tryd.underlying22 hv
  obtain ⟨fuel, hf⟩ := h
  rcases open_slice_fields Tryd.underlying22 Tryd.underlying27 (by kernel_rfl) (by kernel_rfl) hf with hcs | ⟨a, len, cap, hcs, hl, hm, hi⟩
  · obtain ⟨rfl, rfl, rfl⟩ : a0 = none ∧ len0 = 0 ∧ cap0 = 0 := by simpa [Value.cells] using hcs
    exact ⟨[], none, 0, rfl, Nat.le_refl _, RowsAt.nil _ _ _, by simp⟩
  · obtain ⟨rfl, rfl, rfl⟩ : a0 = some a ∧ len0 = len ∧ cap0 = cap := by simpa [Value.cells] using hcs
    have hx : ∀ i, i < len0 → ∃ x : Opn, ∀ j u, x.enc[j]? = some u → w.cell? (a.add (i * 4 + j)) = some u := fun i hil => by
      obtain ⟨v0, y0, n0, c0, t0⟩ := hi i hil 0 _ rfl
      obtain ⟨v1, y1, n1, c1, t1⟩ := hi i hil 1 _ rfl
      obtain ⟨v2, y2, n2, c2, t2⟩ := hi i hil 2 _ rfl
      obtain ⟨v3, y3, n3, c3, t3⟩ := hi i hil 3 _ rfl
      obtain ⟨x0, e0, _, _⟩ := DataW.trod_int Tryd.underlying3 t0
      obtain ⟨x1, e1, _, _⟩ := DataW.trod_int Tryd.underlying3 t1
      obtain ⟨x2, e2, _, _⟩ := DataW.trod_int Tryd.underlying2 t2
      obtain ⟨x3, e3, _⟩ := DataW.trod_bool Tryd.underlying4 t3
      simp only [List.cons.injEq, and_true] at e0 e1 e2 e3
      subst e0 e1 e2 e3
      refine ⟨⟨x0, x1, x2, x3⟩, fun j u hj => ?_⟩
      unfold Opn.enc at hj
      rcases j with _ | _ | _ | _ | j
      · simp at hj; subst hj; exact c0
      · simp at hj; subst hj; exact c1
      · simp at hj; subst hj; exact c2
      · simp at hj; subst hj; exact c3
      · simp at hj
    haveI : Inhabited Opn := ⟨⟨0, 0, 0, false⟩⟩
    obtain ⟨f, hf⟩ := choose_lt hx
    refine ⟨(List.range len0).map f, some a, cap0, by simp, by simpa using hl, ?_, by simpa [maxLen] using Nat.le_trans hl hm⟩
    refine rowsAt_of_cells (by decide) (fun i r hr => ?_)
    rw [List.getElem?_map, List.getElem?_map] at hr
    obtain ⟨x, hx1, rfl⟩ := Option.map_eq_some_iff.1 hr
    obtain ⟨k, hk, rfl⟩ := Option.map_eq_some_iff.1 hx1
    have hil : i < len0 := by
      have := (List.getElem?_eq_some_iff.1 hk).1
      simpa using this
    have hki : k = i := by
      have := (List.getElem?_eq_some_iff.1 hk).2
      simpa using this.symm
    subst hki
    exact ⟨rfl, hf _ hil⟩
end
end Go.Proofs.YtaaijjgaeppmkaaDoor
