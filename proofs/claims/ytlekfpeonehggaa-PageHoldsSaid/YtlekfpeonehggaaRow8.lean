/- Arguments of this chapter, opened. -/
import Derived.Test.YtlekfpeonehggaaRowK
import Derived.Test.YtlekfpeonehggaaPo
namespace Go.Proofs.Ytlekfpeonehggaa
open Go.Proofs.BL Go.ChangeShapes Go.WideShapes Go.ChangeAt Go.RowKit Go.Deep Go.Proofs.Ky
set_option maxRecDepth 100000
set_option linter.unusedVariables false
def In64_ (x : Int) : Prop := -9223372036854775808 ≤ x ∧ x ≤ 9223372036854775807
theorem lit_i64 {n : Int} (h : (Lit.int .i64 n).wf = true) : In64_ n := by
  have h2 := Bool.and_eq_true_iff.1 (show (decide (IntKind.i64.min ≤ n) && decide (n ≤ IntKind.i64.max)) = true from h)
  exact ⟨of_decide_eq_true h2.1, of_decide_eq_true h2.2⟩
section
variable {H : Type} {enc : TypeId × Value → H} {w : World} {base : Nat} {spare : Nat → Bool} {held : Bool}
theorem opps_of_trod {fuel : Nat} {cs : List Value} {x : DataW H × List MemPlace} (h : DataW.trod enc Try.prog w base spare held fuel 33 cs = some x) :
    ∃ (l : List Opp) (A : Option Addr) (c : Nat), cs = [.slice A l.length c] ∧ l.length ≤ c ∧ RowsAt w 4 A (rwP l) ∧ l.length ≤ 9223372036854775807 ∧ ∀ o ∈ l, In64_ o.n := by
  rcases open_slice_fields Try.underlying33 Try.underlying36 (by kernel_rfl) (by kernel_rfl) h with hcs | ⟨a, len, cap, hcs, hl, hm, hi⟩
  · exact ⟨[], none, 0, hcs, Nat.le_refl _, RowsAt.nil _ _ _, by simp, fun o ho => by cases ho⟩
  · have hx : ∀ i, i < len → ∃ o : Opp, (∀ j u, (enP o)[j]? = some u → w.cell? (a.add (i * 4 + j)) = some u) ∧ (In64_ o.n) := fun i hil => by
      obtain ⟨v0, y0, n0, c0, t0⟩ := hi i hil 0 _ rfl
      obtain ⟨v1, y1, n1, c1, t1⟩ := hi i hil 1 _ rfl
      obtain ⟨v2, y2, n2, c2, t2⟩ := hi i hil 2 _ rfl
      obtain ⟨v3, y3, n3, c3, t3⟩ := hi i hil 3 _ rfl
      obtain ⟨x0, e0, _, g0⟩ := DataW.trod_int Try.underlying3 t0
      obtain ⟨x1, e1, _, g1⟩ := DataW.trod_string Try.underlying9 t1
      obtain ⟨x2, e2, _, g2⟩ := DataW.trod_string Try.underlying9 t2
      obtain ⟨x3, e3, _, g3⟩ := DataW.trod_int Try.underlying2 t3
      simp only [List.cons.injEq, and_true] at e0 e1 e2 e3
      subst e0 e1 e2 e3
      have q0 := lit_i64 g0
      have q3 := lit_i64 g3
      refine ⟨⟨x0, x1, x2, x3⟩, fun j u hj => ?_, by first | exact trivial | (refine ⟨?_, ?_⟩ <;> assumption) | assumption | (exact ⟨by assumption, by assumption, by assumption⟩)⟩
      unfold enP at hj
      rcases j with _ | _ | _ | _ | j
      · simp at hj; subst hj; exact c0
      · simp at hj; subst hj; exact c1
      · simp at hj; subst hj; exact c2
      · simp at hj; subst hj; exact c3
      · simp at hj
    haveI : Inhabited (Opp) := ⟨⟨0, ⟨#[]⟩, ⟨#[]⟩, 0⟩⟩
    obtain ⟨f, hf⟩ := choose_lt hx
    refine ⟨(List.range len).map f, some a, cap, by rw [hcs]; simp, by simpa using hl, ?_, by simpa [maxLen] using Nat.le_trans hl hm, fun o ho => ?_⟩
    · refine rowsAt_of_cells (by decide) (fun i r hr => ?_)
      rw [rwP, List.getElem?_map, List.getElem?_map] at hr
      obtain ⟨x, hx1, rfl⟩ := Option.map_eq_some_iff.1 hr
      obtain ⟨k, hk, rfl⟩ := Option.map_eq_some_iff.1 hx1
      have hil : i < len := by
        have := (List.getElem?_eq_some_iff.1 hk).1
        simpa using this
      have hki : k = i := by
        have := (List.getElem?_eq_some_iff.1 hk).2
        simpa using this.symm
      subst hki
      exact ⟨rfl, (hf _ hil).1⟩
    · obtain ⟨k, hk, rfl⟩ := List.mem_map.1 ho
      exact (hf k (List.mem_range.1 hk)).2
theorem open_opps {v : Value} {d : DataW H} {p : List MemPlace} {b0 : Nat} {r : Reach} (hv : Value.okWide Try.prog w r b0 33 v) (h : DataW.Trod enc Try.prog w base spare held 33 v d p) :
    ∃ (l : List Opp) (A : Option Addr) (c : Nat), v = .slice A l.length c ∧ l.length ≤ c ∧ RowsAt w 4 A (rwP l) ∧ l.length ≤ 9223372036854775807 ∧ ∀ o ∈ l, In64_ o.n := by
  obtain ⟨a0, len0, cap0, rfl⟩ := okWide_slice Try.underlying33 hv
  obtain ⟨fuel, hf⟩ := h
  obtain ⟨l, A, c, e, h1, h2, h3, h4⟩ := opps_of_trod hf
  have e2 : Value.slice a0 len0 cap0 = .slice A l.length c := by simpa [Value.cells] using e
  exact ⟨l, A, c, e2, h1, h2, h3, h4⟩
end
end Go.Proofs.Ytlekfpeonehggaa
