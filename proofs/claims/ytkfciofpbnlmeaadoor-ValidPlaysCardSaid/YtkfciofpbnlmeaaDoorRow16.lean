/- Arguments of this chapter, opened. -/
import Derived.Test.YtkfciofpbnlmeaaDoorRowK
import Derived.Test.YtkfciofpbnlmeaaDoorVi
import Derived.SliceStrings
import Derived.ChangeMaps5
import Derived.Lib.SmallJoins
namespace Go.Proofs.YtkfciofpbnlmeaaDoor
open Go.Proofs.BL Go.Proofs.Vl Go.ChangeShapes Go.WideShapes Go.ChangeAt Go.RowKit Go.Deep Go.Proofs.Ky
set_option maxRecDepth 100000
set_option linter.unusedVariables false
def In64_ (x : Int) : Prop := -9223372036854775808 ≤ x ∧ x ≤ 9223372036854775807
theorem lit_i64 {n : Int} (h : (Lit.int .i64 n).wf = true) : In64_ n := by
  have h2 := Bool.and_eq_true_iff.1 (show (decide (IntKind.i64.min ≤ n) && decide (n ≤ IntKind.i64.max)) = true from h)
  exact ⟨of_decide_eq_true h2.1, of_decide_eq_true h2.2⟩
theorem lsw_of {w : World} {A : Option Addr} {L : List (List Str × Option Addr × Nat)} (hr : RowsAt w 1 A (L.map fun x => [.slice x.2.1 x.1.length x.2.2])) (hw : ∀ x ∈ L, x.1.length ≤ x.2.2 ∧ RowsAt w 1 x.2.1 (rwS x.1) ∧ x.1.length ≤ 9223372036854775807 ∧ ∀ o ∈ x.1, True) :
    LsW w A (L.map fun x => x.1) ∧ ∀ r ∈ (L.map fun x => x.1), r.length ≤ 9223372036854775807 := by
  refine ⟨fun i r hi => ?_, fun r hr => ?_⟩
  · rw [List.getElem?_map] at hi
    obtain ⟨x, hx, rfl⟩ := Option.map_eq_some_iff.1 hi
    obtain ⟨b, o, e, hc⟩ := hr i [.slice x.2.1 x.1.length x.2.2] (by rw [List.getElem?_map, hx]; rfl)
    have h := hw x (List.mem_of_getElem? hx)
    refine ⟨b, o, x.2.1, x.2.2, e, ?_, h.1, h.2.1⟩
    have := hc 0 _ rfl
    rw [Nat.mul_one, Nat.add_zero] at this
    exact this
  · obtain ⟨x, hx, rfl⟩ := List.mem_map.1 hr
    exact (hw x hx).2.2.1
section
variable {H : Type} {enc : TypeId × Value → H} {w : World} {base : Nat} {spare : Nat → Bool} {held : Bool}
theorem txs_of_trod {fuel : Nat} {cs : List Value} {x : DataW H × List MemPlace} (h : DataW.trod enc Tryd.prog w base spare held fuel 23 cs = some x) :
    ∃ (l : List Str) (A : Option Addr) (c : Nat), cs = [.slice A l.length c] ∧ l.length ≤ c ∧ RowsAt w 1 A (rwS l) ∧ l.length ≤ 9223372036854775807 ∧ ∀ o ∈ l, True := by
  rcases open_strings Tryd.underlying23 Tryd.underlying9 (by kernel_rfl) h with ⟨hcs, _⟩ | ⟨a, len, cap, ss, hcs, _, hl, hm, hlen, _, hc, _⟩
  · exact ⟨[], none, 0, hcs, Nat.le_refl _, RowsAt.nil _ _ _, by simp, fun _ _ => trivial⟩
  · have hsl : len ≤ ss.length := by rw [hlen]; split <;> omega
    have hln : (ss.take len).length = len := by rw [List.length_take]; omega
    refine ⟨ss.take len, some a, cap, by rw [hln]; exact hcs, by rw [hln]; exact hl, rowsAt_of_cells (by decide) (fun i r hr => ?_), by rw [hln]; simp only [maxLen] at *; omega, fun _ _ => trivial⟩
    rw [rwS, List.getElem?_map, List.getElem?_take] at hr
    split at hr
    · rename_i hi
      obtain ⟨x, hx, rfl⟩ := Option.map_eq_some_iff.1 hr
      refine ⟨rfl, fun j u hj => ?_⟩
      cases j with
      | succ j => simp [enS] at hj
      | zero =>
        simp [enS] at hj
        subst hj
        have := hc i (by omega)
        rwa [List.getD, hx, show i = i * 1 + 0 from by omega] at this
    · simp at hr
theorem open_txs {v : Value} {d : DataW H} {p : List MemPlace} {b0 : Nat} {r : Reach} (hv : Value.okWide Tryd.prog w r b0 23 v) (h : DataW.Trod enc Tryd.prog w base spare held 23 v d p) :
    ∃ (l : List Str) (A : Option Addr) (c : Nat), v = .slice A l.length c ∧ l.length ≤ c ∧ RowsAt w 1 A (rwS l) ∧ l.length ≤ 9223372036854775807 := by
  obtain ⟨a0, len0, cap0, rfl⟩ := okWide_slice Tryd.underlying23 hv
  obtain ⟨fuel, hf⟩ := h
  obtain ⟨l, A, c, e, h1, h2, h3, _⟩ := txs_of_trod hf
  exact ⟨l, A, c, by simpa [Value.cells] using e, h1, h2, h3⟩
theorem open_lsts {v : Value} {d : DataW H} {p : List MemPlace} {b0 : Nat} {r : Reach} (hv : Value.okWide Tryd.prog w r b0 22 v) (h : DataW.Trod enc Tryd.prog w base spare held 22 v d p) :
    ∃ (L : List (List Str × Option Addr × Nat)) (A : Option Addr) (c : Nat), v = .slice A L.length c ∧ L.length ≤ c ∧ RowsAt w 1 A (L.map fun x => [.slice x.2.1 x.1.length x.2.2]) ∧ L.length ≤ 9223372036854775807 ∧
      ∀ x ∈ L, x.1.length ≤ x.2.2 ∧ RowsAt w 1 x.2.1 (rwS x.1) ∧ x.1.length ≤ 9223372036854775807 ∧ ∀ o ∈ x.1, True := by
  obtain ⟨a0, len0, cap0, rfl⟩ := okWide_slice Tryd.underlying22 hv
  obtain ⟨fuel, hf⟩ := h
  rcases open_slice Tryd.underlying22 hf with ⟨hcs, _⟩ | ⟨a, len, cap, m, n, D, Pl, hcs, hb, hl, hm, hmm, hx, hi⟩
  · obtain ⟨rfl, rfl, rfl⟩ : a0 = none ∧ len0 = 0 ∧ cap0 = 0 := by simpa [Value.cells] using hcs
    exact ⟨[], none, 0, rfl, Nat.le_refl _, RowsAt.nil _ _ _, by simp, fun x hx => by cases hx⟩
  · obtain ⟨rfl, rfl, rfl⟩ : a0 = some a ∧ len0 = len ∧ cap0 = cap := by simpa [Value.cells] using hcs
    have hC : Tryd.prog.cellsOf 23 = 1 := by kernel_rfl
    have hx : ∀ i, i < len0 → ∃ x : List Str × Option Addr × Nat, w.cell? (a.add i) = some (.slice x.2.1 x.1.length x.2.2) ∧ x.1.length ≤ x.2.2 ∧ RowsAt w 1 x.2.1 (rwS x.1) ∧ x.1.length ≤ 9223372036854775807 ∧ ∀ o ∈ x.1, True := fun i hil => by
      obtain ⟨cs', hc, ht'⟩ := hi i (by rw [hmm]; split <;> omega)
      rw [hC] at hc
      obtain ⟨l, A, c, e, h1, h2, h3, h4⟩ := txs_of_trod ht'
      subst e
      obtain ⟨_, hcl, hat⟩ := World.cells?_some hc
      have := hat 0 (by decide)
      rw [Nat.mul_one] at this
      have e0 : (a.add i).add 0 = a.add i := by simp [Addr.add]
      rw [e0] at this
      exact ⟨(l, A, c), by rw [this]; rfl, h1, h2, h3, h4⟩
    haveI : Inhabited (List Str × Option Addr × Nat) := ⟨([], none, 0)⟩
    obtain ⟨f, hf⟩ := choose_lt hx
    refine ⟨(List.range len0).map f, some a, cap0, by simp, by simpa using hl, ?_, by simpa [maxLen] using Nat.le_trans hl hm, fun o ho => ?_⟩
    · refine rowsAt_of_cells (by decide) (fun i r hr => ?_)
      rw [List.getElem?_map, List.getElem?_map] at hr
      obtain ⟨x, hx1, rfl⟩ := Option.map_eq_some_iff.1 hr
      obtain ⟨k, hk, rfl⟩ := Option.map_eq_some_iff.1 hx1
      have hil : i < len0 := by
        have := (List.getElem?_eq_some_iff.1 hk).1
        simpa using this
      have hki : k = i := by
        have := (List.getElem?_eq_some_iff.1 hk).2
        simpa using this.symm
      subst hki
      refine ⟨rfl, fun j u hj => ?_⟩
      cases j with
      | zero =>
        simp at hj
        subst hj
        rw [Nat.mul_one, Nat.add_zero]
        exact (hf _ hil).1
      | succ j => simp at hj
    · obtain ⟨k, hk, rfl⟩ := List.mem_map.1 ho
      exact (hf k (List.mem_range.1 hk)).2
end
end Go.Proofs.YtkfciofpbnlmeaaDoor
