/- Arguments of this chapter, opened. -/
import Derived.Test.YtgijnchfonfeaaaDoorRowK
import Derived.Test.YtgijnchfonfeaaaDoorOv
import Derived.SliceStrings
import Derived.ChangeMaps5
import Derived.Lib.SmallJoins
namespace Go.Proofs.YtgijnchfonfeaaaDoor
open Go.Proofs.BL Go.ChangeShapes Go.WideShapes Go.ChangeAt Go.RowKit Go.Deep
set_option maxRecDepth 100000
set_option linter.unusedVariables false
theorem lit_u8 {n : Int} (h : (Lit.int .u8 n).wf = true) : ∃ x : UInt8, n = x.toNat := by
  have h2 := Bool.and_eq_true_iff.1 (show (decide (IntKind.u8.min ≤ n) && decide (n ≤ IntKind.u8.max)) = true from h)
  have h3 : (0 : Int) ≤ n := of_decide_eq_true h2.1
  have h4 : n ≤ 255 := of_decide_eq_true h2.2
  exact ⟨UInt8.ofNat n.toNat, by simp; omega⟩
section
variable {H : Type} {enc : TypeId × Value → H} {w : World} {base : Nat} {spare : Nat → Bool} {held : Bool}
theorem open_bytes {v : Value} {d : DataW H} {p : List MemPlace} {b0 : Nat} {r : Reach} (hv : Value.okWide Tryd.prog w r b0 22 v) (h : DataW.Trod enc Tryd.prog w base spare held 22 v d p) :
    ∃ (l : List UInt8) (A : Option Addr) (c : Nat), v = Value.slice A l.length c ∧ l.length ≤ c ∧ (A = none → c = 0) ∧ RowsAt w 1 A (bys l) ∧ c ≤ 9223372036854775807 := by
  obtain ⟨a0, len0, cap0, rfl⟩ := okWide_slice Tryd.underlying22 hv
  obtain ⟨fuel, hf⟩ := h
  rcases open_ints Tryd.underlying22 Tryd.underlying5 (by kernel_rfl) hf with ⟨hcs, _⟩ | ⟨a, len, cap, zs, hcs, _, hl, hm, hlen, _, hc, hwf⟩
  · obtain ⟨rfl, rfl, rfl⟩ : a0 = none ∧ len0 = 0 ∧ cap0 = 0 := by simpa [Value.cells] using hcs
    exact ⟨[], none, 0, rfl, by simp, fun _ => rfl, RowsAt.nil _ _ _, by decide⟩
  · obtain ⟨rfl, rfl, rfl⟩ : a0 = some a ∧ len0 = len ∧ cap0 = cap := by simpa [Value.cells] using hcs
    have hsl : len0 ≤ zs.length := by rw [hlen]; split <;> omega
    refine ⟨(zs.take len0).map fun z => UInt8.ofNat z.toNat, some a, cap0, by simp [List.length_take, hsl], by simp [List.length_take]; omega, (fun h => by cases h), rowsAt_of_cells (by decide) (fun i r hr => ?_), by simpa [maxLen] using hm⟩
    rw [List.getElem?_map, List.getElem?_map, List.getElem?_take] at hr
    split at hr
    · rename_i hi
      obtain ⟨x, hx, rfl⟩ := Option.map_eq_some_iff.1 hr
      obtain ⟨z, hz, rfl⟩ := Option.map_eq_some_iff.1 hx
      refine ⟨rfl, fun j u hj => ?_⟩
      cases j with
      | succ j => simp [enB] at hj
      | zero =>
        obtain ⟨y, rfl⟩ := lit_u8 (hwf z (List.mem_of_getElem? hz))
        simp [enB] at hj
        subst hj
        have := hc i (by omega)
        rwa [List.getD, hz, show i = i * 1 + 0 from by omega] at this
    · simp at hr
end
end Go.Proofs.YtgijnchfonfeaaaDoor
