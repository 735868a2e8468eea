/- What every row of this seat wants: the laid variable as a cell, the witness' world, arguments that are opened. -/
import Derived.Test.YtkfciofpbnlmeaaDoorCards
import Derived.Test.YtkfciofpbnlmeaaDoorTie
import Derived.Test.YtkfciofpbnlmeaaDoorFkb
import Derived.Test.YtkfciofpbnlmeaaDoorSl
import Derived.ProofKit
import Derived.OpenShut
import Derived.Deep.DeepHandedRow
import Derived.Deep.DeepWitnessRowRef
import Derived.LaidHandle
import Derived.Deep.Slices
import Derived.Deep.Fields
import Derived.ChangeSame
import Derived.Carry
namespace Go.Proofs.YtkfciofpbnlmeaaDoor
open Go.Proofs.BL Go.ChangeShapes Go.WideShapes Go.ChangeAt Go.RowKit Go.Deep
set_option maxRecDepth 100000
set_option linter.unusedVariables false

theorem ownK : ownKnob Tryd.prog.godebug = none := by kernel_rfl
theorem gErr : Tryd.prog.globalNamed "errors.errorType" = some 0 := by kernel_rfl
theorem laidO : laidOutB Tryd.prog = true := by kernel_rfl
theorem errRow : (List.range Tryd.prog.types.size).all (fun t => !(Tryd.prog.rowNamed t [101, 114, 114, 111, 114]) || t == 54) = true := by kernel_rfl
theorem rtypeRow : (Tryd.prog.cutTypes.find? (·.1 == "internal/reflectlite.rtype")).map (·.2) = some 115 := by kernel_rfl
theorem hndRow : typeHandle Tryd.prog 54 = .pointer (some ⟨1, 54, none⟩) := by kernel_rfl

/-- What the row's list gives: errors.errorType's cell. -/
theorem errT_of_laid {W : World} (h : laidMetH Tryd.prog [("errors.errorType", Rows.laid_errors_errorType)] W) : ErrT W := by
  obtain ⟨_, hh⟩ := (show laidMet Tryd.prog ([("errors.errorType", Rows.laid_errors_errorType)].filter fun x => x.2.handleName?.isNone) W ∧ handlesMet Tryd.prog [("errors.errorType", Rows.laid_errors_errorType)] W from h)
  obtain ⟨name, u, ty, hn, hu, hlt, hrow, hv⟩ := (show ∃ name u ty, (Rows.laid_errors_errorType (H := Unit)).handleName? = some name ∧ (Tryd.prog.cutTypes.find? (·.1 == "internal/reflectlite.rtype")).map (·.2) = some u ∧ ty < Tryd.prog.types.size ∧ Tryd.prog.rowNamed ty name = true ∧ W.var? Tryd.prog "errors.errorType" = some #[.iface u (.agg #[typeHandle Tryd.prog ty])] from hh _ (List.mem_singleton.2 rfl))
  have e1 : name = [101, 114, 114, 111, 114] := by
    have : (Rows.laid_errors_errorType (H := Unit)).handleName? = some [101, 114, 114, 111, 114] := by kernel_rfl
    exact (Option.some.inj (this.symm.trans hn)).symm
  subst e1
  have e2 : u = 115 := (Option.some.inj (rtypeRow.symm.trans hu)).symm
  subst e2
  have e3 : ty = 54 := by
    have := List.all_eq_true.1 errRow ty (List.mem_range.2 hlt)
    rw [hrow] at this
    simpa using this
  subst e3
  rw [hndRow] at hv
  exact var?_cell gErr hv 0

/-- A world for the witness: the settled one, errors.errorType holding its handle. -/
noncomputable def laidWorld (os : Os) : World :=
  { World.holding Tryd.prog os ⟨#[], #[], []⟩ with heap := (World.holding Tryd.prog os ⟨#[], #[], []⟩).heap.modify 0 fun
      | .cells _ t frozen => .cells #[.iface 115 (.agg #[.pointer (some ⟨1, 54, none⟩)])] t frozen
      | o => o }
theorem laid_met (os : Os) (args : Array Value) : laidMetH Tryd.prog [("errors.errorType", Rows.laid_errors_errorType)] ((laidWorld os).forCall (fun _ _ => 0) ⟨#[], args, []⟩).memory := by
  refine laidMetH_of_parts ?_ ?_
  · rw [show ([("errors.errorType", Rows.laid_errors_errorType (H := Unit))].filter fun x => x.2.handleName?.isNone) = [] from by kernel_rfl]
    exact ⟨[], rfl, List.nodup_nil, fun b off h => by cases h⟩
  · kernel_rfl

/-- A law that answers true, and changes nothing that was there: its post. -/
theorem law_post {H : Type} {enc : TypeId × Value → H} {P : Program} {f : Func} {s : ChangeSpec} {W W' : World} {args : Array Value} {ds gs : List (DataW H)} {before pa : List MemPlace} {tb : TypeId} (hr : f.resultTypes = #[tb]) (hb : P.underlying tb = some .bool)
    (hW : DataW.Whole enc P f.params.toList s.vars false W args.toList ds gs before) (hs : s.vars = [])
    (hres : (s.fn H (ds ++ gs)).results = [.lit (.bool true)]) (hvs : (s.fn H (ds ++ gs)).vars = [])
    (hargs : DataW.TrodAll enc P W' 0 (fun b => decide (b < W.heap.size)) true f.params.toList args.toList (s.fn H (ds ++ gs)).args pa) (hbel : Below W.heap.size W W') :
    s.post enc P f false true false false W args (.bool true) W' := by
  refine ⟨ds, gs, before, [], pa, [], hW, ?_, hargs, ?_, hbel.frame _, fun h => by cases h⟩
  · rw [hres, hr]
    exact trodAll_cons_mk (shut_bool hb _) trodAll_mk0
  · rw [hs, hvs]
    rfl
section
variable {H : Type} {enc : TypeId × Value → H} {P : Program} {w : World} {base : Nat} {spare : Nat → Bool} {held : Bool}
theorem open_slice_fields {t e : TypeId} {fs : Array Field} {fuel : Nat} {cs : List Value} {x : DataW H × List MemPlace} (ht : P.underlying t = some (.slice e)) (he : P.underlying e = some (.struct fs))
    (hone : oneCellFields P fs = true) (hC : P.cellsOf e = fs.size) (h : DataW.trod enc P w base spare held fuel t cs = some x) :
    (cs = [.slice none 0 0]) ∨
    ∃ (a : Addr) (len cap : Nat), cs = [.slice (some a) len cap] ∧ len ≤ cap ∧ cap ≤ maxLen ∧
      ∀ i, i < len → ∀ (j : Nat) (f : Field), fs[j]? = some f → ∃ (v : Value) (y : DataW H × List MemPlace) (n : Nat), w.cell? (a.add (i * fs.size + j)) = some v ∧ DataW.trod enc P w base spare held n f.type [v] = some y := by
  rcases open_slice ht h with ⟨h0, _⟩ | ⟨a, len, cap, m, n, D, Pl, hcs, hb, hl, hm, hmm, hx, hi⟩
  · exact .inl h0
  · refine .inr ⟨a, len, cap, hcs, hl, hm, fun i hil j f hj => ?_⟩
    have him : i < m := by rw [hmm]; split <;> omega
    obtain ⟨cs', hc, ht'⟩ := hi i him
    rw [hC] at hc
    obtain ⟨ys, n', hn', hy, hlen, hyl, hf⟩ := DataW.trod_struct he ht'
    obtain ⟨_, hcl, hat⟩ := World.cells?_some hc
    obtain ⟨ho, hk⟩ := hone_of hone j f hj
    have hjl : j < fs.size := (Array.getElem?_eq_some_iff.1 hj).1
    have hcell := hat j hjl
    have hv : cs'[j]? = some (cs'[j]'(by omega)) := List.getElem?_eq_getElem (by omega)
    have h1 := hf j f hj
    rw [ho, hk] at h1
    have hone' : (cs'.drop j).take 1 = [cs'[j]'(by omega)] := by
      rw [List.drop_eq_getElem_cons (by omega)]
      rfl
    rw [hone'] at h1
    have hys : ys[j]? = some (ys[j]'(by omega)) := List.getElem?_eq_getElem (by omega)
    refine ⟨_, _, n', ?_, h1.trans hys⟩
    rw [← Go.Deep.add_add, hcell, hv]
end
/-- From the cells of a slice's elements to its rows. -/
theorem rowsAt_of_cells {w : World} {a : Addr} {sz : Nat} {rows : List (List Value)} (hs : 0 < sz) (h : ∀ i r, rows[i]? = some r → r.length = sz ∧ ∀ j u, r[j]? = some u → w.cell? (a.add (i * sz + j)) = some u) : RowsAt w sz (some a) rows := by
  intro i r hi
  have hne : 0 < rows.length := by have := (List.getElem?_eq_some_iff.1 hi).1; omega
  have h0 := h 0 rows[0] (List.getElem?_eq_getElem hne)
  have hc0 := h0.2 0 (rows[0][0]'(by omega)) (List.getElem?_eq_getElem (by omega))
  have hsp : a.spot = none := by
    have e : a.add (0 * sz + 0) = a := by simp [Addr.add]
    rw [e] at hc0
    unfold World.cell? at hc0
    split at hc0
    · split at hc0
      · cases hc0
      · rename_i hh
        simpa using hh
    · cases hc0
  obtain ⟨b, o, sp⟩ := a
  simp only at hsp
  subst hsp
  refine ⟨b, o, rfl, fun j u hj => ?_⟩
  have := (h i r hi).2 j u hj
  rwa [show (⟨b, o, none⟩ : Addr).add (i * sz + j) = ⟨b, o + i * sz + j, none⟩ from by unfold Addr.add; split <;> simp_all [Nat.add_assoc]] at this
end Go.Proofs.YtkfciofpbnlmeaaDoor
