/- Slices: as they read, and as a call owns them. What every row of this seat wants: the laid variable as a cell, the witness' world, arguments that are opened. -/
import Derived.Test.YtlekfpeonehggaaGreatDoorJ00
import Derived.OwnWalk
import Derived.Maps.AppendAt
import Derived.Deep.AppendLies
import Derived.Test.YtlekfpeonehggaaGreatDoorCards
import Derived.Test.YtlekfpeonehggaaGreatDoorTie
import Derived.Test.YtlekfpeonehggaaGreatDoorJ01
import Derived.ProofKit
import Derived.OpenShut
import Derived.Deep.DeepHandedRow
import Derived.Deep.DeepWitnessRowRef
import Derived.LaidHandle
import Derived.Deep.Slices
import Derived.Deep.Fields
import Derived.ChangeSame
import Derived.Carry
section
set_option linter.unusedVariables false
namespace Go.Proofs.BL
open Go.RowKit

/-- From address A on stand these rows, sz cells each. -/
def RowsAt (w : World) (sz : Nat) (A : Option Addr) (rows : List (List Value)) : Prop :=
  ∀ i r, rows[i]? = some r → ∃ b o, A = some ⟨b, o, none⟩ ∧ ∀ j u, r[j]? = some u → w.cell? ⟨b, o + i * sz + j, none⟩ = some u
theorem RowsAt.nil (w : World) (sz : Nat) (A : Option Addr) : RowsAt w sz A [] := fun i r h => by simp at h
theorem RowsAt.below {w w' : World} {sz : Nat} {A : Option Addr} {rows : List (List Value)} (h : RowsAt w sz A rows) (hb : Below w.heap.size w w') : RowsAt w' sz A rows := fun i r hi => by
  obtain ⟨b, o, e, hc⟩ := h i r hi
  exact ⟨b, o, e, fun j u hj => (hb.cell (World.block_lt_of_cell? w _ (hc j u hj))).trans (hc j u hj)⟩
theorem RowsAt.fr {S : Nat → Prop} {w w' : World} {sz : Nat} {A : Option Addr} {rows : List (List Value)} (h : RowsAt w sz A rows) (hf : Fr S w w') (hS : ∀ a, A = some a → ¬ S a.block) : RowsAt w' sz A rows := fun i r hi => by
  obtain ⟨b, o, e, hc⟩ := h i r hi
  exact ⟨b, o, e, fun j u hj => (World.cell?_of_block (w := w) (hf.block b (World.block_lt_of_cell? w _ (hc j u hj)) (hS _ e))).trans (hc j u hj)⟩
theorem RowsAt.take {w : World} {sz : Nat} {A : Option Addr} {rows : List (List Value)} (h : RowsAt w sz A rows) (n : Nat) : RowsAt w sz A (rows.take n) := fun i r hi => by
  rw [List.getElem?_take] at hi
  split at hi
  · exact h i r hi
  · cases hi
/-- A slice value that reads as these rows. -/
def SlV (w : World) (sz : Nat) (v : Value) (rows : List (List Value)) : Prop :=
  ∃ A c, v = .slice A rows.length c ∧ rows.length ≤ c ∧ RowsAt w sz A rows
theorem SlV.nil (w : World) (sz : Nat) : SlV w sz (.slice none 0 0) [] := ⟨none, 0, rfl, Nat.le_refl _, RowsAt.nil _ _ _⟩
theorem SlV.below {w w' : World} {sz : Nat} {v : Value} {rows : List (List Value)} (h : SlV w sz v rows) (hb : Below w.heap.size w w') : SlV w' sz v rows := by
  obtain ⟨A, c, e, hl, hr⟩ := h
  exact ⟨A, c, e, hl, hr.below hb⟩

theorem flat_get {rows : List (List Value)} {sz : Nat} (hs : ∀ r, r ∈ rows → r.length = sz) : ∀ {i : Nat} {r : List Value}, rows[i]? = some r → ∀ j u, r[j]? = some u → rows.flatten[i * sz + j]? = some u := by
  induction rows with
  | nil => intro i r h; simp at h
  | cons x xs ih =>
    intro i r h j u hj
    have hx : x.length = sz := hs x (by simp)
    have hjl : j < r.length := (List.getElem?_eq_some_iff.1 hj).1
    cases i with
    | zero =>
      simp at h
      subst h
      rw [List.flatten_cons, Nat.zero_mul, Nat.zero_add, List.getElem?_append_left hjl]
      exact hj
    | succ i =>
      simp at h
      rw [List.flatten_cons, List.getElem?_append_right (by rw [hx, Nat.succ_mul]; omega), hx]
      have : (i + 1) * sz + j - sz = i * sz + j := by rw [Nat.succ_mul]; omega
      rw [this]
      exact ih (fun r hr => hs r (by simp [hr])) h j u hj

/-- What a call owns: a row of its own from block 'base' on, or nil. -/
def Own (w : World) (base : Nat) (E : TypeId) (sz : Nat) (v : Value) (rows : List (List Value)) : Prop :=
  w.ownsRow base E sz v rows.length rows.flatten ∧ ∀ r, r ∈ rows → r.length = sz
theorem Own.nil (w : World) (base : Nat) (E : TypeId) (sz : Nat) : Own w base E sz (.slice none 0 0) [] := ⟨World.ownsRow_nil _ _ _ _, fun _ h => by simp at h⟩
theorem Own.slv {w : World} {base : Nat} {E : TypeId} {sz : Nat} {v : Value} {rows : List (List Value)} (h : Own w base E sz v rows) : SlV w sz v rows := by
  rcases h.1.2 with ⟨hv, hn⟩ | ⟨g, cap, cur, hv, _, _, hc, _⟩
  · obtain rfl : rows = [] := List.eq_nil_of_length_eq_zero hn
    exact hv ▸ SlV.nil w sz
  · refine ⟨_, cap, hv, hc, fun i r hi => ⟨g, 0, rfl, fun j u hj => ?_⟩⟩
    have hg : v.ownBlock = some g := by rw [hv]; rfl
    have := h.1.cells hg (i * sz + j) u (flat_get h.2 hi j u hj)
    rwa [show (⟨g, 0, none⟩ : Addr).add (i * sz + j) = ⟨g, 0 + i * sz + j, none⟩ from by unfold Addr.add; split <;> simp_all [Nat.zero_add]] at this
theorem Own.below {w w' : World} {base : Nat} {E : TypeId} {sz : Nat} {v : Value} {rows : List (List Value)} (h : Own w base E sz v rows) (hb : Below w.heap.size w w') : Own w' base E sz v rows :=
  ⟨h.1.kept (row := none) ⟨hb.os, hb.tape, hb.output, hb.size, fun i hi _ => hb.block i hi⟩ (by cases v.ownBlock <;> simp), h.2⟩
theorem Own.alloc {w : World} {base : Nat} {E : TypeId} {sz : Nat} {v : Value} {rows : List (List Value)} (h : Own w base E sz v rows) (o : Obj) : Own (w.alloc o) base E sz v rows := h.below ((Below.refl _ _).alloc (Nat.le_refl _) o)
theorem Own.form {w : World} {base : Nat} {E : TypeId} {sz : Nat} {v : Value} {rows : List (List Value)} (h : Own w base E sz v rows) : ∃ A c, v = .slice A rows.length c ∧ rows.length ≤ c := by
  obtain ⟨A, c, e, hl, _⟩ := h.slv
  exact ⟨A, c, e, hl⟩

section
variable {P : Program} {ops : Array Oper} {rest : List Oper} {o : Oper} {a : Act} {Q : Exit → Act → World → Prop}
/-- append(v, x), behind 'at_builtin': the variadic's block stands last. -/
theorem append1 {W : World} (base : Nat) (E : TypeId) (sz bytes : Nat) (z : Value) (hgd : o.guard = none) (s x : Operand) (t : TypeId)
    (ho : o.op = .call { callee := .builtin .append, args := #[s, x], argTypes := #[t, t] })
    (ht : P.underlying t = some (.slice E)) (hinfo : (P.info? E).map (fun i => (i.zero, i.size, i.bytes)) = some (some z, sz, bytes)) (hz : z.cells.size = sz) (hs0 : 0 < sz) (hb0 : 0 < bytes)
    (v : Value) (rows : List (List Value)) (ys : List Value) (hs : a.eval s = v) (m : Nat) (hx : a.eval x = .slice (some ⟨m, 0, none⟩) 1 1) (hm : W.heap.size = m) (hys : ys.length = sz) (h1 : ∀ u ∈ ys, u.oneCell' = true)
    (HO : Own W base E sz v rows) (hbase : base ≤ W.heap.size) (hl : (rows.length + 1) * bytes ≤ 140737488355328)
    (h : ∀ v1 w1, Own w1 base E sz v1 (rows ++ [ys]) → Fr (fun k => v.ownBlock = some k) W w1 → wpList P ops Q rest (a.put o.dst v1) w1) :
    wpList P ops Q (o :: rest) a (W.alloc (.cells ys.toArray E)) := by
  subst hm
  obtain ⟨i0, hi, hzz⟩ := Option.map_eq_some_iff.1 hinfo
  simp only [Prod.mk.injEq] at hzz
  obtain ⟨hz0, hz1, hz2⟩ := hzz
  have hlen : rows.length + 1 ≤ 140737488355328 := Nat.le_trans (Nat.le_mul_of_pos_right _ hb0) hl
  refine wpList_append_own_at (W.alloc (.cells ys.toArray E)) hgd s x t ho base E i0 z sz bytes ht hi hz0 hz1 hz2 hz hs0 v rows.length rows.flatten hs (HO.alloc _).1 ⟨W.heap.size, 0, none⟩ 1 1 ys hx (by rw [hys]; simp)
    (by simpa using World.news_of_block (cs := ys.toArray) (t := E) (fr := (0, 0)) (heap_alloc_new W (.cells ys.toArray E))) h1 (by simp only [maxLen]; omega) hl (by simp; omega) ?_
  intro v1 w1 hown hg _ _
  refine h v1 w1 ⟨by simpa using hown, fun r hr => ?_⟩ ?_
  · rcases List.mem_append.1 hr with hr | hr
    · exact HO.2 r hr
    · simp at hr; rw [hr]; exact hys
  · have hW : Fr (fun k => v.ownBlock = some k) W (W.alloc (.cells ys.toArray E)) := (Fr.refl _ _).alloc _
    exact hW.trans (T := fun k => v.ownBlock = some k) ⟨hg.os, hg.tape, hg.output, hg.size, fun k hk hn => hg.block k hk (fun e => hn e.symm)⟩ (fun _ _ h => h)
end
/-- A row owned from base on: what its append writes leaves all below base. -/
theorem Own.fr_below {W w1 : World} {base : Nat} {E : TypeId} {sz : Nat} {v : Value} {rows : List (List Value)} (h : Own W base E sz v rows) {w : World} (hw : Below base w W) (hs : base ≤ W.heap.size) (hf : Fr (fun k => v.ownBlock = some k) W w1) : Below base w w1 :=
  hw.trans ⟨hf.os, hf.tape, hf.output, hf.size, fun k hk => hf.block k (by omega) (fun e => by have := (h.1.lt k e).1; omega)⟩
/-- Beyond a block of one's own that may have been written. -/
theorem below_step {w wr w' : World} {a : Nat} (hb : Below w.heap.size w wr) (ha : w.heap.size ≤ a) (hf : Fr (only a) wr w') : Below w.heap.size w w' :=
  ((Fr.of_below (S := none_) hb).trans hf (fun i hi hS => by cases hS; omega)).below

theorem Own.fr {S : Nat → Prop} {w w' : World} {base : Nat} {E : TypeId} {sz : Nat} {v : Value} {rows : List (List Value)} (h : Own w base E sz v rows) (hf : Fr S w w') (hS : ∀ k, v.ownBlock = some k → ¬ S k) : Own w' base E sz v rows := by
  refine ⟨⟨h.1.1, ?_⟩, h.2⟩
  rcases h.1.2 with h1 | ⟨g, cap, cur, hv, hb, hh, r⟩
  · exact Or.inl h1
  · exact Or.inr ⟨g, cap, cur, hv, hb, (hf.block g (Array.getElem?_eq_some_iff.1 hh).1 (hS g (by rw [hv]; rfl))).trans hh, r⟩
theorem Own.type_ne {w : World} {base : Nat} {E : TypeId} {sz : Nat} {v : Value} {rows : List (List Value)} (h : Own w base E sz v rows) {b : Nat} {cs : Array Value} {t : TypeId} (hb : Blk w b cs t) (ht : E ≠ t) : ∀ k, v.ownBlock = some k → k ≠ b := by
  intro k hk e
  subst e
  rcases h.1.2 with ⟨h1, _⟩ | ⟨g, cap, cur, hv, _, hh, _⟩
  · rw [h1] at hk; simp [Value.ownBlock] at hk
  · have : g = k := by rw [hv] at hk; simpa [Value.ownBlock] using hk
    subst this
    unfold Blk at hb
    rw [hh] at hb
    injection hb with hb
    injection hb with _ e
    exact ht e
theorem Own.own_type {w : World} {base : Nat} {E : TypeId} {sz : Nat} {v : Value} {rows : List (List Value)} (h : Own w base E sz v rows) (k : Nat) (hk : v.ownBlock = some k) {cs : Array Value} {t : TypeId} {f : Nat × Nat} (hh : w.heap[k]? = some (.cells cs t f)) : t = E := by
  rcases h.1.2 with ⟨h1, _⟩ | ⟨g, cap, cur, hv, _, hg, _⟩
  · rw [h1] at hk; simp [Value.ownBlock] at hk
  · have : g = k := by rw [hv] at hk; simpa [Value.ownBlock] using hk
    subst this
    rw [hh] at hg
    injection hg with hg
    injection hg with _ e
end Go.Proofs.BL
end

section
namespace Go.Proofs.YtlekfpeonehggaaGreatDoor
open Go.Proofs.BL Go.ChangeShapes Go.WideShapes Go.ChangeAt Go.RowKit Go.Deep
set_option maxRecDepth 100000
set_option linter.unusedVariables false

theorem ownK : ownKnob Tryz.prog.godebug = none := by kernel_rfl
theorem gErr : Tryz.prog.globalNamed "errors.errorType" = some 0 := by kernel_rfl
theorem laidO : laidOutB Tryz.prog = true := by kernel_rfl
theorem errRow : (List.range Tryz.prog.types.size).all (fun t => !(Tryz.prog.rowNamed t [101, 114, 114, 111, 114]) || t == 61) = true := by kernel_rfl
theorem rtypeRow : (Tryz.prog.cutTypes.find? (·.1 == "internal/reflectlite.rtype")).map (·.2) = some 155 := by kernel_rfl
theorem hndRow : typeHandle Tryz.prog 61 = .pointer (some ⟨2, 61, none⟩) := by kernel_rfl

/-- What the row's list gives: errors.errorType's cell. -/
theorem errT_of_laid {W : World} (h : laidMetH Tryz.prog [("errors.errorType", Rows.laid_errors_errorType)] W) : ErrT W := by
  obtain ⟨_, hh⟩ := (show laidMet Tryz.prog ([("errors.errorType", Rows.laid_errors_errorType)].filter fun x => x.2.handleName?.isNone) W ∧ handlesMet Tryz.prog [("errors.errorType", Rows.laid_errors_errorType)] W from h)
  obtain ⟨name, u, ty, hn, hu, hlt, hrow, hv⟩ := (show ∃ name u ty, (Rows.laid_errors_errorType (H := Unit)).handleName? = some name ∧ (Tryz.prog.cutTypes.find? (·.1 == "internal/reflectlite.rtype")).map (·.2) = some u ∧ ty < Tryz.prog.types.size ∧ Tryz.prog.rowNamed ty name = true ∧ W.var? Tryz.prog "errors.errorType" = some #[.iface u (.agg #[typeHandle Tryz.prog ty])] from hh _ (List.mem_singleton.2 rfl))
  have e1 : name = [101, 114, 114, 111, 114] := by
    have : (Rows.laid_errors_errorType (H := Unit)).handleName? = some [101, 114, 114, 111, 114] := by kernel_rfl
    exact (Option.some.inj (this.symm.trans hn)).symm
  subst e1
  have e2 : u = 155 := (Option.some.inj (rtypeRow.symm.trans hu)).symm
  subst e2
  have e3 : ty = 61 := by
    have := List.all_eq_true.1 errRow ty (List.mem_range.2 hlt)
    rw [hrow] at this
    simpa using this
  subst e3
  rw [hndRow] at hv
  exact var?_cell gErr hv 0

/-- A world for the witness: the settled one, errors.errorType holding its handle. -/
noncomputable def laidWorld (os : Os) : World :=
  { World.holding Tryz.prog os ⟨#[], #[], []⟩ with heap := (World.holding Tryz.prog os ⟨#[], #[], []⟩).heap.modify 0 fun
      | .cells _ t frozen => .cells #[.iface 155 (.agg #[.pointer (some ⟨2, 61, none⟩)])] t frozen
      | o => o }
theorem laid_met (os : Os) (args : Array Value) : laidMetH Tryz.prog [("errors.errorType", Rows.laid_errors_errorType)] ((laidWorld os).forCall (fun _ _ => 0) ⟨#[], args, []⟩).memory := by
  refine laidMetH_of_parts ?_ ?_
  · rw [show ([("errors.errorType", Rows.laid_errors_errorType (H := Unit))].filter fun x => x.2.handleName?.isNone) = [] from by kernel_rfl]
    exact ⟨[], rfl, List.nodup_nil, fun b off h => by cases h⟩
  · kernel_rfl

/-- A law that answers true, and changes nothing that was there: its post. -/
theorem law_post {H : Type} {enc : TypeId × Value → H} {P : Program} {f : Func} {s : ChangeSpec} {W W' : World} {args : Array Value} {ds gs : List (DataW H)} {before pa : List MemPlace} {tb : TypeId} (hr : f.resultTypes = #[tb]) (hb : P.underlying tb = some .bool)
    (hW : DataW.Whole enc P f.params.toList s.vars false W args.toList ds gs before) (hs : s.vars = [])
    (hres : (s.fn H (ds ++ gs)).results = [.lit (.bool true)]) (hvs : (s.fn H (ds ++ gs)).vars = [])
    (hargs : DataW.TrodAll enc P W' 0 (fun b => decide (b < W.heap.size)) true f.params.toList args.toList (s.fn H (ds ++ gs)).args pa) (hbel : Below W.heap.size W W') :
    s.post enc P f false true false false W args (.bool true) W' := by
  refine ⟨ds, gs, before, [], pa, [], hW, ?_, hargs, ?_, hbel.frame _, fun h => by cases h⟩
  · rw [hres, hr]
    exact trodAll_cons_mk (shut_bool hb _) trodAll_mk0
  · rw [hs, hvs]
    rfl
section
variable {H : Type} {enc : TypeId × Value → H} {P : Program} {w : World} {base : Nat} {spare : Nat → Bool} {held : Bool}
theorem open_slice_fields {t e : TypeId} {fs : Array Field} {fuel : Nat} {cs : List Value} {x : DataW H × List MemPlace} (ht : P.underlying t = some (.slice e)) (he : P.underlying e = some (.struct fs))
    (hone : oneCellFields P fs = true) (hC : P.cellsOf e = fs.size) (h : DataW.trod enc P w base spare held fuel t cs = some x) :
    (cs = [.slice none 0 0]) ∨
    ∃ (a : Addr) (len cap : Nat), cs = [.slice (some a) len cap] ∧ len ≤ cap ∧ cap ≤ maxLen ∧
      ∀ i, i < len → ∀ (j : Nat) (f : Field), fs[j]? = some f → ∃ (v : Value) (y : DataW H × List MemPlace) (n : Nat), w.cell? (a.add (i * fs.size + j)) = some v ∧ DataW.trod enc P w base spare held n f.type [v] = some y := by
  rcases open_slice ht h with ⟨h0, _⟩ | ⟨a, len, cap, m, n, D, Pl, hcs, hb, hl, hm, hmm, hx, hi⟩
  · exact .inl h0
  · refine .inr ⟨a, len, cap, hcs, hl, hm, fun i hil j f hj => ?_⟩
    have him : i < m := by rw [hmm]; split <;> omega
    obtain ⟨cs', hc, ht'⟩ := hi i him
    rw [hC] at hc
    obtain ⟨ys, n', hn', hy, hlen, hyl, hf⟩ := DataW.trod_struct he ht'
    obtain ⟨_, hcl, hat⟩ := World.cells?_some hc
    obtain ⟨ho, hk⟩ := hone_of hone j f hj
    have hjl : j < fs.size := (Array.getElem?_eq_some_iff.1 hj).1
    have hcell := hat j hjl
    have hv : cs'[j]? = some (cs'[j]'(by omega)) := List.getElem?_eq_getElem (by omega)
    have h1 := hf j f hj
    rw [ho, hk] at h1
    have hone' : (cs'.drop j).take 1 = [cs'[j]'(by omega)] := by
      rw [List.drop_eq_getElem_cons (by omega)]
      rfl
    rw [hone'] at h1
    have hys : ys[j]? = some (ys[j]'(by omega)) := List.getElem?_eq_getElem (by omega)
    refine ⟨_, _, n', ?_, h1.trans hys⟩
    rw [← Go.Deep.add_add, hcell, hv]
end
/-- From the cells of a slice's elements to its rows. -/
theorem rowsAt_of_cells {w : World} {a : Addr} {sz : Nat} {rows : List (List Value)} (hs : 0 < sz) (h : ∀ i r, rows[i]? = some r → r.length = sz ∧ ∀ j u, r[j]? = some u → w.cell? (a.add (i * sz + j)) = some u) : RowsAt w sz (some a) rows := by
  intro i r hi
  have hne : 0 < rows.length := by have := (List.getElem?_eq_some_iff.1 hi).1; omega
  have h0 := h 0 rows[0] (List.getElem?_eq_getElem hne)
  have hc0 := h0.2 0 (rows[0][0]'(by omega)) (List.getElem?_eq_getElem (by omega))
  have hsp : a.spot = none := by
    have e : a.add (0 * sz + 0) = a := by simp [Addr.add]
    rw [e] at hc0
    unfold World.cell? at hc0
    split at hc0
    · split at hc0
      · cases hc0
      · rename_i hh
        simpa using hh
    · cases hc0
  obtain ⟨b, o, sp⟩ := a
  simp only at hsp
  subst hsp
  refine ⟨b, o, rfl, fun j u hj => ?_⟩
  have := (h i r hi).2 j u hj
  rwa [show (⟨b, o, none⟩ : Addr).add (i * sz + j) = ⟨b, o + i * sz + j, none⟩ from by unfold Addr.add; split <;> simp_all [Nat.add_assoc]] at this
end Go.Proofs.YtlekfpeonehggaaGreatDoor
end
