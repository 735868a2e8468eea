/- Slices: as they read, and as a call owns them. -/
import Derived.Test.YtkfciofpbnlmeaaDoorLib
import Derived.OwnWalk
import Derived.Maps.AppendAt
import Derived.Deep.AppendLies
set_option linter.unusedVariables false
namespace Go.Proofs.BL
open Go.RowKit

/-- From address A on stand these rows, sz cells each. -/
def RowsAt (w : World) (sz : Nat) (A : Option Addr) (rows : List (List Value)) : Prop :=
  ∀ i r, rows[i]? = some r → ∃ b o, A = some ⟨b, o, none⟩ ∧ ∀ j u, r[j]? = some u → w.cell? ⟨b, o + i * sz + j, none⟩ = some u
theorem RowsAt.nil (w : World) (sz : Nat) (A : Option Addr) : RowsAt w sz A [] := fun i r h => by simp at h
theorem RowsAt.below {w w' : World} {sz : Nat} {A : Option Addr} {rows : List (List Value)} (h : RowsAt w sz A rows) (hb : Below w.heap.size w w') : RowsAt w' sz A rows := fun i r hi => by
  obtain ⟨b, o, e, hc⟩ := h i r hi
  exact ⟨b, o, e, fun j u hj => (hb.cell (World.block_lt_of_cell? w _ (hc j u hj))).trans (hc j u hj)⟩
theorem RowsAt.fr {S : Nat → Prop} {w w' : World} {sz : Nat} {A : Option Addr} {rows : List (List Value)} (h : RowsAt w sz A rows) (hf : Fr S w w') (hS : ∀ a, A = some a → ¬ S a.block) : RowsAt w' sz A rows := fun i r hi => by
  obtain ⟨b, o, e, hc⟩ := h i r hi
  exact ⟨b, o, e, fun j u hj => (World.cell?_of_block (w := w) (hf.block b (World.block_lt_of_cell? w _ (hc j u hj)) (hS _ e))).trans (hc j u hj)⟩
theorem RowsAt.take {w : World} {sz : Nat} {A : Option Addr} {rows : List (List Value)} (h : RowsAt w sz A rows) (n : Nat) : RowsAt w sz A (rows.take n) := fun i r hi => by
  rw [List.getElem?_take] at hi
  split at hi
  · exact h i r hi
  · cases hi
/-- A slice value that reads as these rows. -/
def SlV (w : World) (sz : Nat) (v : Value) (rows : List (List Value)) : Prop :=
  ∃ A c, v = .slice A rows.length c ∧ rows.length ≤ c ∧ RowsAt w sz A rows
theorem SlV.nil (w : World) (sz : Nat) : SlV w sz (.slice none 0 0) [] := ⟨none, 0, rfl, Nat.le_refl _, RowsAt.nil _ _ _⟩
theorem SlV.below {w w' : World} {sz : Nat} {v : Value} {rows : List (List Value)} (h : SlV w sz v rows) (hb : Below w.heap.size w w') : SlV w' sz v rows := by
  obtain ⟨A, c, e, hl, hr⟩ := h
  exact ⟨A, c, e, hl, hr.below hb⟩

theorem flat_get {rows : List (List Value)} {sz : Nat} (hs : ∀ r, r ∈ rows → r.length = sz) : ∀ {i : Nat} {r : List Value}, rows[i]? = some r → ∀ j u, r[j]? = some u → rows.flatten[i * sz + j]? = some u := by
  induction rows with
  | nil => intro i r h; simp at h
  | cons x xs ih =>
    intro i r h j u hj
    have hx : x.length = sz := hs x (by simp)
    have hjl : j < r.length := (List.getElem?_eq_some_iff.1 hj).1
    cases i with
    | zero =>
      simp at h
      subst h
      rw [List.flatten_cons, Nat.zero_mul, Nat.zero_add, List.getElem?_append_left hjl]
      exact hj
    | succ i =>
      simp at h
      rw [List.flatten_cons, List.getElem?_append_right (by rw [hx, Nat.succ_mul]; omega), hx]
      have : (i + 1) * sz + j - sz = i * sz + j := by rw [Nat.succ_mul]; omega
      rw [this]
      exact ih (fun r hr => hs r (by simp [hr])) h j u hj

/-- What a call owns: a row of its own from block 'base' on, or nil. -/
def Own (w : World) (base : Nat) (E : TypeId) (sz : Nat) (v : Value) (rows : List (List Value)) : Prop :=
  w.ownsRow base E sz v rows.length rows.flatten ∧ ∀ r, r ∈ rows → r.length = sz
theorem Own.nil (w : World) (base : Nat) (E : TypeId) (sz : Nat) : Own w base E sz (.slice none 0 0) [] := ⟨World.ownsRow_nil _ _ _ _, fun _ h => by simp at h⟩
theorem Own.slv {w : World} {base : Nat} {E : TypeId} {sz : Nat} {v : Value} {rows : List (List Value)} (h : Own w base E sz v rows) : SlV w sz v rows := by
  rcases h.1.2 with ⟨hv, hn⟩ | ⟨g, cap, cur, hv, _, _, hc, _⟩
  · obtain rfl : rows = [] := List.eq_nil_of_length_eq_zero hn
    exact hv ▸ SlV.nil w sz
  · refine ⟨_, cap, hv, hc, fun i r hi => ⟨g, 0, rfl, fun j u hj => ?_⟩⟩
    have hg : v.ownBlock = some g := by rw [hv]; rfl
    have := h.1.cells hg (i * sz + j) u (flat_get h.2 hi j u hj)
    rwa [show (⟨g, 0, none⟩ : Addr).add (i * sz + j) = ⟨g, 0 + i * sz + j, none⟩ from by unfold Addr.add; split <;> simp_all [Nat.zero_add]] at this
theorem Own.below {w w' : World} {base : Nat} {E : TypeId} {sz : Nat} {v : Value} {rows : List (List Value)} (h : Own w base E sz v rows) (hb : Below w.heap.size w w') : Own w' base E sz v rows :=
  ⟨h.1.kept (row := none) ⟨hb.os, hb.tape, hb.output, hb.size, fun i hi _ => hb.block i hi⟩ (by cases v.ownBlock <;> simp), h.2⟩
theorem Own.alloc {w : World} {base : Nat} {E : TypeId} {sz : Nat} {v : Value} {rows : List (List Value)} (h : Own w base E sz v rows) (o : Obj) : Own (w.alloc o) base E sz v rows := h.below ((Below.refl _ _).alloc (Nat.le_refl _) o)
theorem Own.form {w : World} {base : Nat} {E : TypeId} {sz : Nat} {v : Value} {rows : List (List Value)} (h : Own w base E sz v rows) : ∃ A c, v = .slice A rows.length c ∧ rows.length ≤ c := by
  obtain ⟨A, c, e, hl, _⟩ := h.slv
  exact ⟨A, c, e, hl⟩

section
variable {P : Program} {ops : Array Oper} {rest : List Oper} {o : Oper} {a : Act} {Q : Exit → Act → World → Prop}
/-- append(v, x), behind 'at_builtin': the variadic's block stands last. -/
theorem append1 {W : World} (base : Nat) (E : TypeId) (sz bytes : Nat) (z : Value) (hgd : o.guard = none) (s x : Operand) (t : TypeId)
    (ho : o.op = .call { callee := .builtin .append, args := #[s, x], argTypes := #[t, t] })
    (ht : P.underlying t = some (.slice E)) (hinfo : (P.info? E).map (fun i => (i.zero, i.size, i.bytes)) = some (some z, sz, bytes)) (hz : z.cells.size = sz) (hs0 : 0 < sz) (hb0 : 0 < bytes)
    (v : Value) (rows : List (List Value)) (ys : List Value) (hs : a.eval s = v) (m : Nat) (hx : a.eval x = .slice (some ⟨m, 0, none⟩) 1 1) (hm : W.heap.size = m) (hys : ys.length = sz) (h1 : ∀ u ∈ ys, u.oneCell' = true)
    (HO : Own W base E sz v rows) (hbase : base ≤ W.heap.size) (hl : (rows.length + 1) * bytes ≤ 140737488355328)
    (h : ∀ v1 w1, Own w1 base E sz v1 (rows ++ [ys]) → Fr (fun k => v.ownBlock = some k) W w1 → wpList P ops Q rest (a.put o.dst v1) w1) :
    wpList P ops Q (o :: rest) a (W.alloc (.cells ys.toArray E)) := by
  subst hm
  obtain ⟨i0, hi, hzz⟩ := Option.map_eq_some_iff.1 hinfo
  simp only [Prod.mk.injEq] at hzz
  obtain ⟨hz0, hz1, hz2⟩ := hzz
  have hlen : rows.length + 1 ≤ 140737488355328 := Nat.le_trans (Nat.le_mul_of_pos_right _ hb0) hl
  refine wpList_append_own_at (W.alloc (.cells ys.toArray E)) hgd s x t ho base E i0 z sz bytes ht hi hz0 hz1 hz2 hz hs0 v rows.length rows.flatten hs (HO.alloc _).1 ⟨W.heap.size, 0, none⟩ 1 1 ys hx (by rw [hys]; simp)
    (by simpa using World.news_of_block (cs := ys.toArray) (t := E) (fr := (0, 0)) (heap_alloc_new W (.cells ys.toArray E))) h1 (by simp only [maxLen]; omega) hl (by simp; omega) ?_
  intro v1 w1 hown hg _ _
  refine h v1 w1 ⟨by simpa using hown, fun r hr => ?_⟩ ?_
  · rcases List.mem_append.1 hr with hr | hr
    · exact HO.2 r hr
    · simp at hr; rw [hr]; exact hys
  · have hW : Fr (fun k => v.ownBlock = some k) W (W.alloc (.cells ys.toArray E)) := (Fr.refl _ _).alloc _
    exact hW.trans (T := fun k => v.ownBlock = some k) ⟨hg.os, hg.tape, hg.output, hg.size, fun k hk hn => hg.block k hk (fun e => hn e.symm)⟩ (fun _ _ h => h)
end
/-- A row owned from base on: what its append writes leaves all below base. -/
theorem Own.fr_below {W w1 : World} {base : Nat} {E : TypeId} {sz : Nat} {v : Value} {rows : List (List Value)} (h : Own W base E sz v rows) {w : World} (hw : Below base w W) (hs : base ≤ W.heap.size) (hf : Fr (fun k => v.ownBlock = some k) W w1) : Below base w w1 :=
  hw.trans ⟨hf.os, hf.tape, hf.output, hf.size, fun k hk => hf.block k (by omega) (fun e => by have := (h.1.lt k e).1; omega)⟩
/-- Beyond a block of one's own that may have been written. -/
theorem below_step {w wr w' : World} {a : Nat} (hb : Below w.heap.size w wr) (ha : w.heap.size ≤ a) (hf : Fr (only a) wr w') : Below w.heap.size w w' :=
  ((Fr.of_below (S := none_) hb).trans hf (fun i hi hS => by cases hS; omega)).below

theorem Own.fr {S : Nat → Prop} {w w' : World} {base : Nat} {E : TypeId} {sz : Nat} {v : Value} {rows : List (List Value)} (h : Own w base E sz v rows) (hf : Fr S w w') (hS : ∀ k, v.ownBlock = some k → ¬ S k) : Own w' base E sz v rows := by
  refine ⟨⟨h.1.1, ?_⟩, h.2⟩
  rcases h.1.2 with h1 | ⟨g, cap, cur, hv, hb, hh, r⟩
  · exact Or.inl h1
  · exact Or.inr ⟨g, cap, cur, hv, hb, (hf.block g (Array.getElem?_eq_some_iff.1 hh).1 (hS g (by rw [hv]; rfl))).trans hh, r⟩
theorem Own.type_ne {w : World} {base : Nat} {E : TypeId} {sz : Nat} {v : Value} {rows : List (List Value)} (h : Own w base E sz v rows) {b : Nat} {cs : Array Value} {t : TypeId} (hb : Blk w b cs t) (ht : E ≠ t) : ∀ k, v.ownBlock = some k → k ≠ b := by
  intro k hk e
  subst e
  rcases h.1.2 with ⟨h1, _⟩ | ⟨g, cap, cur, hv, _, hh, _⟩
  · rw [h1] at hk; simp [Value.ownBlock] at hk
  · have : g = k := by rw [hv] at hk; simpa [Value.ownBlock] using hk
    subst this
    unfold Blk at hb
    rw [hh] at hb
    injection hb with hb
    injection hb with _ e
    exact ht e
theorem Own.own_type {w : World} {base : Nat} {E : TypeId} {sz : Nat} {v : Value} {rows : List (List Value)} (h : Own w base E sz v rows) (k : Nat) (hk : v.ownBlock = some k) {cs : Array Value} {t : TypeId} {f : Nat × Nat} (hh : w.heap[k]? = some (.cells cs t f)) : t = E := by
  rcases h.1.2 with ⟨h1, _⟩ | ⟨g, cap, cur, hv, _, hg, _⟩
  · rw [h1] at hk; simp [Value.ownBlock] at hk
  · have : g = k := by rw [hv] at hk; simpa [Value.ownBlock] using hk
    subst this
    rw [hh] at hg
    injection hg with hg
    injection hg with _ e
end Go.Proofs.BL
