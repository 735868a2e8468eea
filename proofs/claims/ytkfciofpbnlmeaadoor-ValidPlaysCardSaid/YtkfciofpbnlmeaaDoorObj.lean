/- Objects of one slice; the table of errors.As as a part; rows of one's own, read and written. -/
import Derived.Test.YtkfciofpbnlmeaaDoorSat
import Derived.Test.YtkfciofpbnlmeaaDoorFkc
import Derived.Test.YtkfciofpbnlmeaaDoorSc
import Derived.WalkKit
import Derived.Deep.LoopGhost
import Derived.Deep.QuietTactic
import Derived.BigQuiet
import Derived.Deep.RegionHeld3
import Derived.Laws.Rows
import Derived.Deep.AppendLies
set_option linter.unusedVariables false
set_option maxRecDepth 100000
namespace Go.Proofs.YtkfciofpbnlmeaaDoor
open Go.Proofs.BL Go.Proofs.Peel Go.RowKit

/-- An object of one slice. -/
def objS (T E : TypeId) (sz p : Nat) (rows : List (List Value)) : Part := Part.ex fun v => (blk p #[v] T).star (ownR v E sz rows)
theorem Sat.openO {T E : TypeId} {sz p : Nat} {rows : List (List Value)} {l : List Part} {w : World} (h : Sat (objS T E sz p rows :: l) w) : ∃ v, Sat (blk p #[v] T :: ownR v E sz rows :: l) w := by
  obtain ⟨v, h⟩ := h.open_
  exact ⟨v, h.split⟩
theorem Sat.shutO {T E : TypeId} {sz p : Nat} {v : Value} {rows : List (List Value)} {l : List Part} {w : World} (h : Sat (blk p #[v] T :: ownR v E sz rows :: l) w) : Sat (objS T E sz p rows :: l) w := h.join.shut (f := fun v => (blk p #[v] T).star (ownR v E sz rows)) v
theorem drew_below (w : World) (n : Nat) : Below w.heap.size w (w.drewN n) := ⟨rfl, rfl, rfl, Nat.le_refl _, fun _ _ => rfl⟩
/-- The table of errors.As. -/
def errP : Part := ⟨fun w G _ => ErrT w ∧ G 0, fun ⟨h, ho⟩ hO hG hf hGG => ⟨(World.cell?_of_block (hf.block _ (hG _ ho) (fun hn => hn (.inl ho)))).trans h, hGG _ ho⟩⟩
theorem Sat.err_ {l : List Part} {w : World} (h : Sat (errP :: l) w) : ErrT w := h.fact (fun _ _ a _ _ => a.1)
theorem Sat.old_err {l : List Part} {w W : World} (h : Sat (old W :: l) w) (hE : ErrT W) : Sat (errP :: old W :: l) w :=
  h.dup fun G O ⟨hb, hg⟩ => ⟨hE.below hb, hg _ (World.block_lt_of_cell? W _ hE)⟩
theorem eraseIdx_perm {α : Type _} {a : α} : ∀ {l : List α} {i : Nat}, l[i]? = some a → l.Perm (a :: l.eraseIdx i)
  | [], i, h => by simp at h
  | b :: l, 0, h => by
    simp only [List.getElem?_cons_zero, Option.some.injEq] at h
    subst h
    exact List.Perm.refl _
  | b :: l, i + 1, h => by
    simp only [List.getElem?_cons_succ] at h
    exact ((eraseIdx_perm h).cons b).trans (List.Perm.swap a b _)
/-- The n-th part ahead of the others. -/
theorem Sat.nth {A : Part} {l : List Part} {w : World} (i : Nat) (h : Sat l w) (e : l[i]? = some A) : Sat (A :: l.eraseIdx i) w := h.perm (eraseIdx_perm e)

/-- A row of one's own that is not empty. -/
theorem own_some {w : World} {base : Nat} {E : TypeId} {sz : Nat} {v : Value} {rows : List (List Value)} (h : Own w base E sz v rows) (hn : rows ≠ []) : ∃ g c, v = .slice (some ⟨g, 0, none⟩) rows.length c ∧ rows.length ≤ c ∧ c ≤ maxLen := by
  rcases h.1.2 with ⟨_, h1⟩ | ⟨g, c, cur, h1, _, _, h2, h3, _⟩
  · exact absurd (List.eq_nil_of_length_eq_zero h1) hn
  · exact ⟨g, c, h1, h2, h3⟩
theorem own_at {w : World} {base : Nat} {E : TypeId} {sz : Nat} {g n c : Nat} {rows : List (List Value)} (h : Own w base E sz (.slice (some ⟨g, 0, none⟩) n c) rows) {i : Nat} {r : List Value} (hi : rows[i]? = some r) (j : Nat) {u : Value} (hj : r[j]? = some u) :
    w.cell? ⟨g, i * sz + j, none⟩ = some u ∧ w.frozen? ⟨g, i * sz + j, none⟩ = false := by
  obtain ⟨_, _, e, _, hr⟩ := h.slv
  injection e with e1 e2 e3
  subst e1
  obtain ⟨b, o, e, hc⟩ := hr i r hi
  injection e with e
  injection e with e1 e2
  subst e1 e2
  have := hc j u hj
  rw [Nat.zero_add] at this
  refine ⟨this, ?_⟩
  rcases h.1.2 with ⟨h1, _⟩ | ⟨g', c', cur, h1, _, hh, _⟩
  · cases h1
  · injection h1 with h1 _ _
    injection h1 with h1
    injection h1 with h1
    subst h1
    exact Blk.free hh _

theorem flat_set {rows : List (List Value)} {sz : Nat} (hs : ∀ r, r ∈ rows → r.length = sz) : ∀ {i : Nat} {r : List Value}, rows[i]? = some r → ∀ (j : Nat) (u : Value), j < sz → rows.flatten.set (i * sz + j) u = (rows.set i (r.set j u)).flatten := by
  induction rows with
  | nil => intro i r h; simp at h
  | cons x xs ih =>
    intro i r h j u hj
    have hx : x.length = sz := hs x (by simp)
    cases i with
    | zero =>
      simp only [List.getElem?_cons_zero, Option.some.injEq] at h
      subst h
      rw [List.set_cons_zero, List.flatten_cons, List.flatten_cons, Nat.zero_mul, Nat.zero_add, List.set_append_left _ _ (by omega)]
    | succ i =>
      simp only [List.getElem?_cons_succ] at h
      rw [List.set_cons_succ, List.flatten_cons, List.flatten_cons, List.set_append_right _ _ (by rw [hx, Nat.succ_mul]; omega), hx, ← ih (fun r hr => hs r (by simp [hr])) h j u hj]
      rw [show (i + 1) * sz + j - sz = i * sz + j from by rw [Nat.succ_mul]; omega]
theorem own_set {w : World} {base : Nat} {E : TypeId} {sz g n c : Nat} {rows : List (List Value)} (h : Own w base E sz (.slice (some ⟨g, 0, none⟩) n c) rows) {i : Nat} {r : List Value} (hi : rows[i]? = some r) (j : Nat) (hj : j < sz) (u : Value) :
    Own (w.setCell ⟨g, i * sz + j, none⟩ u) base E sz (.slice (some ⟨g, 0, none⟩) n c) (rows.set i (r.set j u)) := by
  obtain ⟨_, _, e, _, _⟩ := h.slv
  injection e with _ e _
  subst e
  have hr := h.2 r (List.mem_of_getElem? hi)
  have := h.1.stored (i * sz + j) u
  rw [flat_set h.2 hi j u hj] at this
  refine ⟨by rw [List.length_set]; exact this.1, fun x hx => ?_⟩
  rcases List.mem_or_eq_of_mem_set hx with hx | rfl
  · exact h.2 x hx
  · rw [List.length_set]; exact hr
theorem Sat.setOwn {g n c : Nat} {E : TypeId} {sz : Nat} {rows : List (List Value)} {l : List Part} {w : World} (h : Sat (ownR (.slice (some ⟨g, 0, none⟩) n c) E sz rows :: l) w) {i : Nat} {r : List Value} (hi : rows[i]? = some r) (j : Nat) (hj : j < sz) (u : Value) (ht : isErrT E = false := by rfl) :
    Sat (ownR (.slice (some ⟨g, 0, none⟩) n c) E sz (rows.set i (r.set j u)) :: l) (w.setCell ⟨g, i * sz + j, none⟩ u) :=
  h.step fun G O ⟨a, ho⟩ hO hG => ⟨(Fr.refl _ _).setCell (.inr (ho g rfl)) u, fun k => k = g, fun G' _ => ⟨own_set a hi j hj u, fun k hk => by simpa [Value.ownBlock] using hk.symm⟩, fun k hk => by
    subst hk
    refine ⟨.inl (ho k rfl), by have := (a.1.lt k rfl).2; simpa [World.setCell] using this, ?_⟩
    exact not_imm_own (own_set a hi j hj u) ht k rfl⟩
theorem chn_iface {w : World} {v : Value} {c : List Lk} (h : Chn w v c) (hn : c ≠ []) : ∃ k b, v = .iface k (.pointer (some ⟨b, 0, none⟩)) := by
  cases c with
  | nil => exact absurd rfl hn
  | cons x r => obtain ⟨b, u, e, _⟩ := h; exact ⟨_, b, e⟩

theorem alloc_sz (w : World) (o : Obj) : (w.alloc o).heap.size = w.heap.size + 1 := by simp
/-- A literal's row, made. -/
theorem Sat.lit {l : List Part} {w : World} (h : Sat l w) (E : TypeId) (sz n : Nat) (rows : List (List Value)) (cs : Array Value) (hn : n = rows.length) (hm : n ≤ maxLen) (hcs : cs.toList = rows.flatten) (hs : ∀ r, r ∈ rows → r.length = sz) (hc : cs.size = n * sz) (ht : isErrT E = false := by rfl) :
    Sat (ownR (.slice (some ⟨w.heap.size, 0, none⟩) n n) E sz rows :: l) (w.alloc (.cells cs E)) :=
  h.made ((Below.refl _ _).alloc (Nat.le_refl _) _) (Own.lit w E sz n rows cs w.heap.size (Nat.le_refl _) hn hm hcs hs hc) ht

theorem Sat.ownRows {A : Option Addr} {n c : Nat} {E : TypeId} {sz : Nat} {rows : List (List Value)} {l : List Part} {w : World} (h : Sat (ownR (.slice A n c) E sz rows :: l) w) : RowsAt w sz A rows := by
  obtain ⟨A', c', e, _, _, hr⟩ := h.own_.slv'
  injection e with e1 _ _
  rw [e1]; exact hr
theorem Sat.roTake {A : Option Addr} {sz : Nat} {rows : List (List Value)} {l : List Part} {w : World} (n : Nat) (h : Sat (roR sz A rows :: l) w) : Sat (roR sz A (rows.take n) :: roR sz A rows :: l) w :=
  h.dup (fun G O ⟨a, ho⟩ => ⟨a.take n, fun hne x hx => ho (fun e => hne (by rw [e]; simp)) x hx⟩)
theorem Sat.roDrop {b o : Nat} {sz : Nat} {rows : List (List Value)} {l : List Part} {w : World} (n : Nat) (h : Sat (roR sz (some ⟨b, o, none⟩) rows :: l) w) : Sat (roR sz (some ⟨b, o + n * sz, none⟩) (rows.drop n) :: roR sz (some ⟨b, o, none⟩) rows :: l) w :=
  h.dup (fun G O ⟨a, ho⟩ => ⟨fun i r hi => by
    rw [List.getElem?_drop] at hi
    obtain ⟨b', o', e, hc⟩ := a (n + i) r hi
    injection e with e
    injection e with e1 e2
    subst e1 e2
    refine ⟨b, o + n * sz, rfl, fun j u hj => ?_⟩
    have := hc j u hj
    rwa [show o + (n + i) * sz + j = o + n * sz + i * sz + j from by rw [Nat.add_mul]; omega] at this, fun hne x hx => by
      injection hx with hx
      subst hx
      exact ho (fun e => hne (by rw [e]; simp)) ⟨b, o, none⟩ rfl⟩)
/-- No rows at all. -/
theorem Sat.roNil {l : List Part} {w : World} (h : Sat l w) (sz : Nat) (A : Option Addr) : Sat (roR sz A [] :: l) w := h.put (fun G => ⟨RowsAt.nil _ _ _, fun hne => absurd rfl hne⟩)
theorem upA {w : World} {a : Addr} {v : Value} (h : w.cell? a = some v) (o : Obj) : (w.alloc o).cell? a = some v := (((Below.refl w.heap.size w).alloc (Nat.le_refl _) o).cell (World.block_lt_of_cell? w a h)).trans h
/-- append(v, X{..}) as one step of a region that draws its order. -/
theorem satStep1 {P : Program} {ops : Array Oper} {o : Oper} {a : Act} {W : World} {K : Act → World → Prop} {Q : Exit → Act → World → Prop} {F : Prop} {l : List Part} (E : TypeId) (sz bytes : Nat) (z : Value) (hgd : o.guard = none) (s x : Operand) (t : TypeId)
    (ho : o.op = .call { callee := .builtin .append, args := #[s, x], argTypes := #[t, t] })
    (ht : P.underlying t = some (.slice E)) (hinfo : (P.info? E).map (fun i => (i.zero, i.size, i.bytes)) = some (some z, sz, bytes)) (hz : z.cells.size = sz) (hs0 : 0 < sz) (hb0 : 0 < bytes)
    (v : Value) (rows : List (List Value)) (ys : List Value) (hs : a.eval s = v) (m : Nat) (hx : a.eval x = .slice (some ⟨m, 0, none⟩) 1 1) (hm : W.heap[m]? = some (.cells ys.toArray E (0, 0))) (hys : ys.length = sz) (h1 : ∀ u ∈ ys, u.oneCell' = true)
    (HS : Sat (ownR v E sz rows :: l) W) (hE : isErrT E = false) (hl : (rows.length + 1) * bytes ≤ 140737488355328)
    (h : ∀ v1 w1, Sat (ownR v1 E sz (rows ++ [ys]) :: l) w1 → K (a.put o.dst v1) w1) :
    if Region.wanted o (yielded ops a.tmps) = true then Oper.wp P o a W K Q else F := by
  obtain ⟨i0, hi, hzz⟩ := Option.map_eq_some_iff.1 hinfo
  simp only [Prod.mk.injEq] at hzz
  obtain ⟨hz0, hz1, hz2⟩ := hzz
  have HO := HS.own_
  have hlen : rows.length + 1 ≤ 140737488355328 := Nat.le_trans (Nat.le_mul_of_pos_right _ hb0) hl
  refine step_append_lies W hgd s x t ho 0 E i0 z sz bytes ht hi hz0 hz1 hz2 hz hs0 v rows.length rows.flatten hs HO.1 ⟨m, 0, none⟩ 1 1 ys hx (by rw [hys]; simp) (by simpa using World.news_of_block hm) h1 (by decide) (by simp only [maxLen]; omega) hl (Nat.zero_le _) W.heap.size rfl ?_
  intro g cap w1 hown hg hloc _
  refine h _ w1 (HS.grown ⟨by simpa using hown, fun r hr => ?_⟩ ⟨hg.os, hg.tape, hg.output, hg.size, fun k hk hn => hg.block k hk (fun e => hn e.symm)⟩ (fun k hk => by
    simp only [Value.ownBlock, Option.some.injEq] at hk
    subst hk
    rcases hloc with e | e
    · exact .inl e
    · exact .inr (by omega)) hE)
  rcases List.mem_append.1 hr with hr | hr
  · exact HO.2 r hr
  · simp at hr; rw [hr]; exact hys
/-- A world that only grew, in which one cell holds what it held. -/
def Keep (W : World) (a : Addr) (v : Value) (x : World) : Prop := Below W.heap.size W x ∧ x.cell? a = some v
theorem Keep.start {W : World} {a : Addr} {v : Value} (h : W.cell? a = some v) : Keep W a v W := ⟨Below.refl _ _, h⟩
theorem Keep.below {W : World} {a : Addr} {v : Value} {x x' : World} (h : Keep W a v x) (hb : Below x.heap.size x x') : Keep W a v x' :=
  ⟨below_then h.1 hb, (hb.cell (World.block_lt_of_cell? x a h.2)).trans h.2⟩
section
variable {P : Program} {ops : Array Oper} {rest : List Oper} {o : Oper} {a : Act} {Q : Exit → Act → World → Prop} {l : List Part}
/-- append(v, x) to a row of one's own, behind 'at_builtin'; the variadic's block stands last. -/
theorem satApp {W : World} (E : TypeId) (sz bytes : Nat) (z : Value) (hgd : o.guard = none) (s x : Operand) (t : TypeId)
    (ho : o.op = .call { callee := .builtin .append, args := #[s, x], argTypes := #[t, t] })
    (ht : P.underlying t = some (.slice E)) (hinfo : (P.info? E).map (fun i => (i.zero, i.size, i.bytes)) = some (some z, sz, bytes)) (hz : z.cells.size = sz) (hs0 : 0 < sz) (hb0 : 0 < bytes)
    (v : Value) (rows : List (List Value)) (ys : List Value) (hs : a.eval s = v) (m : Nat) (hx : a.eval x = .slice (some ⟨m, 0, none⟩) 1 1) (hm : W.heap.size = m) (hys : ys.length = sz) (h1 : ∀ u ∈ ys, u.oneCell' = true)
    (HS : Sat (ownR v E sz rows :: l) W) (hE : isErrT E = false) (hl : (rows.length + 1) * bytes ≤ 140737488355328)
    (h : ∀ v1 w1, Sat (ownR v1 E sz (rows ++ [ys]) :: l) w1 → wpList P ops Q rest (a.put o.dst v1) w1) :
    wpList P ops Q (o :: rest) a (W.alloc (.cells ys.toArray E)) :=
  append1L 0 E sz bytes z hgd s x t ho ht hinfo hz hs0 hb0 v rows ys hs m hx hm hys h1 HS.own_ (Nat.zero_le _) hl (fun v1 w1 ho1 hf1 hk1 => h v1 w1 (HS.grown ho1 hf1 hk1 hE))
/-- append(v, u...) to a row of one's own, behind 'at_builtin'. -/
theorem satAppN {W : World} (E : TypeId) (sz bytes : Nat) (z : Value) (hgd : o.guard = none) (s x : Operand) (t : TypeId)
    (ho : o.op = .call { callee := .builtin .append, args := #[s, x], argTypes := #[t, t] })
    (ht : P.underlying t = some (.slice E)) (hinfo : (P.info? E).map (fun i => (i.zero, i.size, i.bytes)) = some (some z, sz, bytes)) (hz : z.cells.size = sz) (hs0 : 0 < sz) (hb0 : 0 < bytes)
    (v : Value) (rows ys : List (List Value)) (hs : a.eval s = v) (A : Option Addr) (n c : Nat) (hx : a.eval x = .slice A n c) (hn : n = ys.length) (hA : A = none → c = 0) (HR : RowsAt W sz A ys)
    (hys : ∀ r, r ∈ ys → r.length = sz) (h1 : ∀ r, r ∈ ys → ∀ u ∈ r, u.oneCell' = true)
    (HS : Sat (ownR v E sz rows :: l) W) (hE : isErrT E = false) (hl : (rows.length + ys.length) * bytes ≤ 140737488355328)
    (h : ∀ v1 w1, Sat (ownR v1 E sz (rows ++ ys) :: l) w1 → wpList P ops Q rest (a.put o.dst v1) w1) :
    wpList P ops Q (o :: rest) a W :=
  appendNL 0 E sz bytes z hgd s x t ho ht hinfo hz hs0 hb0 v rows ys hs A n c hx hn hA HR hys h1 HS.own_ (Nat.zero_le _) hl (fun v1 w1 ho1 hf1 hk1 => h v1 w1 (HS.grown ho1 hf1 hk1 hE))
end
end Go.Proofs.YtkfciofpbnlmeaaDoor
