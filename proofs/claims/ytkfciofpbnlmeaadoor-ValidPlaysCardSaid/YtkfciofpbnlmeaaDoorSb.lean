/- Slices: appends of whole slices and of strings; bytes. -/
import Derived.Test.YtkfciofpbnlmeaaDoorSl
import Derived.Lib.AppendStr
import Derived.Laws.AppendOwnNone
import Derived.Lib.ConvBytes
import Derived.Laws.IdiomStrings
import Derived.Lib.BufferRead
set_option linter.unusedVariables false
namespace Go.Proofs.BL
open Go.RowKit

/-- From rows to the cells one behind the other. -/
theorem RowsAt.flat {w : World} {sz : Nat} (b o : Nat) (rows : List (List Value)) (h : RowsAt w sz (some ⟨b, o, none⟩) rows) (hs : ∀ r, r ∈ rows → r.length = sz) :
    ∀ j u, rows.flatten[j]? = some u → w.cell? ⟨b, o + j, none⟩ = some u := by
  induction rows generalizing o with
  | nil => intro j u h; simp at h
  | cons x xs ih =>
    intro j u hj
    have hx : x.length = sz := hs x (by simp)
    rw [List.flatten_cons] at hj
    by_cases hjx : j < x.length
    · rw [List.getElem?_append_left hjx] at hj
      obtain ⟨b', o', e, hc⟩ := h 0 x rfl
      injection e with e; injection e with e1 e2; subst e1 e2
      simpa using hc j u hj
    · rw [List.getElem?_append_right (by omega)] at hj
      have h' : RowsAt w sz (some ⟨b, o + sz, none⟩) xs := fun i r hi => by
        obtain ⟨b', o', e, hc⟩ := h (i + 1) r (by simpa using hi)
        injection e with e; injection e with e1 e2; subst e1 e2
        refine ⟨_, _, rfl, fun j u hj => ?_⟩
        have := hc j u hj
        rwa [show o + (i + 1) * sz + j = o + sz + i * sz + j from by rw [Nat.succ_mul]; omega] at this
      have := ih (o + sz) h' (fun r hr => hs r (by simp [hr])) (j - x.length) u hj
      rwa [hx, show o + sz + (j - sz) = o + j from by omega] at this

section
variable {P : Program} {ops : Array Oper} {rest : List Oper} {o : Oper} {a : Act} {Q : Exit → Act → World → Prop}
/-- append(v, u...), behind 'at_builtin'. -/
theorem appendN {W : World} (base : Nat) (E : TypeId) (sz bytes : Nat) (z : Value) (hgd : o.guard = none) (s x : Operand) (t : TypeId)
    (ho : o.op = .call { callee := .builtin .append, args := #[s, x], argTypes := #[t, t] })
    (ht : P.underlying t = some (.slice E)) (hinfo : (P.info? E).map (fun i => (i.zero, i.size, i.bytes)) = some (some z, sz, bytes)) (hz : z.cells.size = sz) (hs0 : 0 < sz) (hb0 : 0 < bytes)
    (v : Value) (rows ys : List (List Value)) (hs : a.eval s = v) (A : Option Addr) (n c : Nat) (hx : a.eval x = .slice A n c) (hn : n = ys.length) (hA : A = none → c = 0) (HS : RowsAt W sz A ys)
    (hys : ∀ r, r ∈ ys → r.length = sz) (h1 : ∀ r, r ∈ ys → ∀ u ∈ r, u.oneCell' = true)
    (HO : Own W base E sz v rows) (hbase : base ≤ W.heap.size) (hl : (rows.length + ys.length) * bytes ≤ 140737488355328)
    (h : ∀ v1 w1, Own w1 base E sz v1 (rows ++ ys) → Fr (fun k => v.ownBlock = some k) W w1 → wpList P ops Q rest (a.put o.dst v1) w1) :
    wpList P ops Q (o :: rest) a W := by
  subst hn
  obtain ⟨i0, hi, hzz⟩ := Option.map_eq_some_iff.1 hinfo
  simp only [Prod.mk.injEq] at hzz
  obtain ⟨hz0, hz1, hz2⟩ := hzz
  have hlen : rows.length + ys.length ≤ 140737488355328 := Nat.le_trans (Nat.le_mul_of_pos_right _ hb0) hl
  cases A with
  | none =>
    obtain rfl := hA rfl
    obtain rfl : ys = [] := by
      cases ys with
      | nil => rfl
      | cons y ys => obtain ⟨_, _, e, _⟩ := HS 0 y rfl; cases e
    refine wpList_append_own_none hgd s x t ho base E i0 sz ht hi v rows.length rows.flatten hs HO.1 hx ?_
    exact h v W (by simpa using HO) (Fr.refl _ _)
  | some ad =>
    have hfl : ys.flatten.length = ys.length * sz := by
      clear HS h hl hlen hx
      induction ys with
      | nil => simp
      | cons y ys ih => rw [List.flatten_cons, List.length_append, hys y (by simp), ih (fun r hr => hys r (by simp [hr])) (fun r hr => h1 r (by simp [hr])), List.length_cons, Nat.succ_mul]; omega
    have hnews : ∀ j u, ys.flatten[j]? = some u → W.cell? (ad.add j) = some u := by
      cases ys with
      | nil => intro j u hj; simp at hj
      | cons y ys' =>
        obtain ⟨b, o', e, _⟩ := HS 0 y rfl
        injection e with e; subst e
        intro j u hj
        have := HS.flat b o' _ hys j u hj
        rwa [show (⟨b, o', none⟩ : Addr).add j = ⟨b, o' + j, none⟩ from by unfold Addr.add; split <;> simp_all]
    refine wpList_append_own_at W hgd s x t ho base E i0 z sz bytes ht hi hz0 hz1 hz2 hz hs0 v rows.length rows.flatten hs HO.1 ad ys.length c ys.flatten hx hfl hnews
      (fun u hu => by obtain ⟨r, hr, hur⟩ := List.mem_flatten.1 hu; exact h1 r hr u hur) (by simp only [maxLen]; omega) hl hbase ?_
    intro v1 w1 hown hg _ _
    refine h v1 w1 ⟨by simpa using hown, fun r hr => ?_⟩ ⟨hg.os, hg.tape, hg.output, hg.size, fun k hk hn => hg.block k hk (fun e => hn e.symm)⟩
    rcases List.mem_append.1 hr with hr | hr
    · exact HO.2 r hr
    · exact hys r hr
end

/-- A byte's row, and a list of bytes'. -/
def enB (x : UInt8) : List Value := [.int .u8 x.toNat]
abbrev bys (l : List UInt8) : List (List Value) := l.map enB
theorem bys_len (l : List UInt8) : (bys l).length = l.length := by simp
theorem bys_one (l : List UInt8) : ∀ r, r ∈ bys l → r.length = 1 := fun r hr => by obtain ⟨x, _, rfl⟩ := List.mem_map.1 hr; rfl
theorem bys_cell (l : List UInt8) : ∀ r, r ∈ bys l → ∀ u ∈ r, u.oneCell' = true := fun r hr u hu => by obtain ⟨x, _, rfl⟩ := List.mem_map.1 hr; simp [enB] at hu; subst hu; rfl
theorem bys_flat (l : List UInt8) : (bys l).flatten = l.map fun x => Value.int .u8 x.toNat := by
  induction l with
  | nil => rfl
  | cons x l ih => rw [bys, List.map_cons, List.flatten_cons, ih]; rfl
theorem bys_app (l k : List UInt8) : bys l ++ bys k = bys (l ++ k) := List.map_append.symm
/-- A text's bytes. -/
def txt (s : ByteArray) : List UInt8 := s.data.toList
theorem txt_len (s : ByteArray) : (txt s).length = s.size := Array.length_toList
theorem txt_inj {s t : ByteArray} (h : txt s = txt t) : s = t := by
  cases s; cases t; exact congrArg ByteArray.mk (Array.toList_inj.1 h)
theorem txt_same {s t : ByteArray} : (s.toList == t.toList) = decide (s = t) := by
  by_cases h : s = t
  · rw [str_same h]; simp [h]
  · rw [str_diff h]; simp [h]
theorem strCells_txt (s : ByteArray) : Lib.strCells s = (bys (txt s)).flatten := by rw [bys_flat]; rfl

section
variable {P : Program} {ops : Array Oper} {rest : List Oper} {o : Oper} {a : Act} {Q : Exit → Act → World → Prop}
/-- append(v, s...), s a text. -/
theorem appendS {W : World} (base : Nat) (E : TypeId) (hgd : o.guard = none) (sl x : Operand) (t u : TypeId)
    (ho : o.op = .call { callee := .builtin .append, args := #[sl, x], argTypes := #[t, u] })
    (ht : P.underlying t = some (.slice E)) (hu : P.underlying u = some .string) (hinfo : (P.info? E).map (fun i => (i.zero, i.size, i.bytes)) = some (some (.int .u8 0), 1, 1))
    (v : Value) (l : List UInt8) (s : ByteArray) (hs : a.eval sl = v) (hx : a.eval x = .string s)
    (HO : Own W base E 1 v (bys l)) (hbase : base ≤ W.heap.size) (hl : l.length + s.size ≤ 140737488355328)
    (h : ∀ v1 w1, Own w1 base E 1 v1 (bys (l ++ txt s)) → Fr (fun k => v.ownBlock = some k) W w1 → wpList P ops Q rest (a.put o.dst v1) w1) :
    wpList P ops Q (o :: rest) a W := by
  obtain ⟨i0, hi, hzz⟩ := Option.map_eq_some_iff.1 hinfo
  simp only [Prod.mk.injEq] at hzz
  obtain ⟨hz0, hz1, hz2⟩ := hzz
  have hO := HO.1
  rw [bys_len] at hO
  refine Lib.wpList_append_own_string W hgd sl x t u ho base E i0 ht hu hi hz0 hz1 hz2 v l.length (bys l).flatten hs hO s hx (by simp only [maxLen]; omega) hl hbase ?_
  intro v1 w1 hown hg _
  refine h v1 w1 ⟨?_, bys_one _⟩ ⟨hg.os, hg.tape, hg.output, hg.size, fun k hk hn => hg.block k hk (fun e => hn e.symm)⟩
  rw [strCells_txt, ← List.flatten_append, bys_app] at hown
  rw [bys_len, List.length_append, txt_len]
  exact hown
end
/-- What []byte(s) leaves. -/
theorem bytesWorld_below (w : World) (e : TypeId) (s : ByteArray) : Below w.heap.size w (Lib.bytesWorld w e s) :=
  ⟨rfl, rfl, rfl, by rw [Lib.bytesWorld_size]; omega, fun k hk => Lib.bytesWorld_at_old w e s k hk⟩
theorem bytesWorld_rows (w : World) (e : TypeId) (s : ByteArray) : RowsAt (Lib.bytesWorld w e s) 1 (some ⟨w.heap.size, 0, none⟩) (bys (txt s)) := by
  intro i r hi
  refine ⟨_, _, rfl, fun j u hj => ?_⟩
  rw [List.getElem?_map] at hi
  obtain ⟨x, hx, rfl⟩ := Option.map_eq_some_iff.1 hi
  cases j with
  | succ j => simp [enB] at hj
  | zero =>
    simp [enB] at hj
    subst hj
    have hlt := (List.getElem?_eq_some_iff.1 hx).1
    rw [txt_len] at hlt
    rw [show 0 + i * 1 + 0 = i from by omega, Lib.bytesWorld_cell w e s i hlt, List.getD, show s.data.toList[i]? = some x from hx]
    rfl
/-- string(b). -/
theorem run_str {P : Program} (w : World) (src dst e : TypeId) (hs : P.underlying src = some (.slice e)) (he : P.underlying e = some (.int .u8)) (hd : P.underlying dst = some .string)
    (A : Option Addr) (n c : Nat) (l : List UInt8) (hn : n = l.length) (hr : RowsAt w 1 A (bys l)) : (convert src dst (.slice A n c)).run P w = .ok (.string ⟨l.toArray⟩) w := by
  subst hn
  cases A with
  | none =>
    obtain rfl : l = [] := by
      cases l with
      | nil => rfl
      | cons y ys => obtain ⟨_, _, e, _⟩ := hr 0 (enB y) rfl; cases e
    exact Lib.run_convert_nil_bytes w src dst e c hs he hd
  | some a =>
    refine run_convert_bytes_back w src dst e a c l hs he hd (fun j hj => ?_)
    obtain ⟨b, o, e, hc⟩ := hr j (enB l[j]) (by simp [hj])
    injection e with e
    subst e
    have := hc 0 _ rfl
    rwa [show o + j * 1 + 0 = o + j from by omega, show (⟨b, o + j, none⟩ : Addr) = (⟨b, o, none⟩ : Addr).add j from by unfold Addr.add; split <;> simp_all] at this
/-- A literal's row. -/
theorem Own.lit (w : World) (E : TypeId) (sz n : Nat) (rows : List (List Value)) (cs : Array Value) (base : Nat) (hb : base ≤ w.heap.size) (hn : n = rows.length) (hm : n ≤ maxLen) (hcs : cs.toList = rows.flatten) (hs : ∀ r, r ∈ rows → r.length = sz) (hc : cs.size = n * sz) :
    Own (w.alloc (.cells cs E)) base E sz (.slice (some ⟨w.heap.size, 0, none⟩) n n) rows := by
  subst hn
  refine ⟨?_, hs⟩
  have := World.ownsRow_lit (base := base) (e := E) (size := sz) w cs rows.length hb hm hc
  rwa [hcs] at this
theorem Own.slv' {w : World} {base : Nat} {E : TypeId} {sz : Nat} {v : Value} {rows : List (List Value)} (h : Own w base E sz v rows) : ∃ A c, v = .slice A rows.length c ∧ rows.length ≤ c ∧ (A = none → c = 0) ∧ RowsAt w sz A rows := by
  obtain ⟨A, c, e, hl, hr⟩ := h.slv
  refine ⟨A, c, e, hl, fun hA => ?_, hr⟩
  subst hA
  rcases h.1.2 with ⟨hv, _⟩ | ⟨g, cap, cur, hv, _⟩
  · rw [e] at hv; simpa using congrArg (fun | .slice _ _ c => c | _ => 0) hv
  · rw [e] at hv; simp at hv
end Go.Proofs.BL
