/- PageLoads: what the law builds, and what is read, in plain words. Arguments of this chapter, opened. -/
import Derived.Test.YtlekfpeonehggaaGreatDoorJ46
import Derived.Test.YtlekfpeonehggaaGreatDoorJ41
import Derived.Test.YtlekfpeonehggaaGreatDoorJ38
import Derived.Test.YtlekfpeonehggaaGreatDoorJ02
import Derived.SliceStrings
import Derived.ChangeMaps5
import Derived.Lib.SmallJoins
section
set_option linter.unusedVariables false
namespace Go.Proofs.YtlekfpeonehggaaGreatDoor
open Go.Proofs.BL Go.Proofs.Peel Go.RowKit Go.Proofs.Ky

def PgW (w : World) (A : Option Addr) (P : List (List Rw)) : Prop :=
  ∀ (i : Nat) (r : List Rw), P[i]? = some r → ∃ b o B cc, A = some ⟨b, o, none⟩ ∧ w.cell? ⟨b, o + i, none⟩ = some (.slice B r.length cc) ∧ r.length ≤ cc ∧ RowsAt w 2 B (rwR r)
def cutR (x : Rw) : Rw := (if 20 < x.1.size then x.1.extract 0 20 else x.1, x.2)
def pgC (p : List Rw) (k : Nat) : List Rw := (p.take (min k 8)).map cutR
def pgsC (P : List (List Rw)) (i : Nat) : List (List Rw) := (P.take i).map (fun p => pgC p p.length)
theorem pgC_next {p : List Rw} {k : Nat} {x : Rw} (h : p[k]? = some x) (hk : k < 8) : pgC p (k + 1) = pgC p k ++ [cutR x] := by
  have hj := (List.getElem?_eq_some_iff.1 h).1
  have e : p[k] = x := (List.getElem?_eq_some_iff.1 h).2
  rw [pgC, pgC, Nat.min_eq_left (by omega), Nat.min_eq_left (by omega), List.take_succ_eq_append_getElem hj, e]
  simp
theorem pgC_stay {p : List Rw} {k : Nat} (hk : ¬ k < 8) : pgC p (k + 1) = pgC p k := by
  rw [pgC, pgC, Nat.min_eq_right (by omega), Nat.min_eq_right (by omega)]
theorem pgC_zero (p : List Rw) : pgC p 0 = [] := by simp [pgC]
theorem pgC_len (p : List Rw) (k : Nat) : (pgC p k).length ≤ 8 := by
  rw [pgC, List.length_map, List.length_take]
  omega
theorem pgsC_next {P : List (List Rw)} {i : Nat} {p : List Rw} (h : P[i]? = some p) : pgsC P (i + 1) = pgsC P i ++ [pgC p p.length] := by
  have hj := (List.getElem?_eq_some_iff.1 h).1
  have e : P[i] = p := (List.getElem?_eq_some_iff.1 h).2
  rw [pgsC, pgsC, List.take_succ_eq_append_getElem hj, e]
  simp
theorem flat_bound {P : List (List Rw)} {m : Nat} (h : ∀ r ∈ P, r.length ≤ m) : P.flatten.length ≤ P.length * m := by
  induction P with
  | nil => simp
  | cons p P ih =>
    have h1 := ih (fun r hr => h r (by simp [hr]))
    have h2 := h p (by simp)
    rw [List.flatten_cons, List.length_append, List.length_cons, Nat.succ_mul]
    omega
theorem rows_bound {l : List Rw} (h : ∀ x ∈ l, RwOk x) : ((l.map rowB).flatten).length ≤ l.length * 2000 := by
  induction l with
  | nil => simp
  | cons x l ih =>
    have h1 := ih (fun r hr => h r (by simp [hr]))
    have hx := h x (by simp)
    have h3 := strB_len x.1 (by have := hx.1; omega)
    have h4 := natB_len (zig x.2) (zig_lt _ hx.2.1 hx.2.2)
    have := hx.1
    rw [List.map_cons, List.flatten_cons, List.length_append, rowB, List.length_append, List.length_cons, Nat.succ_mul]
    omega
theorem stBy_bound {P : List (List Rw)} {m n : Nat} (hn : P.length ≤ n) (hm : ∀ r ∈ P, r.length ≤ m) (hok : ∀ r ∈ P, ∀ x ∈ r, RwOk x) (hn4 : n ≤ 1000) (hm4 : m ≤ 1000) : (stBy P).length ≤ 9 + n * (9 + m * 2000) := by
  have h1 : ∀ {P : List (List Rw)}, (∀ r ∈ P, r.length ≤ m) → (∀ r ∈ P, ∀ x ∈ r, RwOk x) → ((P.map pgB).flatten).length ≤ P.length * (9 + m * 2000) := by
    intro P
    induction P with
    | nil => intros; simp
    | cons p P ih =>
      intro h h'
      have h1 := ih (fun r hr => h r (by simp [hr])) (fun r hr => h' r (by simp [hr]))
      have h2 := h p (by simp)
      have h3 := rows_bound (h' p (by simp))
      have h4 := natB_len p.length (by omega)
      have h5 : p.length * 2000 ≤ m * 2000 := Nat.mul_le_mul_right _ h2
      rw [List.map_cons, List.flatten_cons, List.length_append, pgB, List.length_append, List.length_cons, Nat.succ_mul]
      omega
  have h2 := h1 hm hok
  have h3 := natB_len P.length (by omega)
  have h4 : P.length * (9 + m * 2000) ≤ n * (9 + m * 2000) := Nat.mul_le_mul_right _ hn
  rw [stBy, List.length_append]
  omega
structure LdIn (P : List (List Rw)) : Prop where
  a : P.length ≤ 6
  b : ∀ r ∈ P, r.length ≤ 8
  c : ∀ r ∈ P, ∀ x ∈ r, RwOk x
  d : (stBy P).length ≤ 100000
  e : P.flatten.length ≤ 48
theorem pgsC_in {P : List (List Rw)} {i : Nat} (hi : i ≤ 6) (hw : ∀ r ∈ P, ∀ x ∈ r, -9223372036854775808 ≤ x.2 ∧ x.2 ≤ 9223372036854775807) : LdIn (pgsC P i) := by
  have a : (pgsC P i).length ≤ 6 := by rw [pgsC, List.length_map, List.length_take]; omega
  have b : ∀ r ∈ pgsC P i, r.length ≤ 8 := fun r hr => by
    obtain ⟨p, _, rfl⟩ := List.mem_map.1 hr
    exact pgC_len _ _
  have c : ∀ r ∈ pgsC P i, ∀ x ∈ r, RwOk x := fun r hr x hx => by
    obtain ⟨p, hp, rfl⟩ := List.mem_map.1 hr
    obtain ⟨y, hy, rfl⟩ := List.mem_map.1 hx
    have h1 := hw p (List.mem_of_mem_take hp) y (List.mem_of_mem_take hy)
    refine ⟨?_, h1.1, h1.2⟩
    unfold cutR
    split
    · show (ByteArray.extract _ 0 20).size ≤ 1000
      rw [ByteArray.size_extract]
      omega
    · show y.1.size ≤ 1000
      omega
  refine ⟨a, b, c, ?_, ?_⟩
  · have := stBy_bound a b c (by decide) (by decide)
    omega
  · have := flat_bound b
    omega
theorem goP_ok {bs : List UInt8} : ∀ {n a : Nat} {P : List (List Rw)} {a' : Nat}, goP bs n a = some (P, a') → ∀ r ∈ P, ∀ x ∈ r, RwOk x
  | 0, a, P, a', h => by rw [goP] at h; injection h with h; injection h with h _; subst h; intro r hr; cases hr
  | n + 1, a, P, a', h => by
    rw [goP] at h
    split at h
    · obtain ⟨x, h1, h2⟩ := Option.bind_eq_some_iff.1 h
      obtain ⟨y, h3, h4⟩ := Option.map_eq_some_iff.1 h2
      injection h4 with h4 _
      subst h4
      intro r hr
      rcases List.mem_cons.1 hr with rfl | hr
      · exact fun z hz => ((goR_inv (l := x.1) (a' := x.2) h1).2.2 z hz).2
      · exact goP_ok h3 r hr
    · cases h
theorem decP_ok {bs : List UInt8} {most : Nat} {P : List (List Rw)} (h : decP bs most = some P) (hm : most ≤ 64) : PgOk P := by
  unfold decP at h
  split at h
  · obtain ⟨x, h1, h2⟩ := Option.bind_eq_some_iff.1 h
    unfold finP at h2
    split at h2
    · rename_i hc
      injection h2 with h2
      rw [List.nil_append] at h2 hc
      subst h2
      have hl := hldB_len hc.2
      have hok := goP_ok (P := x.1) (a' := x.2) h1
      have hh := hc.2
      unfold hldB hldP at hh
      simp only [Bool.and_eq_true] at hh
      have hk : ∀ r ∈ x.1, r.length ≤ 64 := fun r hr => by
        have := List.all_eq_true.1 hh.1.2 r hr
        simp only [Bool.and_eq_true, decide_eq_true_eq] at this
        omega
      have hf : x.1.flatten.length ≤ 256 := of_decide_eq_true hh.2
      refine ⟨by omega, by omega, fun r hr => by have := hk r hr; omega, hok, ?_⟩
      have := stBy_bound hl hk hok (by decide) (by decide)
      omega
    · cases h2
  · cases h
theorem xor8 (x y : Int) : ∃ u : UInt8, bits BinOp.xor IntKind.u8 x y = (u.toNat : Int) := by
  obtain ⟨z, hz⟩ : ∃ z : Int, bits BinOp.xor IntKind.u8 x y = IntKind.u8.wrap z := ⟨_, rfl⟩
  refine ⟨UInt8.ofNat (z % 256).toNat, ?_⟩
  rw [hz]
  show z % 256 = _
  simp
  omega
set_option maxHeartbeats 4000000 in
theorem pgLoadBad (v : Value) (most : Int) (w : World) (h : ¬ (2 ≤ most ∧ most ≤ 64)) :
    Calls Tryz.prog 6 #[v, .int .i64 most] w (fun e w' => e = .returned (.tuple #[.pointer none, .int .i64 2]) ∧ w' = w) := by
  refine via fun Q hQ => ?_
  have HN := Lib.hid (pgNewBad most w h)
  have HQ := Lib.hid hQ
  clear hQ h
  go_enter Tryz.func6, Tryz.ntmps6
  go_wp2_with fail
  (with_reducible refine HN.out.mono ?_)
  rintro e w1 ⟨rfl, rfl⟩
  go_wp2_with fail
  exact HQ.out _ _ ⟨rfl, rfl⟩
end Go.Proofs.YtlekfpeonehggaaGreatDoor
end

section
namespace Go.Proofs.YtlekfpeonehggaaGreatDoor
open Go.Proofs.BL Go.ChangeShapes Go.WideShapes Go.ChangeAt Go.RowKit Go.Deep Go.Proofs.Ky
set_option maxRecDepth 100000
set_option linter.unusedVariables false
def In64_ (x : Int) : Prop := -9223372036854775808 ≤ x ∧ x ≤ 9223372036854775807
theorem lit_i64 {n : Int} (h : (Lit.int .i64 n).wf = true) : In64_ n := by
  have h2 := Bool.and_eq_true_iff.1 (show (decide (IntKind.i64.min ≤ n) && decide (n ≤ IntKind.i64.max)) = true from h)
  exact ⟨of_decide_eq_true h2.1, of_decide_eq_true h2.2⟩
theorem pgw_of {w : World} {A : Option Addr} {L : List (List Rw × Option Addr × Nat)} (hr : RowsAt w 1 A (L.map fun x => [.slice x.2.1 x.1.length x.2.2])) (hw : ∀ x ∈ L, x.1.length ≤ x.2.2 ∧ RowsAt w 2 x.2.1 (rwR x.1) ∧ x.1.length ≤ 9223372036854775807 ∧ ∀ o ∈ x.1, In64_ o.2) :
    PgW w A (L.map fun x => x.1) ∧ ∀ r ∈ (L.map fun x => x.1), r.length ≤ 9223372036854775807 ∧ ∀ x ∈ r, -9223372036854775808 ≤ x.2 ∧ x.2 ≤ 9223372036854775807 := by
  refine ⟨fun i r hi => ?_, fun r hr => ?_⟩
  · rw [List.getElem?_map] at hi
    obtain ⟨x, hx, rfl⟩ := Option.map_eq_some_iff.1 hi
    obtain ⟨b, o, e, hc⟩ := hr i [.slice x.2.1 x.1.length x.2.2] (by rw [List.getElem?_map, hx]; rfl)
    have h := hw x (List.mem_of_getElem? hx)
    refine ⟨b, o, x.2.1, x.2.2, e, ?_, h.1, h.2.1⟩
    have := hc 0 _ rfl
    rw [Nat.mul_one, Nat.add_zero] at this
    exact this
  · obtain ⟨x, hx, rfl⟩ := List.mem_map.1 hr
    exact ⟨(hw x hx).2.2.1, (hw x hx).2.2.2⟩
theorem lit_u8 {n : Int} (h : (Lit.int .u8 n).wf = true) : ∃ x : UInt8, n = x.toNat := by
  have h2 := Bool.and_eq_true_iff.1 (show (decide (IntKind.u8.min ≤ n) && decide (n ≤ IntKind.u8.max)) = true from h)
  have h3 : (0 : Int) ≤ n := of_decide_eq_true h2.1
  have h4 : n ≤ 255 := of_decide_eq_true h2.2
  exact ⟨UInt8.ofNat n.toNat, by simp; omega⟩
section
variable {H : Type} {enc : TypeId × Value → H} {w : World} {base : Nat} {spare : Nat → Bool} {held : Bool}
theorem rows_of_trod {fuel : Nat} {cs : List Value} {x : DataW H × List MemPlace} (h : DataW.trod enc Tryz.prog w base spare held fuel 27 cs = some x) :
    ∃ (l : List Rw) (A : Option Addr) (c : Nat), cs = [.slice A l.length c] ∧ l.length ≤ c ∧ RowsAt w 2 A (rwR l) ∧ l.length ≤ 9223372036854775807 ∧ ∀ o ∈ l, In64_ o.2 := by
  rcases open_slice_fields Tryz.underlying27 Tryz.underlying29 (by kernel_rfl) (by kernel_rfl) h with hcs | ⟨a, len, cap, hcs, hl, hm, hi⟩
  · exact ⟨[], none, 0, hcs, Nat.le_refl _, RowsAt.nil _ _ _, by simp, fun o ho => by cases ho⟩
  · have hx : ∀ i, i < len → ∃ o : Rw, (∀ j u, (enR o)[j]? = some u → w.cell? (a.add (i * 2 + j)) = some u) ∧ (In64_ o.2) := fun i hil => by
      obtain ⟨v0, y0, n0, c0, t0⟩ := hi i hil 0 _ rfl
      obtain ⟨v1, y1, n1, c1, t1⟩ := hi i hil 1 _ rfl
      obtain ⟨x0, e0, _, g0⟩ := DataW.trod_string Tryz.underlying9 t0
      obtain ⟨x1, e1, _, g1⟩ := DataW.trod_int Tryz.underlying2 t1
      simp only [List.cons.injEq, and_true] at e0 e1
      subst e0 e1
      have q1 := lit_i64 g1
      refine ⟨(x0, x1), fun j u hj => ?_, by first | exact trivial | (refine ⟨?_, ?_⟩ <;> assumption) | assumption | (exact ⟨by assumption, by assumption, by assumption⟩)⟩
      unfold enR at hj
      rcases j with _ | _ | j
      · simp at hj; subst hj; exact c0
      · simp at hj; subst hj; exact c1
      · simp at hj
    haveI : Inhabited (Rw) := ⟨(⟨#[]⟩, 0)⟩
    obtain ⟨f, hf⟩ := choose_lt hx
    refine ⟨(List.range len).map f, some a, cap, by rw [hcs]; simp, by simpa using hl, ?_, by simpa [maxLen] using Nat.le_trans hl hm, fun o ho => ?_⟩
    · refine rowsAt_of_cells (by decide) (fun i r hr => ?_)
      rw [rwR, List.getElem?_map, List.getElem?_map] at hr
      obtain ⟨x, hx1, rfl⟩ := Option.map_eq_some_iff.1 hr
      obtain ⟨k, hk, rfl⟩ := Option.map_eq_some_iff.1 hx1
      have hil : i < len := by
        have := (List.getElem?_eq_some_iff.1 hk).1
        simpa using this
      have hki : k = i := by
        have := (List.getElem?_eq_some_iff.1 hk).2
        simpa using this.symm
      subst hki
      exact ⟨rfl, (hf _ hil).1⟩
    · obtain ⟨k, hk, rfl⟩ := List.mem_map.1 ho
      exact (hf k (List.mem_range.1 hk)).2
theorem open_rows {v : Value} {d : DataW H} {p : List MemPlace} {b0 : Nat} {r : Reach} (hv : Value.okWide Tryz.prog w r b0 27 v) (h : DataW.Trod enc Tryz.prog w base spare held 27 v d p) :
    ∃ (l : List Rw) (A : Option Addr) (c : Nat), v = .slice A l.length c ∧ l.length ≤ c ∧ RowsAt w 2 A (rwR l) ∧ l.length ≤ 9223372036854775807 ∧ ∀ o ∈ l, In64_ o.2 := by
  obtain ⟨a0, len0, cap0, rfl⟩ := okWide_slice Tryz.underlying27 hv
  obtain ⟨fuel, hf⟩ := h
  obtain ⟨l, A, c, e, h1, h2, h3, h4⟩ := rows_of_trod hf
  have e2 : Value.slice a0 len0 cap0 = .slice A l.length c := by simpa [Value.cells] using e
  exact ⟨l, A, c, e2, h1, h2, h3, h4⟩
theorem open_pages {v : Value} {d : DataW H} {p : List MemPlace} {b0 : Nat} {r : Reach} (hv : Value.okWide Tryz.prog w r b0 22 v) (h : DataW.Trod enc Tryz.prog w base spare held 22 v d p) :
    ∃ (L : List (List Rw × Option Addr × Nat)) (A : Option Addr) (c : Nat), v = .slice A L.length c ∧ L.length ≤ c ∧ RowsAt w 1 A (L.map fun x => [.slice x.2.1 x.1.length x.2.2]) ∧ L.length ≤ 9223372036854775807 ∧
      ∀ x ∈ L, x.1.length ≤ x.2.2 ∧ RowsAt w 2 x.2.1 (rwR x.1) ∧ x.1.length ≤ 9223372036854775807 ∧ ∀ o ∈ x.1, In64_ o.2 := by
  obtain ⟨a0, len0, cap0, rfl⟩ := okWide_slice Tryz.underlying22 hv
  obtain ⟨fuel, hf⟩ := h
  rcases open_slice Tryz.underlying22 hf with ⟨hcs, _⟩ | ⟨a, len, cap, m, n, D, Pl, hcs, hb, hl, hm, hmm, hx, hi⟩
  · obtain ⟨rfl, rfl, rfl⟩ : a0 = none ∧ len0 = 0 ∧ cap0 = 0 := by simpa [Value.cells] using hcs
    exact ⟨[], none, 0, rfl, Nat.le_refl _, RowsAt.nil _ _ _, by simp, fun x hx => by cases hx⟩
  · obtain ⟨rfl, rfl, rfl⟩ : a0 = some a ∧ len0 = len ∧ cap0 = cap := by simpa [Value.cells] using hcs
    have hC : Tryz.prog.cellsOf 27 = 1 := by kernel_rfl
    have hx : ∀ i, i < len0 → ∃ x : List Rw × Option Addr × Nat, w.cell? (a.add i) = some (.slice x.2.1 x.1.length x.2.2) ∧ x.1.length ≤ x.2.2 ∧ RowsAt w 2 x.2.1 (rwR x.1) ∧ x.1.length ≤ 9223372036854775807 ∧ ∀ o ∈ x.1, In64_ o.2 := fun i hil => by
      obtain ⟨cs', hc, ht'⟩ := hi i (by rw [hmm]; split <;> omega)
      rw [hC] at hc
      obtain ⟨l, A, c, e, h1, h2, h3, h4⟩ := rows_of_trod ht'
      subst e
      obtain ⟨_, hcl, hat⟩ := World.cells?_some hc
      have := hat 0 (by decide)
      rw [Nat.mul_one] at this
      have e0 : (a.add i).add 0 = a.add i := by simp [Addr.add]
      rw [e0] at this
      exact ⟨(l, A, c), by rw [this]; rfl, h1, h2, h3, h4⟩
    haveI : Inhabited (List Rw × Option Addr × Nat) := ⟨([], none, 0)⟩
    obtain ⟨f, hf⟩ := choose_lt hx
    refine ⟨(List.range len0).map f, some a, cap0, by simp, by simpa using hl, ?_, by simpa [maxLen] using Nat.le_trans hl hm, fun o ho => ?_⟩
    · refine rowsAt_of_cells (by decide) (fun i r hr => ?_)
      rw [List.getElem?_map, List.getElem?_map] at hr
      obtain ⟨x, hx1, rfl⟩ := Option.map_eq_some_iff.1 hr
      obtain ⟨k, hk, rfl⟩ := Option.map_eq_some_iff.1 hx1
      have hil : i < len0 := by
        have := (List.getElem?_eq_some_iff.1 hk).1
        simpa using this
      have hki : k = i := by
        have := (List.getElem?_eq_some_iff.1 hk).2
        simpa using this.symm
      subst hki
      refine ⟨rfl, fun j u hj => ?_⟩
      cases j with
      | zero =>
        simp at hj
        subst hj
        rw [Nat.mul_one, Nat.add_zero]
        exact (hf _ hil).1
      | succ j => simp at hj
    · obtain ⟨k, hk, rfl⟩ := List.mem_map.1 ho
      exact (hf k (List.mem_range.1 hk)).2
theorem open_bytes {v : Value} {d : DataW H} {p : List MemPlace} {b0 : Nat} {r : Reach} (hv : Value.okWide Tryz.prog w r b0 23 v) (h : DataW.Trod enc Tryz.prog w base spare held 23 v d p) :
    ∃ (l : List UInt8) (A : Option Addr) (c : Nat), v = Value.slice A l.length c ∧ l.length ≤ c ∧ (A = none → c = 0) ∧ RowsAt w 1 A (bys l) ∧ c ≤ 9223372036854775807 := by
  obtain ⟨a0, len0, cap0, rfl⟩ := okWide_slice Tryz.underlying23 hv
  obtain ⟨fuel, hf⟩ := h
  rcases open_ints Tryz.underlying23 Tryz.underlying5 (by kernel_rfl) hf with ⟨hcs, _⟩ | ⟨a, len, cap, zs, hcs, _, hl, hm, hlen, _, hc, hwf⟩
  · obtain ⟨rfl, rfl, rfl⟩ : a0 = none ∧ len0 = 0 ∧ cap0 = 0 := by simpa [Value.cells] using hcs
    exact ⟨[], none, 0, rfl, by simp, fun _ => rfl, RowsAt.nil _ _ _, by decide⟩
  · obtain ⟨rfl, rfl, rfl⟩ : a0 = some a ∧ len0 = len ∧ cap0 = cap := by simpa [Value.cells] using hcs
    have hsl : len0 ≤ zs.length := by rw [hlen]; split <;> omega
    refine ⟨(zs.take len0).map fun z => UInt8.ofNat z.toNat, some a, cap0, by simp [List.length_take, hsl], by simp [List.length_take]; omega, (fun h => by cases h), rowsAt_of_cells (by decide) (fun i r hr => ?_), by simpa [maxLen] using hm⟩
    rw [List.getElem?_map, List.getElem?_map, List.getElem?_take] at hr
    split at hr
    · rename_i hi
      obtain ⟨x, hx, rfl⟩ := Option.map_eq_some_iff.1 hr
      obtain ⟨z, hz, rfl⟩ := Option.map_eq_some_iff.1 hx
      refine ⟨rfl, fun j u hj => ?_⟩
      cases j with
      | succ j => simp [enB] at hj
      | zero =>
        obtain ⟨y, rfl⟩ := lit_u8 (hwf z (List.mem_of_getElem? hz))
        simp [enB] at hj
        subst hj
        have := hc i (by omega)
        rwa [List.getD, hz, show i = i * 1 + 0 from by omega] at this
    · simp at hr
end
end Go.Proofs.YtlekfpeonehggaaGreatDoor
end
