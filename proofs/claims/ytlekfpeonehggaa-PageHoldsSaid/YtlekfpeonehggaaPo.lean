/- PageHolds: plain part; small, walked. -/
import Derived.Test.YtlekfpeonehggaaPm
import Derived.Test.YtlekfpeonehggaaKRa
import Derived.Test.YtlekfpeonehggaaRg
set_option linter.unusedVariables false
set_option linter.unusedSimpArgs false
set_option maxRecDepth 100000
namespace Go.Proofs.Ytlekfpeonehggaa
open Go.Proofs.BL Go.Proofs.Peel Go.RowKit Go.Proofs.Ky

structure Opp where
  kind : Int
  key : ByteArray
  to_ : ByteArray
  n : Int
def enP (o : Opp) : List Value := [.int .i64 o.kind, .string o.key, .string o.to_, .int .i64 o.n]
def rwP (l : List Opp) : List (List Value) := l.map enP
theorem rwP_len (l : List Opp) : (rwP l).length = l.length := by simp [rwP]
theorem oppAt {w : World} {A : Option Addr} {l : List Opp} (h : RowsAt w 4 A (rwP l)) {i : Nat} {r : Opp} (hi : l[i]? = some r) :
    ∃ b o, A = some ⟨b, o, none⟩ ∧ w.cell? ⟨b, o + i * 4, none⟩ = some (.int .i64 r.kind) ∧ w.cell? ⟨b, o + i * 4 + 1, none⟩ = some (.string r.key) ∧ w.cell? ⟨b, o + i * 4 + 2, none⟩ = some (.string r.to_) ∧ w.cell? ⟨b, o + i * 4 + 3, none⟩ = some (.int .i64 r.n) := by
  obtain ⟨b, o, e, hc⟩ := h i (enP r) (by rw [rwP, List.getElem?_map, hi]; rfl)
  exact ⟨b, o, e, hc 0 _ rfl, hc 1 _ rfl, hc 2 _ rfl, hc 3 _ rfl⟩
def cut20 (s : ByteArray) : ByteArray := if 20 < s.size then s.extract 0 20 else s
/-- One call, on rows alone. -/
def stepR (o : Opp) (rows : List Rw) : List Rw :=
  if o.kind ≤ 2 then if (cut20 o.key).size ≤ 16 then withR tx (cut20 o.key) (some o.n) rows else rows else withR tx (cut20 o.key) none rows
structure HoldP (most : Int) (rows : List Rw) (P : List (List Rw)) : Prop where
  g : GoodP most P
  f : P.flatten = rows
theorem hold_put {most : Int} (hm : 2 ≤ most) {rows : List Rw} {P : List (List Rw)} (h : HoldP most rows P) (hl : rows.length < 256) (key : ByteArray) (n : Int) :
    (putV most key n P).2 = (if key.size ≤ 16 then 0 else 2) ∧ HoldP most (if key.size ≤ 16 then withR tx key (some n) rows else rows) (putV most key n P).1 := by
  have hg := good_put hm h.g key n
  have hf := h.f
  unfold putV at *
  by_cases hk : 16 < key.size
  · rw [if_pos hk] at hg ⊢
    rw [if_neg (by omega), if_neg (by omega)]
    exact ⟨rfl, hg, hf⟩
  · rw [if_neg hk] at hg ⊢
    rw [if_neg (by rw [hf]; omega)] at hg ⊢
    rw [if_pos (by omega), if_pos (by omega)]
    refine ⟨rfl, hg, ?_⟩
    show (putS tx most.toNat key n P).flatten = _
    rw [put_flat tx h.g.p, hf]
theorem hold_del {most : Int} {rows : List Rw} {P : List (List Rw)} (h : HoldP most rows P) (key : ByteArray) :
    (delV most key P).2 = (get key rows).isSome ∧ HoldP most (withR tx key none rows) (delV most key P).1 := by
  have hg := good_del h.g key
  have hf := h.f
  unfold delV at *
  rw [hf] at hg ⊢
  cases hs : (get key rows).isSome with
  | true =>
    rw [hs, if_pos rfl] at hg
    have hn : P ≠ [] := fun e => by rw [e] at hf; subst hf; cases hs
    refine ⟨rfl, hg, ?_⟩
    show (delS tx most.toNat key P).flatten = _
    rw [del_flat tx h.g.p hn, hf]
  | false =>
    rw [hs, if_neg (by simp)] at hg
    refine ⟨rfl, hg, ?_⟩
    show P.flatten = _
    rw [hf]
    have hu : Up tx rows := hf ▸ h.g.p.1
    have hgt := get_there tx (k := key) hu
    rw [with_none tx hu]
    split
    · rename_i ht
      rw [if_pos ht, List.getElem?_eq_getElem (there_lt tx ht)] at hgt
      rw [hgt] at hs
      cases hs
    · rfl
theorem step_len {o : Opp} {rows : List Rw} (h : Up tx rows) : (stepR o rows).length ≤ rows.length + 1 := by
  unfold stepR
  split
  · split
    · exact len_with tx _ h
    · omega
  · exact len_with tx _ h
theorem heap_two (w : World) (o o' : Obj) : ((w.alloc o).alloc o').heap[w.heap.size + 1]? = some o' := by
  have := heap_alloc_new (w.alloc o) o'
  rwa [alloc_sz] at this
def SmallPost (o : Opp) (w : World) (e : Ending) (w' : World) : Prop := e = .returned (.agg #[.int .i64 o.kind, .string (cut20 o.key), .string (cut20 o.to_), .int .i64 o.n]) ∧ Below w.heap.size w w'
set_option maxHeartbeats 2000000 in
theorem lsmall (o : Opp) (w : World) : Calls Try.prog 11 #[.agg #[.int .i64 o.kind, .string o.key, .string o.to_, .int .i64 o.n]] w (SmallPost o w) := by
  refine via fun Q hQ => ?_
  obtain ⟨k, key, tt, n⟩ := o
  have h1 : cut20 key = if 20 < key.size then key.extract 0 20 else key := rfl
  have h2 : cut20 tt = if 20 < tt.size then tt.extract 0 20 else tt := rfl
  unfold SmallPost at hQ
  simp only at hQ ⊢
  generalize cut20 key = ck at *
  generalize cut20 tt = ct at *
  by_cases hk : 20 < key.size
  all_goals
    by_cases hq : 20 < tt.size
    all_goals
      first | rw [if_pos hk] at h1 | rw [if_neg hk] at h1
      first | rw [if_pos hq] at h2 | rw [if_neg hq] at h2
      subst h1 h2
      have HQ := Lib.hid hQ
      clear hQ
      go_enter Try.func11, Try.ntmps11
      go_wp2_with fail
      exact bodyPost_ret (results_cell_row rfl _ _ (w.heap.size + 1) 36 _ (0, 0) _ rfl (heap_two w _ _) Try.underlying36 rfl (by kernel_rfl)) rfl (HQ.out _ _ ⟨rfl, ((Below.refl _ _).alloc (Nat.le_refl _) _).alloc (by simp) _⟩)
end Go.Proofs.Ytlekfpeonehggaa
