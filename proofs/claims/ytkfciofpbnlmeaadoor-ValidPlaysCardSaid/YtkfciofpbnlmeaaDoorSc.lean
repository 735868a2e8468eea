/- Appends, and where the new row lies. -/
import Derived.Test.YtkfciofpbnlmeaaDoorSb
set_option linter.unusedVariables false
namespace Go.Proofs.BL
open Go.RowKit
section
variable {P : Program} {ops : Array Oper} {rest : List Oper} {o : Oper} {a : Act} {Q : Exit → Act → World → Prop}
/-- append(v, x), behind 'at_builtin': the variadic's block stands last. -/
theorem append1L {W : World} (base : Nat) (E : TypeId) (sz bytes : Nat) (z : Value) (hgd : o.guard = none) (s x : Operand) (t : TypeId)
    (ho : o.op = .call { callee := .builtin .append, args := #[s, x], argTypes := #[t, t] })
    (ht : P.underlying t = some (.slice E)) (hinfo : (P.info? E).map (fun i => (i.zero, i.size, i.bytes)) = some (some z, sz, bytes)) (hz : z.cells.size = sz) (hs0 : 0 < sz) (hb0 : 0 < bytes)
    (v : Value) (rows : List (List Value)) (ys : List Value) (hs : a.eval s = v) (m : Nat) (hx : a.eval x = .slice (some ⟨m, 0, none⟩) 1 1) (hm : W.heap.size = m) (hys : ys.length = sz) (h1 : ∀ u ∈ ys, u.oneCell' = true)
    (HO : Own W base E sz v rows) (hbase : base ≤ W.heap.size) (hl : (rows.length + 1) * bytes ≤ 140737488355328)
    (h : ∀ v1 w1, Own w1 base E sz v1 (rows ++ [ys]) → Fr (fun k => v.ownBlock = some k) W w1 → (∀ k, v1.ownBlock = some k → v.ownBlock = some k ∨ W.heap.size ≤ k) → wpList P ops Q rest (a.put o.dst v1) w1) :
    wpList P ops Q (o :: rest) a (W.alloc (.cells ys.toArray E)) := by
  subst hm
  obtain ⟨i0, hi, hzz⟩ := Option.map_eq_some_iff.1 hinfo
  simp only [Prod.mk.injEq] at hzz
  obtain ⟨hz0, hz1, hz2⟩ := hzz
  have hlen : rows.length + 1 ≤ 140737488355328 := Nat.le_trans (Nat.le_mul_of_pos_right _ hb0) hl
  refine wpList_append_own_at (W.alloc (.cells ys.toArray E)) hgd s x t ho base E i0 z sz bytes ht hi hz0 hz1 hz2 hz hs0 v rows.length rows.flatten hs (HO.alloc _).1 ⟨W.heap.size, 0, none⟩ 1 1 ys hx (by rw [hys]; simp)
    (by simpa using World.news_of_block (cs := ys.toArray) (t := E) (fr := (0, 0)) (heap_alloc_new W (.cells ys.toArray E))) h1 (by simp only [maxLen]; omega) hl (by simp; omega) ?_
  intro v1 w1 hown hg _ hloc
  refine h v1 w1 ⟨by simpa using hown, fun r hr => ?_⟩ ?_ (fun k hk => by
    rcases hloc with e | e
    · exact .inl (e ▸ hk)
    · rw [hk] at e; injection e with e; simp at e; exact .inr (by omega))
  · rcases List.mem_append.1 hr with hr | hr
    · exact HO.2 r hr
    · simp at hr; rw [hr]; exact hys
  · have hW : Fr (fun k => v.ownBlock = some k) W (W.alloc (.cells ys.toArray E)) := (Fr.refl _ _).alloc _
    exact hW.trans (T := fun k => v.ownBlock = some k) ⟨hg.os, hg.tape, hg.output, hg.size, fun k hk hn => hg.block k hk (fun e => hn e.symm)⟩ (fun _ _ h => h)
/-- append(v, u...), behind 'at_builtin'. -/
theorem appendNL {W : World} (base : Nat) (E : TypeId) (sz bytes : Nat) (z : Value) (hgd : o.guard = none) (s x : Operand) (t : TypeId)
    (ho : o.op = .call { callee := .builtin .append, args := #[s, x], argTypes := #[t, t] })
    (ht : P.underlying t = some (.slice E)) (hinfo : (P.info? E).map (fun i => (i.zero, i.size, i.bytes)) = some (some z, sz, bytes)) (hz : z.cells.size = sz) (hs0 : 0 < sz) (hb0 : 0 < bytes)
    (v : Value) (rows ys : List (List Value)) (hs : a.eval s = v) (A : Option Addr) (n c : Nat) (hx : a.eval x = .slice A n c) (hn : n = ys.length) (hA : A = none → c = 0) (HS : RowsAt W sz A ys)
    (hys : ∀ r, r ∈ ys → r.length = sz) (h1 : ∀ r, r ∈ ys → ∀ u ∈ r, u.oneCell' = true)
    (HO : Own W base E sz v rows) (hbase : base ≤ W.heap.size) (hl : (rows.length + ys.length) * bytes ≤ 140737488355328)
    (h : ∀ v1 w1, Own w1 base E sz v1 (rows ++ ys) → Fr (fun k => v.ownBlock = some k) W w1 → (∀ k, v1.ownBlock = some k → v.ownBlock = some k ∨ W.heap.size ≤ k) → wpList P ops Q rest (a.put o.dst v1) w1) :
    wpList P ops Q (o :: rest) a W := by
  subst hn
  obtain ⟨i0, hi, hzz⟩ := Option.map_eq_some_iff.1 hinfo
  simp only [Prod.mk.injEq] at hzz
  obtain ⟨hz0, hz1, hz2⟩ := hzz
  have hlen : rows.length + ys.length ≤ 140737488355328 := Nat.le_trans (Nat.le_mul_of_pos_right _ hb0) hl
  cases A with
  | none =>
    obtain rfl := hA rfl
    obtain rfl : ys = [] := by
      cases ys with
      | nil => rfl
      | cons y ys => obtain ⟨_, _, e, _⟩ := HS 0 y rfl; cases e
    refine wpList_append_own_none hgd s x t ho base E i0 sz ht hi v rows.length rows.flatten hs HO.1 hx ?_
    exact h v W (by simpa using HO) (Fr.refl _ _) (fun k hk => .inl hk)
  | some ad =>
    have hfl : ys.flatten.length = ys.length * sz := by
      clear HS h hl hlen hx
      induction ys with
      | nil => simp
      | cons y ys ih => rw [List.flatten_cons, List.length_append, hys y (by simp), ih (fun r hr => hys r (by simp [hr])) (fun r hr => h1 r (by simp [hr])), List.length_cons, Nat.succ_mul]; omega
    have hnews : ∀ j u, ys.flatten[j]? = some u → W.cell? (ad.add j) = some u := by
      cases ys with
      | nil => intro j u hj; simp at hj
      | cons y ys' =>
        obtain ⟨b, o', e, _⟩ := HS 0 y rfl
        injection e with e; subst e
        intro j u hj
        have := HS.flat b o' _ hys j u hj
        rwa [show (⟨b, o', none⟩ : Addr).add j = ⟨b, o' + j, none⟩ from by unfold Addr.add; split <;> simp_all]
    refine wpList_append_own_at W hgd s x t ho base E i0 z sz bytes ht hi hz0 hz1 hz2 hz hs0 v rows.length rows.flatten hs HO.1 ad ys.length c ys.flatten hx hfl hnews
      (fun u hu => by obtain ⟨r, hr, hur⟩ := List.mem_flatten.1 hu; exact h1 r hr u hur) (by simp only [maxLen]; omega) hl hbase ?_
    intro v1 w1 hown hg _ hloc
    refine h v1 w1 ⟨by simpa using hown, fun r hr => ?_⟩ ⟨hg.os, hg.tape, hg.output, hg.size, fun k hk hn => hg.block k hk (fun e => hn e.symm)⟩ (fun k hk => by
      rcases hloc with e | e
      · exact .inl (e ▸ hk)
      · rw [hk] at e; injection e with e; exact .inr (by omega))
    rcases List.mem_append.1 hr with hr | hr
    · exact HO.2 r hr
    · exact hys r hr
end
end Go.Proofs.BL
