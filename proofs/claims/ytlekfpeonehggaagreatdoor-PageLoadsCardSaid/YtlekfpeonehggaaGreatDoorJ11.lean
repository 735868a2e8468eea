/- Rows of one's own in a block that may be longer than what the slice may reach. -/
import Derived.Test.YtlekfpeonehggaaGreatDoorJ10
import Derived.ArgAppend
section
set_option linter.unusedVariables false
namespace Go.Proofs.BL
open Go.RowKit

def OwnW (w : World) (base : Nat) (E : TypeId) (sz : Nat) (v : Value) (rows : List (List Value)) : Prop :=
  (rows.flatten.length = rows.length * sz ∧ ((v = .slice none 0 0 ∧ rows.length = 0) ∨
    ∃ g cap cur, v = .slice (some ⟨g, 0, none⟩) rows.length cap ∧ base ≤ g ∧ w.heap[g]? = some (.cells cur E (0, 0)) ∧ rows.length ≤ cap ∧ cap ≤ maxLen ∧ cap * sz ≤ cur.size ∧ cur.toList.take (rows.length * sz) = rows.flatten)) ∧ ∀ r, r ∈ rows → r.length = sz
theorem Own.w {w : World} {base : Nat} {E : TypeId} {sz : Nat} {v : Value} {rows : List (List Value)} (h : Own w base E sz v rows) : OwnW w base E sz v rows :=
  ⟨⟨h.1.1, h.1.2.elim .inl (fun ⟨g, cap, cur, h1, h2, h3, h4, h5, h6, h7⟩ => .inr ⟨g, cap, cur, h1, h2, h3, h4, h5, Nat.le_of_eq h6.symm, h7⟩)⟩, h.2⟩
theorem OwnW.lt {w : World} {base : Nat} {E : TypeId} {sz : Nat} {v : Value} {rows : List (List Value)} (h : OwnW w base E sz v rows) : ∀ k, v.ownBlock = some k → base ≤ k ∧ k < w.heap.size := by
  intro k hk
  rcases h.1.2 with ⟨hv, _⟩ | ⟨g, cap, cur, hv, hb, hh, _⟩
  · rw [hv] at hk; cases hk
  · rw [hv] at hk
    injection hk with hk
    subst hk
    exact ⟨hb, (Array.getElem?_eq_some_iff.1 hh).1⟩
theorem OwnW.fr {S : Nat → Prop} {w w' : World} {base : Nat} {E : TypeId} {sz : Nat} {v : Value} {rows : List (List Value)} (h : OwnW w base E sz v rows) (hf : Fr S w w') (hS : ∀ k, v.ownBlock = some k → ¬ S k) : OwnW w' base E sz v rows := by
  refine ⟨⟨h.1.1, ?_⟩, h.2⟩
  rcases h.1.2 with h1 | ⟨g, cap, cur, hv, hb, hh, r⟩
  · exact Or.inl h1
  · exact Or.inr ⟨g, cap, cur, hv, hb, (hf.block g (Array.getElem?_eq_some_iff.1 hh).1 (hS g (by rw [hv]; rfl))).trans hh, r⟩
theorem OwnW.below {w w' : World} {base : Nat} {E : TypeId} {sz : Nat} {v : Value} {rows : List (List Value)} (h : OwnW w base E sz v rows) (hb : Below w.heap.size w w') : OwnW w' base E sz v rows :=
  h.fr (Fr.of_below (S := none_) hb) (fun _ _ e => e)
theorem OwnW.own_type {w : World} {base : Nat} {E : TypeId} {sz : Nat} {v : Value} {rows : List (List Value)} (h : OwnW w base E sz v rows) (k : Nat) (hk : v.ownBlock = some k) {cs : Array Value} {t : TypeId} {f : Nat × Nat} (hh : w.heap[k]? = some (.cells cs t f)) : t = E := by
  rcases h.1.2 with ⟨h1, _⟩ | ⟨g, cap, cur, hv, _, hg, _⟩
  · rw [h1] at hk; simp [Value.ownBlock] at hk
  · have : g = k := by rw [hv] at hk; simpa [Value.ownBlock] using hk
    subst this
    rw [hh] at hg
    injection hg with hg
    injection hg with _ e
/-- The value of such a row, if it is not empty. -/
theorem OwnW.some_ {w : World} {base : Nat} {E : TypeId} {sz : Nat} {v : Value} {rows : List (List Value)} (h : OwnW w base E sz v rows) (hn : rows ≠ []) : ∃ g c, v = .slice (some ⟨g, 0, none⟩) rows.length c ∧ rows.length ≤ c ∧ c ≤ maxLen := by
  rcases h.1.2 with ⟨_, h1⟩ | ⟨g, c, cur, h1, _, _, h2, h3, _⟩
  · exact absurd (List.eq_nil_of_length_eq_zero h1) hn
  · exact ⟨g, c, h1, h2, h3⟩
theorem OwnW.slv' {w : World} {base : Nat} {E : TypeId} {sz : Nat} {v : Value} {rows : List (List Value)} (h : OwnW w base E sz v rows) : ∃ A c, v = .slice A rows.length c ∧ rows.length ≤ c ∧ (A = none → c = 0) ∧ RowsAt w sz A rows := by
  rcases h.1.2 with ⟨h1, h0⟩ | ⟨g, cap, cur, hv, _, hg, hn, _, hcs, ht⟩
  · obtain rfl := List.eq_nil_of_length_eq_zero h0
    exact ⟨none, 0, h1, Nat.le_refl _, fun _ => rfl, RowsAt.nil _ _ _⟩
  · refine ⟨_, cap, hv, hn, fun e => by (cases e), fun i r hi => ⟨g, 0, rfl, fun j u hj => ?_⟩⟩
    have h9 := flat_get h.2 hi j u hj
    rw [← ht, List.getElem?_take] at h9
    split at h9
    · rw [Array.getElem?_toList] at h9
      rw [Nat.zero_add]
      exact (Blk.cell (t := E) hg _).trans h9
    · cases h9
theorem ownW_at {w : World} {base : Nat} {E : TypeId} {sz : Nat} {g n c : Nat} {rows : List (List Value)} (h : OwnW w base E sz (.slice (some ⟨g, 0, none⟩) n c) rows) {i : Nat} {r : List Value} (hi : rows[i]? = some r) (j : Nat) {u : Value} (hj : r[j]? = some u) :
    w.cell? ⟨g, i * sz + j, none⟩ = some u ∧ w.frozen? ⟨g, i * sz + j, none⟩ = false := by
  rcases h.1.2 with ⟨h1, _⟩ | ⟨g', cap, cur, hv, _, hg, hn, _, hcs, ht⟩
  · cases h1
  · injection hv with h1 h2 h3
    injection h1 with h1
    injection h1 with h1
    subst h1
    have h9 := flat_get h.2 hi j u hj
    rw [← ht, List.getElem?_take] at h9
    split at h9
    · rw [Array.getElem?_toList] at h9
      exact ⟨(Blk.cell (t := E) hg _).trans h9, Blk.free (t := E) hg _⟩
    · cases h9
section
variable {P : Program} {ops : Array Oper} {rest : List Oper} {o : Oper} {a : Act} {Q : Exit → Act → World → Prop}
/-- append(v, u) of one row, behind 'at_builtin'. -/
theorem appendW1 {W : World} (base : Nat) (E : TypeId) (sz bytes : Nat) (z : Value) (hgd : o.guard = none) (s x : Operand) (t : TypeId)
    (ho : o.op = .call { callee := .builtin .append, args := #[s, x], argTypes := #[t, t] })
    (ht : P.underlying t = some (.slice E)) (hinfo : (P.info? E).map (fun i => (i.zero, i.size, i.bytes)) = some (some z, sz, bytes)) (hz : z.cells.size = sz) (hs0 : 0 < sz) (hb0 : 0 < bytes)
    (v : Value) (rows : List (List Value)) (y : List Value) (hs : a.eval s = v) (m c : Nat) (hx : a.eval x = .slice (some ⟨m, 0, none⟩) 1 c) (hM : Blk W m y.toArray E)
    (hy : y.length = sz) (hy1 : ∀ u ∈ y, u.oneCell' = true)
    (HO : OwnW W base E sz v rows) (hbase : base ≤ W.heap.size) (hl : (rows.length + 1) * bytes ≤ 140737488355328)
    (h : ∀ v1 w1, OwnW w1 base E sz v1 (rows ++ [y]) → Fr (fun k => v.ownBlock = some k) W w1 → (∀ k, v1.ownBlock = some k → v.ownBlock = some k ∨ W.heap.size ≤ k) → wpList P ops Q rest (a.put o.dst v1) w1) :
    wpList P ops Q (o :: rest) a W := by
  obtain ⟨i0, hi, hzz⟩ := Option.map_eq_some_iff.1 hinfo
  simp only [Prod.mk.injEq] at hzz
  obtain ⟨hz0, hz1, hz2⟩ := hzz
  have hlen : rows.length + 1 ≤ 140737488355328 := Nat.le_trans (Nat.le_mul_of_pos_right _ hb0) hl
  have hmx : rows.length + 1 ≤ maxLen := by simp only [maxLen]; omega
  have hnews : ∀ j u, y[j]? = some u → W.cell? ((⟨m, 0, none⟩ : Addr).add j) = some u := fun j u hj => by
    rw [Addr.add_lit, Nat.zero_add]
    exact (hM.cell j).trans (by simpa using hj)
  have hsz : ∀ r, r ∈ rows ++ [y] → r.length = sz := by
    intro r hr
    rcases List.mem_append.1 hr with hr | hr
    · exact HO.2 r hr
    · simp at hr; rw [hr]; exact hy
  have hfl2 : (rows ++ [y]).flatten.length = (rows ++ [y]).length * sz := by simp [HO.1.1, hy, Nat.add_mul]
  have hll : (rows ++ [y]).length = rows.length + 1 := by simp
  refine wpList_plain hgd fun K hK => ?_
  have key : ∃ v' w', (Builtin.append_ #[t, t] o.type #[v, .slice (some ⟨m, 0, none⟩) 1 c]).run P W = .ok v' w' ∧ OwnW w' base E sz v' (rows ++ [y]) ∧ Fr (fun k => v.ownBlock = some k) W w' ∧ (∀ k, v'.ownBlock = some k → v.ownBlock = some k ∨ W.heap.size ≤ k) := by
    rcases HO.1.2 with ⟨hv, h0⟩ | ⟨g, cap, cur, hv, hb, hg, hn, hcm, hcs, htk⟩
    · obtain rfl := List.eq_nil_of_length_eq_zero h0
      obtain ⟨v', w', hr, h2, h3, _, h5⟩ := run_append_own_at (P := P) W base t o.type E i0 z sz bytes ht hi hz0 hz1 hz2 hz hs0 v 0 [] (by rw [hv]; exact World.ownsRow_nil _ _ _ _) ⟨m, 0, none⟩ 1 c y (by omega) hnews hy1 hmx (by simpa using hl) hbase
      refine ⟨v', w', hr, ?_, ⟨h3.os, h3.tape, h3.output, h3.size, fun k hk hn => h3.block k hk (fun e => hn e.symm)⟩, fun k hk => h5.elim (fun e => .inl (e ▸ hk)) (fun e => .inr (by rw [e] at hk; injection hk with hk; omega))⟩
      have : Own w' base E sz v' [y] := ⟨by simpa using h2, fun r hr => by simp at hr; rw [hr]; exact hy⟩
      exact this.w
    · by_cases hroom : rows.length + 1 ≤ cap
      · have h7 := Nat.mul_le_mul_right sz hroom
        rw [Nat.add_mul, Nat.one_mul] at h7
        have hrun := run_append_room_cells (P := P) W t o.type E i0 ht hi g 0 rows.length cap ⟨m, 0, none⟩ 1 c y (by rw [hz1, hy, Nat.one_mul]) hnews hy1 hroom (fun j hj => by
          rw [Nat.zero_add, hz1]
          show (W.cell? _).isSome = true
          rw [Blk.cell (t := E) hg, Array.getElem?_eq_getElem (by omega)]
          rfl) (fun j hj => Blk.free (t := E) hg _)
        rw [hz1, Nat.zero_add] at hrun
        have hB := setCells_blk y cur (rows.length * sz) W (e := E) hg
        subst hv
        refine ⟨_, _, hrun, ⟨⟨hfl2, .inr ⟨g, cap, _, by rw [hll], hb, hB, by rw [hll]; exact hroom, hcm, by rw [layA_size]; exact hcs, ?_⟩⟩, hsz⟩, setCells_fr (S := fun k => (Value.slice (some ⟨g, 0, none⟩) rows.length cap).ownBlock = some k) rfl _ _ _, fun k hk => .inl hk⟩
        have hct : (cur.toList.take (rows.length * sz)).length = rows.length * sz := by rw [htk]; exact HO.1.1
        rw [layA_list _ _ _ (by omega), htk, hll]
        have : (rows.flatten ++ y).length = (rows.length + 1) * sz := by rw [List.length_append, HO.1.1, hy, Nat.add_mul, Nat.one_mul]
        rw [List.take_left' this]
        simp
      · obtain ⟨v', w', hr, h2, h3⟩ := run_append_arg_grows (P := P) W t o.type E i0 z sz bytes ht hi hz0 hz1 hz2 hz hs0 ⟨g, 0, none⟩ rows.length cap rows.flatten HO.1.1 (fun j u hj => by
          rw [Addr.add_lit, Nat.zero_add]
          rw [← htk, List.getElem?_take] at hj
          split at hj
          · rw [Array.getElem?_toList] at hj; exact (Blk.cell (t := E) hg _).trans hj
          · cases hj) ⟨m, 0, none⟩ 1 c y (by omega) hnews (by omega) hmx hl
        subst hv
        have hO : Own w' W.heap.size E sz v' (rows ++ [y]) := ⟨by rw [hll]; simpa using h2, hsz⟩
        refine ⟨v', w', hr, ?_, ⟨h3.os, h3.tape, h3.output, h3.size, fun k hk hn => h3.block k hk (by simp)⟩, fun k hk => .inr (hO.1.lt k hk).1⟩
        have hw := hO.w
        refine ⟨⟨hw.1.1, hw.1.2.elim .inl (fun ⟨g, cap, cur, h1, h2, h3⟩ => .inr ⟨g, cap, cur, h1, by omega, h3⟩)⟩, hw.2⟩
  obtain ⟨v', w', hr, h2, h3, h4⟩ := key
  unfold Oper.wp execOp
  simp only [ho, resolve, invoke, builtin, Sem.run_bind, Sem.run_pure, Result.andThen_ok, List.map_toArray, List.map_cons, List.map_nil, hs, hx, hr]
  exact hK _ _ (h v' w' h2 h3 h4)
end
end Go.Proofs.BL
namespace Go.Proofs.YtlekfpeonehggaaGreatDoor
open Go.Proofs.BL Go.RowKit
/-- Such a row, held. -/
def ownW (v : Value) (E : TypeId) (sz : Nat) (rows : List (List Value)) : Part := ⟨fun w _ O => OwnW w 0 E sz v rows ∧ ∀ k, v.ownBlock = some k → O k, fun ⟨h, ho⟩ hO hG hf hGG => ⟨h.fr hf (fun k hk hn => hn (.inr (.inl (ho k hk)))), ho⟩⟩
theorem not_imm_ownW {w : World} {base : Nat} {v : Value} {E : TypeId} {sz : Nat} {rows : List (List Value)} (h : OwnW w base E sz v rows) (ht : isErrT E = false) : ∀ k, v.ownBlock = some k → ¬ Imm w k := by
  rintro k hk ⟨cs', t', f', e, h'⟩
  rw [h.own_type k hk e, ht] at h'
  cases h'
section
variable {l : List Part} {w : World}
theorem Sat.toW {v : Value} {E : TypeId} {sz : Nat} {rows : List (List Value)} (h : Sat (ownR v E sz rows :: l) w) : Sat (ownW v E sz rows :: l) w := h.imp (fun G O ⟨a, b⟩ => ⟨a.w, b⟩)
theorem Sat.ownW_ {v : Value} {E : TypeId} {sz : Nat} {rows : List (List Value)} (h : Sat (ownW v E sz rows :: l) w) : OwnW w 0 E sz v rows := h.fact (fun _ _ a _ _ => a.1)
theorem Sat.grownW {w' : World} {v v' : Value} {E : TypeId} {sz : Nat} {rows rows' : List (List Value)} (h : Sat (ownW v E sz rows :: l) w) (ho : OwnW w' 0 E sz v' rows') (hf : Fr (fun k => v.ownBlock = some k) w w')
    (hk : ∀ k, v'.ownBlock = some k → v.ownBlock = some k ∨ w.heap.size ≤ k) (ht : isErrT E = false := by rfl) : Sat (ownW v' E sz rows' :: l) w' :=
  h.step fun G O ⟨a, hO⟩ hX hG => ⟨hf.mono (fun k _ h => hO k h), fun k => v'.ownBlock = some k, fun G' _ => ⟨ho, fun _ h => h⟩, fun b hb => ⟨(hk b hb).elim (fun h => .inl (hO b h)) .inr, (ho.lt b hb).2, not_imm_ownW ho ht b hb⟩⟩
/-- Another length of the same block. -/
theorem Sat.cutW {g n c : Nat} {E : TypeId} {sz : Nat} {rows : List (List Value)} (h : Sat (ownW (.slice (some ⟨g, 0, none⟩) n c) E sz rows :: l) w) (k : Nat) (hk : k ≤ rows.length) :
    Sat (ownW (.slice (some ⟨g, 0, none⟩) k k) E sz (rows.take k) :: l) w := h.imp (fun G O ⟨a, b⟩ => ⟨by
  have hlk : (rows.take k).length = k := by rw [List.length_take]; omega
  rcases a.1.2 with ⟨h1, _⟩ | ⟨g', cap, cur, hv, hb, hg, hn, hcm, hcs, ht⟩
  · cases h1
  · injection hv with h1 h2 h3
    injection h1 with h1
    injection h1 with h1
    subst h1
    have hfl : ∀ l : List (List Value), (∀ r ∈ l, r.length = sz) → l.flatten.length = l.length * sz := by
      intro l hl
      induction l with
      | nil => simp
      | cons x l ih => rw [List.flatten_cons, List.length_append, hl x (by simp), ih (fun r hr => hl r (by simp [hr])), List.length_cons, Nat.succ_mul]; omega
    have hz : ∀ r ∈ rows.take k, r.length = sz := fun r hr => a.2 r (List.mem_of_mem_take hr)
    have h7 := Nat.mul_le_mul_right sz hk
    have h8 := Nat.mul_le_mul_right sz hn
    refine ⟨⟨hfl _ hz, .inr ⟨g, k, cur, by rw [hlk], hb, hg, by omega, by omega, by omega, ?_⟩⟩, hz⟩
    have e := congrArg (List.take (k * sz)) ht
    rw [List.take_take, Nat.min_eq_left h7] at e
    rw [hlk, e]
    have h2 : rows.flatten = (rows.take k).flatten ++ (rows.drop k).flatten := by rw [← List.flatten_append, List.take_append_drop]
    rw [h2, List.take_left' (by rw [hfl _ hz, hlk])], b⟩)
theorem flat_setW {w : World} {base : Nat} {E : TypeId} {sz g n c : Nat} {rows : List (List Value)} (h : OwnW w base E sz (.slice (some ⟨g, 0, none⟩) n c) rows) {i : Nat} {r : List Value} (hi : rows[i]? = some r) (j : Nat) (hj : j < sz) (u : Value) :
    OwnW (w.setCell ⟨g, i * sz + j, none⟩ u) base E sz (.slice (some ⟨g, 0, none⟩) n c) (rows.set i (r.set j u)) := by
  have hr := h.2 r (List.mem_of_getElem? hi)
  have hsz : ∀ x, x ∈ rows.set i (r.set j u) → x.length = sz := fun x hx => by
    rcases List.mem_or_eq_of_mem_set hx with hx | rfl
    · exact h.2 x hx
    · rw [List.length_set]; exact hr
  have hlt := (List.getElem?_eq_some_iff.1 hi).1
  have hp : i * sz + j < rows.length * sz := by
    have := Nat.mul_le_mul_right sz (show i + 1 ≤ rows.length from hlt)
    rw [Nat.add_mul] at this
    omega
  rcases h.1.2 with ⟨h1, _⟩ | ⟨g', cap, cur, hv, hb, hg, hn, hcm, hcs, ht⟩
  · cases h1
  · injection hv with h1 h2 h3
    injection h1 with h1
    injection h1 with h1
    subst h1 h2
    refine ⟨⟨by rw [← flat_set h.2 hi j u hj, List.length_set, List.length_set, h.1.1], .inr ⟨g, cap, _, by rw [List.length_set, h3], hb, Blk.set (t := E) hg (i * sz + j) u, by rw [List.length_set]; exact hn, hcm, by rw [Array.size_setIfInBounds]; exact hcs, ?_⟩⟩, hsz⟩
    rw [List.length_set, ← flat_set h.2 hi j u hj, Array.toList_setIfInBounds, List.take_set, ht]
theorem Sat.setOwnW {g n c : Nat} {E : TypeId} {sz : Nat} {rows : List (List Value)} (h : Sat (ownW (.slice (some ⟨g, 0, none⟩) n c) E sz rows :: l) w) {i : Nat} {r : List Value} (hi : rows[i]? = some r) (j : Nat) (hj : j < sz) (u : Value) (ht : isErrT E = false := by rfl) :
    Sat (ownW (.slice (some ⟨g, 0, none⟩) n c) E sz (rows.set i (r.set j u)) :: l) (w.setCell ⟨g, i * sz + j, none⟩ u) :=
  h.step fun G O ⟨a, ho⟩ hO hG => ⟨(Fr.refl _ _).setCell (.inr (ho g rfl)) u, fun k => k = g, fun G' _ => ⟨flat_setW a hi j hj u, fun k hk => by simpa [Value.ownBlock] using hk.symm⟩, fun k hk => by
    subst hk
    refine ⟨.inl (ho k rfl), by have := (a.lt k rfl).2; simpa [World.setCell] using this, ?_⟩
    exact not_imm_ownW (flat_setW a hi j hj u) ht k rfl⟩
end
end Go.Proofs.YtlekfpeonehggaaGreatDoor
end
