/- What a reader tells: no fault, or a number that is not 0. Appends, and where the new row lies. copy, clear, append at elements of several cells; a block's cells laid over. -/
import Derived.Test.YtlekfpeonehggaaGreatDoorJ07
import Derived.Test.YtlekfpeonehggaaGreatDoorJ03
import Derived.Laws.IdiomCopy
import Derived.Lib.SliceRun
import Derived.Lib.AppendZerosOnto
import Derived.Lib.Overlaps
import Derived.ArgAppend
section
namespace Go.Proofs.YtlekfpeonehggaaGreatDoor
open Go.Proofs.BL Go.Proofs.Peel Go.RowKit
set_option linter.unusedVariables false

theorem bad6_ne (a : Nat) : bad6 a ≠ [] := by simp [bad6]
theorem rdEnd_nil {bs : List UInt8} {a : Nat} {c : List Lk} (h : rdEnd bs a c = []) : c = [] ∧ bs.length ≤ a := by
  unfold rdEnd at h
  split at h
  · exact absurd h (bad6_ne a)
  · rename_i h1
    subst h
    exact ⟨rfl, Nat.le_of_not_lt (fun h2 => h1 ⟨rfl, h2⟩)⟩
theorem rdNat_inv {bs : List UInt8} {a n a' : Nat} (h : rdNat bs a [] = (n, a', [])) : bs.drop a = natB n ++ bs.drop a' ∧ n < 2 ^ 64 := by
  rw [rdNat, if_pos rfl] at h
  cases hp : pnat (bs.drop a) with
  | none => rw [hp] at h; injection h with _ h; injection h with _ h; exact absurd h (bad6_ne a)
  | some nk =>
    obtain ⟨n1, k⟩ := nk
    rw [hp] at h
    injection h with h1 h2
    injection h2 with h2 _
    subst h1 h2
    obtain ⟨h3, h4⟩ := pnat_inv hp
    refine ⟨?_, (pnat_len hp).2.2⟩
    rw [← h3, ← List.drop_drop, List.take_append_drop]
theorem zig_zag (n : Nat) : zig (zag n) = n := by
  unfold zag zig
  by_cases h : n % 2 = 1
  · rw [if_pos h, if_pos (by omega)]; omega
  · rw [if_neg h, if_neg (by omega)]; omega
theorem rdStr_inv {bs : List UInt8} {a a' : Nat} {s : ByteArray} {most : Int} (h : rdStr bs a [] most = (s, a', [])) : bs.drop a = strB s ++ bs.drop a' := by
  rw [rdStr, if_pos rfl] at h
  cases hp : pstr bs a most with
  | mk o e =>
    rw [hp] at h
    cases o with
    | none => simp at h
    | some sa =>
      obtain ⟨s1, a1⟩ := sa
      simp only [Prod.mk.injEq, and_true] at h
      obtain ⟨rfl, rfl⟩ := h
      rw [pstr] at hp
      cases hq : pnat (bs.drop a) with
      | none => rw [hq] at hp; simp at hp
      | some nk =>
        obtain ⟨n, k⟩ := nk
        rw [hq] at hp
        simp only at hp
        split at hp
        · simp at hp
        · split at hp
          · simp at hp
          · rename_i h1 h2
            simp only [Prod.mk.injEq, Option.some.injEq] at hp
            obtain ⟨⟨rfl, rfl⟩, _⟩ := hp
            obtain ⟨h3, h4⟩ := pnat_inv hq
            have hlen : ((bs.drop (a + k)).take n).length = n := by rw [List.length_take, List.length_drop]; omega
            have hs : (⟨((bs.drop (a + k)).take n).toArray⟩ : ByteArray).size = n := hlen
            have ht : txt (⟨((bs.drop (a + k)).take n).toArray⟩ : ByteArray) = (bs.drop (a + k)).take n := rfl
            rw [strB, hs, ht, ← h3, List.append_assoc, show a + k + n = (a + k) + n from rfl, ← List.drop_drop (i := n) (j := a + k), List.take_append_drop, ← List.drop_drop, List.take_append_drop]
def Tells (c : List Lk) : Prop := c = [] ∨ codeOf c ≠ 0
theorem tells_nil {c : List Lk} (h : Tells c) (h0 : codeOf c = 0) : c = [] := h.resolve_right (fun h1 => h1 h0)
theorem tells_bad6 (a : Nat) : Tells (bad6 a) := .inr (show (6 : Int) ≠ 0 by decide)
theorem tells_bad7 (a : Nat) : Tells (bad7 a) := .inr (show (7 : Int) ≠ 0 by decide)
theorem tells_end {bs : List UInt8} {a : Nat} {c : List Lk} (h : Tells c) : Tells (rdEnd bs a c) := by
  unfold rdEnd
  split
  · exact tells_bad6 a
  · exact h
theorem tells_nat (bs : List UInt8) (a : Nat) {c : List Lk} (h : Tells c) : Tells (rdNat bs a c).2.2 := by
  unfold rdNat
  split
  · split
    · exact .inl rfl
    · exact tells_bad6 a
  · exact h
theorem tells_num (bs : List UInt8) (a : Nat) {c : List Lk} (h : Tells c) : Tells (rdNum bs a c).2.2 := tells_nat bs a h
theorem pstr_num {bs : List UInt8} {a : Nat} {most : Int} {e : Int} (h : pstr bs a most = (none, e)) : e ≠ 0 := by
  unfold pstr at h
  split at h
  · injection h with _ h; omega
  · split at h
    · injection h with _ h; omega
    · split at h
      · injection h with _ h; omega
      · injection h with h _; cases h
theorem tells_str (bs : List UInt8) (a : Nat) (most : Int) {c : List Lk} (h : Tells c) : Tells (rdStr bs a c most).2.2 := by
  unfold rdStr
  split
  · split
    · exact .inl rfl
    · rename_i e hp
      exact .inr (show e ≠ 0 from pstr_num hp)
  · exact h
end Go.Proofs.YtlekfpeonehggaaGreatDoor
end

section
set_option linter.unusedVariables false
namespace Go.Proofs.BL
open Go.RowKit
section
variable {P : Program} {ops : Array Oper} {rest : List Oper} {o : Oper} {a : Act} {Q : Exit → Act → World → Prop}
/-- append(v, x), behind 'at_builtin': the variadic's block stands last. -/
theorem append1L {W : World} (base : Nat) (E : TypeId) (sz bytes : Nat) (z : Value) (hgd : o.guard = none) (s x : Operand) (t : TypeId)
    (ho : o.op = .call { callee := .builtin .append, args := #[s, x], argTypes := #[t, t] })
    (ht : P.underlying t = some (.slice E)) (hinfo : (P.info? E).map (fun i => (i.zero, i.size, i.bytes)) = some (some z, sz, bytes)) (hz : z.cells.size = sz) (hs0 : 0 < sz) (hb0 : 0 < bytes)
    (v : Value) (rows : List (List Value)) (ys : List Value) (hs : a.eval s = v) (m : Nat) (hx : a.eval x = .slice (some ⟨m, 0, none⟩) 1 1) (hm : W.heap.size = m) (hys : ys.length = sz) (h1 : ∀ u ∈ ys, u.oneCell' = true)
    (HO : Own W base E sz v rows) (hbase : base ≤ W.heap.size) (hl : (rows.length + 1) * bytes ≤ 140737488355328)
    (h : ∀ v1 w1, Own w1 base E sz v1 (rows ++ [ys]) → Fr (fun k => v.ownBlock = some k) W w1 → (∀ k, v1.ownBlock = some k → v.ownBlock = some k ∨ W.heap.size ≤ k) → wpList P ops Q rest (a.put o.dst v1) w1) :
    wpList P ops Q (o :: rest) a (W.alloc (.cells ys.toArray E)) := by
  subst hm
  obtain ⟨i0, hi, hzz⟩ := Option.map_eq_some_iff.1 hinfo
  simp only [Prod.mk.injEq] at hzz
  obtain ⟨hz0, hz1, hz2⟩ := hzz
  have hlen : rows.length + 1 ≤ 140737488355328 := Nat.le_trans (Nat.le_mul_of_pos_right _ hb0) hl
  refine wpList_append_own_at (W.alloc (.cells ys.toArray E)) hgd s x t ho base E i0 z sz bytes ht hi hz0 hz1 hz2 hz hs0 v rows.length rows.flatten hs (HO.alloc _).1 ⟨W.heap.size, 0, none⟩ 1 1 ys hx (by rw [hys]; simp)
    (by simpa using World.news_of_block (cs := ys.toArray) (t := E) (fr := (0, 0)) (heap_alloc_new W (.cells ys.toArray E))) h1 (by simp only [maxLen]; omega) hl (by simp; omega) ?_
  intro v1 w1 hown hg _ hloc
  refine h v1 w1 ⟨by simpa using hown, fun r hr => ?_⟩ ?_ (fun k hk => by
    rcases hloc with e | e
    · exact .inl (e ▸ hk)
    · rw [hk] at e; injection e with e; simp at e; exact .inr (by omega))
  · rcases List.mem_append.1 hr with hr | hr
    · exact HO.2 r hr
    · simp at hr; rw [hr]; exact hys
  · have hW : Fr (fun k => v.ownBlock = some k) W (W.alloc (.cells ys.toArray E)) := (Fr.refl _ _).alloc _
    exact hW.trans (T := fun k => v.ownBlock = some k) ⟨hg.os, hg.tape, hg.output, hg.size, fun k hk hn => hg.block k hk (fun e => hn e.symm)⟩ (fun _ _ h => h)
/-- append(v, u...), behind 'at_builtin'. -/
theorem appendNL {W : World} (base : Nat) (E : TypeId) (sz bytes : Nat) (z : Value) (hgd : o.guard = none) (s x : Operand) (t : TypeId)
    (ho : o.op = .call { callee := .builtin .append, args := #[s, x], argTypes := #[t, t] })
    (ht : P.underlying t = some (.slice E)) (hinfo : (P.info? E).map (fun i => (i.zero, i.size, i.bytes)) = some (some z, sz, bytes)) (hz : z.cells.size = sz) (hs0 : 0 < sz) (hb0 : 0 < bytes)
    (v : Value) (rows ys : List (List Value)) (hs : a.eval s = v) (A : Option Addr) (n c : Nat) (hx : a.eval x = .slice A n c) (hn : n = ys.length) (hA : A = none → c = 0) (HS : RowsAt W sz A ys)
    (hys : ∀ r, r ∈ ys → r.length = sz) (h1 : ∀ r, r ∈ ys → ∀ u ∈ r, u.oneCell' = true)
    (HO : Own W base E sz v rows) (hbase : base ≤ W.heap.size) (hl : (rows.length + ys.length) * bytes ≤ 140737488355328)
    (h : ∀ v1 w1, Own w1 base E sz v1 (rows ++ ys) → Fr (fun k => v.ownBlock = some k) W w1 → (∀ k, v1.ownBlock = some k → v.ownBlock = some k ∨ W.heap.size ≤ k) → wpList P ops Q rest (a.put o.dst v1) w1) :
    wpList P ops Q (o :: rest) a W := by
  subst hn
  obtain ⟨i0, hi, hzz⟩ := Option.map_eq_some_iff.1 hinfo
  simp only [Prod.mk.injEq] at hzz
  obtain ⟨hz0, hz1, hz2⟩ := hzz
  have hlen : rows.length + ys.length ≤ 140737488355328 := Nat.le_trans (Nat.le_mul_of_pos_right _ hb0) hl
  cases A with
  | none =>
    obtain rfl := hA rfl
    obtain rfl : ys = [] := by
      cases ys with
      | nil => rfl
      | cons y ys => obtain ⟨_, _, e, _⟩ := HS 0 y rfl; cases e
    refine wpList_append_own_none hgd s x t ho base E i0 sz ht hi v rows.length rows.flatten hs HO.1 hx ?_
    exact h v W (by simpa using HO) (Fr.refl _ _) (fun k hk => .inl hk)
  | some ad =>
    have hfl : ys.flatten.length = ys.length * sz := by
      clear HS h hl hlen hx
      induction ys with
      | nil => simp
      | cons y ys ih => rw [List.flatten_cons, List.length_append, hys y (by simp), ih (fun r hr => hys r (by simp [hr])) (fun r hr => h1 r (by simp [hr])), List.length_cons, Nat.succ_mul]; omega
    have hnews : ∀ j u, ys.flatten[j]? = some u → W.cell? (ad.add j) = some u := by
      cases ys with
      | nil => intro j u hj; simp at hj
      | cons y ys' =>
        obtain ⟨b, o', e, _⟩ := HS 0 y rfl
        injection e with e; subst e
        intro j u hj
        have := HS.flat b o' _ hys j u hj
        rwa [show (⟨b, o', none⟩ : Addr).add j = ⟨b, o' + j, none⟩ from by unfold Addr.add; split <;> simp_all]
    refine wpList_append_own_at W hgd s x t ho base E i0 z sz bytes ht hi hz0 hz1 hz2 hz hs0 v rows.length rows.flatten hs HO.1 ad ys.length c ys.flatten hx hfl hnews
      (fun u hu => by obtain ⟨r, hr, hur⟩ := List.mem_flatten.1 hu; exact h1 r hr u hur) (by simp only [maxLen]; omega) hl hbase ?_
    intro v1 w1 hown hg _ hloc
    refine h v1 w1 ⟨by simpa using hown, fun r hr => ?_⟩ ⟨hg.os, hg.tape, hg.output, hg.size, fun k hk hn => hg.block k hk (fun e => hn e.symm)⟩ (fun k hk => by
      rcases hloc with e | e
      · exact .inl (e ▸ hk)
      · rw [hk] at e; injection e with e; exact .inr (by omega))
    rcases List.mem_append.1 hr with hr | hr
    · exact HO.2 r hr
    · exact hys r hr
end
end Go.Proofs.BL
end

section
set_option linter.unusedVariables false
namespace Go.Proofs.BL
open Go.RowKit

/-- Cells laid over an array from o on. -/
def layA (cur : Array Value) : Nat → List Value → Array Value
  | _, [] => cur
  | o, v :: r => layA (cur.setIfInBounds o v) (o + 1) r
theorem layA_size : ∀ (vs : List Value) (cur : Array Value) (o : Nat), (layA cur o vs).size = cur.size
  | [], _, _ => rfl
  | v :: r, cur, o => by rw [layA, layA_size r]; simp
theorem layA_list : ∀ (vs : List Value) (cur : Array Value) (o : Nat), o + vs.length ≤ cur.size → (layA cur o vs).toList = cur.toList.take o ++ vs ++ cur.toList.drop (o + vs.length)
  | [], cur, o, _ => by simp [layA]
  | v :: r, cur, o, h => by
    simp only [List.length_cons] at h
    rw [layA, layA_list r _ _ (by simp; omega), Array.toList_setIfInBounds]
    have h1 : (cur.toList.set o v).take (o + 1) = cur.toList.take o ++ [v] := by
      rw [List.take_set, List.take_add_one, List.set_append, if_neg (by simp; omega)]
      rw [Array.getElem?_toList, Array.getElem?_eq_getElem (by omega)]
      simp [show o - min o cur.size = 0 from by omega]
    have h2 : (cur.toList.set o v).drop (o + 1 + r.length) = cur.toList.drop (o + (r.length + 1)) := by
      rw [List.drop_set, if_pos (by omega), show o + 1 + r.length = o + (r.length + 1) from by omega]
    rw [h1, h2]
    simp
/-- Laid one behind the other: y, then d. -/
theorem layA_first (cur : Array Value) (a y d : List Value) (ha : cur.toList.take a.length = a) (hs : a.length + y.length + d.length ≤ cur.size) :
    (layA (layA cur a.length y) (a.length + y.length) d).toList.take (a.length + y.length + d.length) = a ++ y ++ d := by
  rw [layA_list d _ _ (by rw [layA_size]; exact hs), layA_list y _ _ (by omega), ha]
  rw [List.take_left' (l₁ := a ++ y) (by simp)]
  exact List.take_left' (by simp [Nat.add_assoc])
/-- d ahead of y. -/
theorem layA_second (cur : Array Value) (a y d : List Value) (ha : cur.toList.take a.length = a) (hs : a.length + y.length + d.length ≤ cur.size) :
    (layA (layA cur (a.length + y.length) d) a.length y).toList.take (a.length + y.length + d.length) = a ++ y ++ d := by
  rw [layA_list y _ _ (by rw [layA_size]; omega), layA_list d _ _ hs]
  have h1 : (cur.toList.take (a.length + y.length)).length = a.length + y.length := List.length_take_of_le (by have hl : cur.toList.length = cur.size := Array.length_toList; omega)
  have h2 : (cur.toList.take (a.length + y.length) ++ d ++ cur.toList.drop (a.length + y.length + d.length)).take a.length = a := by
    rw [List.append_assoc, List.take_append_of_le_length (by rw [h1]; omega), List.take_take, Nat.min_eq_left (show a.length ≤ a.length + y.length by omega), ha]
  have h3 : (cur.toList.take (a.length + y.length) ++ d ++ cur.toList.drop (a.length + y.length + d.length)).drop (a.length + y.length) = d ++ cur.toList.drop (a.length + y.length + d.length) := by
    rw [List.append_assoc, List.drop_left' h1]
  rw [h2, h3]
  have h4 : a ++ y ++ (d ++ cur.toList.drop (a.length + y.length + d.length)) = (a ++ y ++ d) ++ cur.toList.drop (a.length + y.length + d.length) := by simp
  rw [h4]
  exact List.take_left' (by simp [Nat.add_assoc])
theorem setCells_blk {b : Nat} {e : TypeId} : ∀ (vs : List Value) (cur : Array Value) (o : Nat) (w : World), Blk w b cur e → Blk (w.setCells b o vs) b (layA cur o vs) e
  | [], _, _, _, h => h
  | v :: r, cur, o, w, h => by rw [World.setCells, layA]; exact setCells_blk r _ _ _ (h.set o v)
theorem setCells_fr {S : Nat → Prop} {b : Nat} (hb : S b) : ∀ (vs : List Value) (o : Nat) (w : World), Fr S w (w.setCells b o vs)
  | [], _, w => Fr.refl _ _
  | v :: r, o, w => ((Fr.refl S w).setCell (p := ⟨b, o, none⟩) (.inr hb) v).trans (setCells_fr hb r _ _) (fun _ _ h => h)
theorem setCells_drew (b : Nat) : ∀ (vs : List Value) (o : Nat) (w : World), (w.setCells b o vs).drew = w.drew.setCells b o vs
  | [], _, _ => rfl
  | v :: r, o, w => by rw [World.setCells, World.setCells, setCells_drew b r]; rfl
theorem Blk.far_cells {b b' : Nat} {e : TypeId} {cs : Array Value} {w : World} (h : Blk w b cs e) (hne : b ≠ b') (vs : List Value) (o : Nat) : Blk (w.setCells b' o vs) b cs e :=
  h.fr (setCells_fr (S := only b') rfl vs o w) (fun e => hne e)

section
variable {P : Program}
/-- copy, elements of sz cells: all is read before anything is written. -/
theorem run_copy_k (w : World) (dT sT ty elem : TypeId) (sz b o dLen dCap : Nat) (a : Addr) (sLen sCap : Nat) (cs : List Value)
    (hu : P.underlying dT = some (.slice elem)) (hs : (P.info? elem).map (·.size) = some sz) (hn : cs.length = Nat.min sLen dLen * sz)
    (hsrc : ∀ j v, cs[j]? = some v → w.cell? (a.add j) = some v) (hc : ∀ j, j < cs.length → (w.cell? ⟨b, o + j, none⟩).isSome = true) (hf : ∀ j, j < cs.length → w.frozen? ⟨b, o + j, none⟩ = false) (h1 : ∀ v ∈ cs, v.oneCell' = true) :
    (Builtin.copy_ #[dT, sT] ty #[.slice (some ⟨b, o, none⟩) dLen dCap, .slice (some a) sLen sCap]).run P w = .ok (goInt (Nat.min sLen dLen)) (w.setCells b o cs) := by
  have hl := run_loadCells_list (P := P) w a cs hsrc
  have hst := run_storeCells_cells (P := P) b o cs 0 w (by simpa using hc) (by simpa using hf) h1
  cases hq : P.info? elem with
  | none => simp [hq] at hs
  | some i =>
    have hi : i.size = sz := by simpa [hq] using hs
    simp [Builtin.copy_, run_underlying hu, Builtin.lenOf, Builtin.firstCells, sizeOf, typeInfo, hq, hi, ← hn, hl, hst]
theorem zeroCells_list (z : Array Value) (hz : 0 < z.size) (n : Nat) : (Builtin.zeroCells z n).toList = (List.replicate n z.toList).flatten := by
  apply List.ext_getElem?
  intro i
  have hR : ∀ (n i : Nat), (List.replicate n z.toList).flatten[i]? = if i < n * z.size then some (z[i % z.size]!) else none := by
    intro n
    induction n with
    | zero => intro i; simp
    | succ n ih =>
      intro i
      rw [List.replicate_succ, List.flatten_cons]
      by_cases h : i < z.size
      · rw [List.getElem?_append_left (by simpa using h), if_pos (by rw [Nat.succ_mul]; omega), Nat.mod_eq_of_lt h, Array.getElem?_toList, Array.getElem?_eq_getElem h, getElem!_pos z i h]
      · rw [List.getElem?_append_right (by simpa using Nat.le_of_not_lt h), ih, Array.length_toList]
        have h1 : (i - z.size < n * z.size) ↔ (i < (n + 1) * z.size) := by rw [Nat.succ_mul]; omega
        have h2 : (i - z.size) % z.size = i % z.size := by
          conv => rhs; rw [show i = (i - z.size) + z.size from by omega, Nat.add_mod_right]
        rw [h2]
        simp only [h1]
  rw [hR]
  unfold Builtin.zeroCells
  by_cases h : i < n * z.size
  · rw [if_pos h]
    simp [h]
  · rw [if_neg h]
    simp [h]
/-- clear, elements of sz cells. -/
theorem run_clear_k (w : World) (t e ty : TypeId) (z : Value) (ht : P.underlying t = some (.slice e)) (hv : ∀ w, (zeroValue e).run P w = .ok z w) (hz : 0 < z.cells.size) (h1 : ∀ u ∈ z.cells.toList, u.oneCell' = true) (b o n c : Nat) (hn : 0 < n)
    (hc : ∀ j, j < n * z.cells.size → (w.cell? ⟨b, o + j, none⟩).isSome = true) (hf : ∀ j, j < n * z.cells.size → w.frozen? ⟨b, o + j, none⟩ = false) :
    (Builtin.clear_ #[t] ty #[.slice (some ⟨b, o, none⟩) n c]).run P w = .ok (.tuple #[]) (w.setCells b o (List.replicate n z.cells.toList).flatten) := by
  have hlen : (List.replicate n z.cells.toList).flatten.length = n * z.cells.size := by simp
  have hst := run_storeCells_cells (P := P) b o (List.replicate n z.cells.toList).flatten 0 w (by rw [hlen]; simpa using hc) (by rw [hlen]; simpa using hf) (by
    intro v hv'
    obtain ⟨r, hr, hvr⟩ := List.mem_flatten.1 hv'
    rw [List.eq_of_mem_replicate hr] at hvr
    exact h1 v hvr)
  simp only [Nat.add_zero] at hst
  obtain ⟨m, rfl⟩ : ∃ m, n = m + 1 := ⟨n - 1, by omega⟩
  have hzl := zeroCells_list z.cells hz (m + 1)
  simp only [Builtin.clear_, List.getElem?_toArray, List.getElem?_cons_zero, Sem.run_bind, run_underlying ht, Result.andThen_ok, hv, hzl, hst, Sem.run_pure]
end
end Go.Proofs.BL
end
