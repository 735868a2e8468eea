/- copy, clear, append at elements of several cells; a block's cells laid over. -/
import Derived.Test.YtkfciofpbnlmeaaDoorSc
import Derived.Laws.IdiomCopy
import Derived.Lib.SliceRun
import Derived.Lib.AppendZerosOnto
import Derived.Lib.Overlaps
import Derived.ArgAppend
set_option linter.unusedVariables false
namespace Go.Proofs.BL
open Go.RowKit

/-- Cells laid over an array from o on. -/
def layA (cur : Array Value) : Nat → List Value → Array Value
  | _, [] => cur
  | o, v :: r => layA (cur.setIfInBounds o v) (o + 1) r
theorem layA_size : ∀ (vs : List Value) (cur : Array Value) (o : Nat), (layA cur o vs).size = cur.size
  | [], _, _ => rfl
  | v :: r, cur, o => by rw [layA, layA_size r]; simp
theorem layA_list : ∀ (vs : List Value) (cur : Array Value) (o : Nat), o + vs.length ≤ cur.size → (layA cur o vs).toList = cur.toList.take o ++ vs ++ cur.toList.drop (o + vs.length)
  | [], cur, o, _ => by simp [layA]
  | v :: r, cur, o, h => by
    simp only [List.length_cons] at h
    rw [layA, layA_list r _ _ (by simp; omega), Array.toList_setIfInBounds]
    have h1 : (cur.toList.set o v).take (o + 1) = cur.toList.take o ++ [v] := by
      rw [List.take_set, List.take_add_one, List.set_append, if_neg (by simp; omega)]
      rw [Array.getElem?_toList, Array.getElem?_eq_getElem (by omega)]
      simp [show o - min o cur.size = 0 from by omega]
    have h2 : (cur.toList.set o v).drop (o + 1 + r.length) = cur.toList.drop (o + (r.length + 1)) := by
      rw [List.drop_set, if_pos (by omega), show o + 1 + r.length = o + (r.length + 1) from by omega]
    rw [h1, h2]
    simp
/-- Laid one behind the other: y, then d. -/
theorem layA_first (cur : Array Value) (a y d : List Value) (ha : cur.toList.take a.length = a) (hs : a.length + y.length + d.length ≤ cur.size) :
    (layA (layA cur a.length y) (a.length + y.length) d).toList.take (a.length + y.length + d.length) = a ++ y ++ d := by
  rw [layA_list d _ _ (by rw [layA_size]; exact hs), layA_list y _ _ (by omega), ha]
  rw [List.take_left' (l₁ := a ++ y) (by simp)]
  exact List.take_left' (by simp [Nat.add_assoc])
/-- d ahead of y. -/
theorem layA_second (cur : Array Value) (a y d : List Value) (ha : cur.toList.take a.length = a) (hs : a.length + y.length + d.length ≤ cur.size) :
    (layA (layA cur (a.length + y.length) d) a.length y).toList.take (a.length + y.length + d.length) = a ++ y ++ d := by
  rw [layA_list y _ _ (by rw [layA_size]; omega), layA_list d _ _ hs]
  have h1 : (cur.toList.take (a.length + y.length)).length = a.length + y.length := List.length_take_of_le (by have hl : cur.toList.length = cur.size := Array.length_toList; omega)
  have h2 : (cur.toList.take (a.length + y.length) ++ d ++ cur.toList.drop (a.length + y.length + d.length)).take a.length = a := by
    rw [List.append_assoc, List.take_append_of_le_length (by rw [h1]; omega), List.take_take, Nat.min_eq_left (show a.length ≤ a.length + y.length by omega), ha]
  have h3 : (cur.toList.take (a.length + y.length) ++ d ++ cur.toList.drop (a.length + y.length + d.length)).drop (a.length + y.length) = d ++ cur.toList.drop (a.length + y.length + d.length) := by
    rw [List.append_assoc, List.drop_left' h1]
  rw [h2, h3]
  have h4 : a ++ y ++ (d ++ cur.toList.drop (a.length + y.length + d.length)) = (a ++ y ++ d) ++ cur.toList.drop (a.length + y.length + d.length) := by simp
  rw [h4]
  exact List.take_left' (by simp [Nat.add_assoc])
theorem setCells_blk {b : Nat} {e : TypeId} : ∀ (vs : List Value) (cur : Array Value) (o : Nat) (w : World), Blk w b cur e → Blk (w.setCells b o vs) b (layA cur o vs) e
  | [], _, _, _, h => h
  | v :: r, cur, o, w, h => by rw [World.setCells, layA]; exact setCells_blk r _ _ _ (h.set o v)
theorem setCells_fr {S : Nat → Prop} {b : Nat} (hb : S b) : ∀ (vs : List Value) (o : Nat) (w : World), Fr S w (w.setCells b o vs)
  | [], _, w => Fr.refl _ _
  | v :: r, o, w => ((Fr.refl S w).setCell (p := ⟨b, o, none⟩) (.inr hb) v).trans (setCells_fr hb r _ _) (fun _ _ h => h)
theorem setCells_drew (b : Nat) : ∀ (vs : List Value) (o : Nat) (w : World), (w.setCells b o vs).drew = w.drew.setCells b o vs
  | [], _, _ => rfl
  | v :: r, o, w => by rw [World.setCells, World.setCells, setCells_drew b r]; rfl
theorem Blk.far_cells {b b' : Nat} {e : TypeId} {cs : Array Value} {w : World} (h : Blk w b cs e) (hne : b ≠ b') (vs : List Value) (o : Nat) : Blk (w.setCells b' o vs) b cs e :=
  h.fr (setCells_fr (S := only b') rfl vs o w) (fun e => hne e)

section
variable {P : Program}
/-- copy, elements of sz cells: all is read before anything is written. -/
theorem run_copy_k (w : World) (dT sT ty elem : TypeId) (sz b o dLen dCap : Nat) (a : Addr) (sLen sCap : Nat) (cs : List Value)
    (hu : P.underlying dT = some (.slice elem)) (hs : (P.info? elem).map (·.size) = some sz) (hn : cs.length = Nat.min sLen dLen * sz)
    (hsrc : ∀ j v, cs[j]? = some v → w.cell? (a.add j) = some v) (hc : ∀ j, j < cs.length → (w.cell? ⟨b, o + j, none⟩).isSome = true) (hf : ∀ j, j < cs.length → w.frozen? ⟨b, o + j, none⟩ = false) (h1 : ∀ v ∈ cs, v.oneCell' = true) :
    (Builtin.copy_ #[dT, sT] ty #[.slice (some ⟨b, o, none⟩) dLen dCap, .slice (some a) sLen sCap]).run P w = .ok (goInt (Nat.min sLen dLen)) (w.setCells b o cs) := by
  have hl := run_loadCells_list (P := P) w a cs hsrc
  have hst := run_storeCells_cells (P := P) b o cs 0 w (by simpa using hc) (by simpa using hf) h1
  cases hq : P.info? elem with
  | none => simp [hq] at hs
  | some i =>
    have hi : i.size = sz := by simpa [hq] using hs
    simp [Builtin.copy_, run_underlying hu, Builtin.lenOf, Builtin.firstCells, sizeOf, typeInfo, hq, hi, ← hn, hl, hst]
theorem zeroCells_list (z : Array Value) (hz : 0 < z.size) (n : Nat) : (Builtin.zeroCells z n).toList = (List.replicate n z.toList).flatten := by
  apply List.ext_getElem?
  intro i
  have hR : ∀ (n i : Nat), (List.replicate n z.toList).flatten[i]? = if i < n * z.size then some (z[i % z.size]!) else none := by
    intro n
    induction n with
    | zero => intro i; simp
    | succ n ih =>
      intro i
      rw [List.replicate_succ, List.flatten_cons]
      by_cases h : i < z.size
      · rw [List.getElem?_append_left (by simpa using h), if_pos (by rw [Nat.succ_mul]; omega), Nat.mod_eq_of_lt h, Array.getElem?_toList, Array.getElem?_eq_getElem h, getElem!_pos z i h]
      · rw [List.getElem?_append_right (by simpa using Nat.le_of_not_lt h), ih, Array.length_toList]
        have h1 : (i - z.size < n * z.size) ↔ (i < (n + 1) * z.size) := by rw [Nat.succ_mul]; omega
        have h2 : (i - z.size) % z.size = i % z.size := by
          conv => rhs; rw [show i = (i - z.size) + z.size from by omega, Nat.add_mod_right]
        rw [h2]
        simp only [h1]
  rw [hR]
  unfold Builtin.zeroCells
  by_cases h : i < n * z.size
  · rw [if_pos h]
    simp [h]
  · rw [if_neg h]
    simp [h]
/-- clear, elements of sz cells. -/
theorem run_clear_k (w : World) (t e ty : TypeId) (z : Value) (ht : P.underlying t = some (.slice e)) (hv : ∀ w, (zeroValue e).run P w = .ok z w) (hz : 0 < z.cells.size) (h1 : ∀ u ∈ z.cells.toList, u.oneCell' = true) (b o n c : Nat) (hn : 0 < n)
    (hc : ∀ j, j < n * z.cells.size → (w.cell? ⟨b, o + j, none⟩).isSome = true) (hf : ∀ j, j < n * z.cells.size → w.frozen? ⟨b, o + j, none⟩ = false) :
    (Builtin.clear_ #[t] ty #[.slice (some ⟨b, o, none⟩) n c]).run P w = .ok (.tuple #[]) (w.setCells b o (List.replicate n z.cells.toList).flatten) := by
  have hlen : (List.replicate n z.cells.toList).flatten.length = n * z.cells.size := by simp
  have hst := run_storeCells_cells (P := P) b o (List.replicate n z.cells.toList).flatten 0 w (by rw [hlen]; simpa using hc) (by rw [hlen]; simpa using hf) (by
    intro v hv'
    obtain ⟨r, hr, hvr⟩ := List.mem_flatten.1 hv'
    rw [List.eq_of_mem_replicate hr] at hvr
    exact h1 v hvr)
  simp only [Nat.add_zero] at hst
  obtain ⟨m, rfl⟩ : ∃ m, n = m + 1 := ⟨n - 1, by omega⟩
  have hzl := zeroCells_list z.cells hz (m + 1)
  simp only [Builtin.clear_, List.getElem?_toArray, List.getElem?_cons_zero, Sem.run_bind, run_underlying ht, Result.andThen_ok, hv, hzl, hst, Sem.run_pure]
end
end Go.Proofs.BL
