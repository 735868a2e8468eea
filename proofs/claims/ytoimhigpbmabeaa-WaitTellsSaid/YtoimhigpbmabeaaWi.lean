/- slices.DeleteFunc. -/
import Derived.Test.YtoimhigpbmabeaaWh
import Derived.Lib.SliceRun
set_option linter.unusedVariables false
set_option maxRecDepth 100000
namespace Go.Proofs.Ytoimhigpbmabeaa
open Go.ChangeShapes Go.ChangeMaps Go.Proofs.BL Go.RowKit Go.Maps Go.Proofs.Wm Go.Proofs.YtoimhigpbmabeaaW.PrintWords Go.Proofs.Ytoimhigpbmabeaa.G

theorem own_cur {w : World} {base g n cap : Nat} {l : List Int} (h : Own w base 3 1 (.slice (some ⟨g, 0, none⟩) n cap) (rwI l)) :
    ∃ cur, w.heap[g]? = some (.cells cur 3 (0, 0)) ∧ base ≤ g ∧ n = l.length ∧ n ≤ cap ∧ cap ≤ maxLen ∧ cur.size = cap ∧ cur.toList.take l.length = l.map (Value.int .i64) := by
  rcases h.1.2 with ⟨h1, _⟩ | ⟨g', cap', cur, h1, hb, hh, hc, hm, hs, ht⟩
  · cases h1
  · injection h1 with h1 h2 h3
    injection h1 with h1
    injection h1 with h1
    subst h1 h3
    rw [rwI_flat] at ht
    exact ⟨cur, hh, hb, by simpa using h2, by rw [h2]; exact hc, hm, by simpa using hs, by simpa using ht⟩
theorem own_mk {w : World} {base g cap : Nat} {l : List Int} {cur : Array Value} (hh : w.heap[g]? = some (.cells cur 3 (0, 0))) (hb : base ≤ g) (hc : l.length ≤ cap) (hm : cap ≤ maxLen) (hs : cur.size = cap) (ht : cur.toList.take l.length = l.map (Value.int .i64)) :
    Own w base 3 1 (.slice (some ⟨g, 0, none⟩) l.length cap) (rwI l) :=
  ⟨⟨by rw [rwI_flat]; simp, .inr ⟨g, cap, cur, by simp, hb, hh, by simpa using hc, hm, by simpa using hs, by rw [rwI_flat]; simpa using ht⟩⟩, rwI_one l⟩
theorem heap_set {w : World} {g i : Nat} {cur : Array Value} {u : Value} (hh : w.heap[g]? = some (.cells cur 3 (0, 0))) : (w.setCell ⟨g, i, none⟩ u).heap[g]? = some (.cells (cur.setIfInBounds i u) 3 (0, 0)) := Blk.set hh i u
/-- A store into a row of one's own. -/
theorem own_store {w : World} {base g n cap : Nat} {l : List Int} (h : Own w base 3 1 (.slice (some ⟨g, 0, none⟩) n cap) (rwI l)) (i : Nat) (x : Int) : Own (w.setCell ⟨g, i, none⟩ (.int .i64 x)) base 3 1 (.slice (some ⟨g, 0, none⟩) n cap) (rwI (l.set i x)) := by
  obtain ⟨cur, hh, hb, rfl, hc, hm, hs, ht⟩ := own_cur h
  have := own_mk (l := l.set i x) (heap_set (i := i) (u := .int .i64 x) hh) hb (by simpa using hc) hm (by simpa using hs) (by
    rw [List.length_set, Array.toList_setIfInBounds, List.take_set, ht, List.map_set])
  simpa using this
theorem own_past {w : World} {base g n cap : Nat} {l : List Int} (h : Own w base 3 1 (.slice (some ⟨g, 0, none⟩) n cap) (rwI l)) (i : Nat) (hi : n ≤ i) (u : Value) : Own (w.setCell ⟨g, i, none⟩ u) base 3 1 (.slice (some ⟨g, 0, none⟩) n cap) (rwI l) := by
  obtain ⟨cur, hh, hb, rfl, hc, hm, hs, ht⟩ := own_cur h
  exact own_mk (heap_set (i := i) (u := u) hh) hb hc hm (by simpa using hs) (by
    rw [Array.toList_setIfInBounds, List.take_set_of_le hi, ht])
theorem own_cut {w : World} {base g n cap : Nat} {l : List Int} (h : Own w base 3 1 (.slice (some ⟨g, 0, none⟩) n cap) (rwI l)) (m : Nat) (hm : m ≤ n) : Own w base 3 1 (.slice (some ⟨g, 0, none⟩) m cap) (rwI (l.take m)) := by
  obtain ⟨cur, hh, hb, rfl, hc, hmx, hs, ht⟩ := own_cur h
  have hl : (l.take m).length = m := by rw [List.length_take]; omega
  have := own_mk (l := l.take m) hh hb (by omega) hmx hs (by
    have h2 := congrArg (List.take m) ht
    rw [List.take_take, Nat.min_eq_left hm, ← List.map_take] at h2
    rw [hl]; exact h2)
  rw [hl] at this
  exact this
theorem own_cells {base g n cap : Nat} {l : List Int} (hn : n ≤ n) : ∀ (cs : List Value) (o : Nat) (w : World), Own w base 3 1 (.slice (some ⟨g, 0, none⟩) n cap) (rwI l) → n ≤ o → Own (w.setCells g o cs) base 3 1 (.slice (some ⟨g, 0, none⟩) n cap) (rwI l)
  | [], _, _, h, _ => h
  | c :: cs, o, w, h, ho => own_cells hn cs (o + 1) _ (own_past h o ho c) (by omega)
theorem fr_cells {g : Nat} : ∀ (cs : List Value) (o : Nat) (w : World), Fr (only g) w (w.setCells g o cs)
  | [], _, _ => Fr.refl _ _
  | c :: cs, o, w => ((Fr.refl (only g) w).setCell (p := ⟨g, o, none⟩) (.inr rfl) c).trans (fr_cells cs (o + 1) _) (fun _ _ h => h)

def filtN (p : Int → Bool) (l : List Int) : List Int := l.filter fun x => !p x
theorem filtN_step {p : Int → Bool} {l : List Int} {j : Nat} (hj : j < l.length) : filtN p (l.take (j + 1)) = filtN p (l.take j) ++ (if p l[j] then [] else [l[j]]) := by
  unfold filtN
  rw [List.take_add_one, List.getElem?_eq_getElem hj, List.filter_append]
  congr 1
  cases h : p l[j] <;> simp [h]
theorem filtN_le (p : Int → Bool) (l : List Int) : (filtN p l).length ≤ l.length := List.length_filter_le _ _
theorem filtN_lt {p : Int → Bool} {l : List Int} {k j : Nat} (hk : k < j) (hj : j ≤ l.length) (hp : p (l[k]'(by omega)) = true) : (filtN p (l.take j)).length < j := by
  have h1 := filtN_step (p := p) (l := l) (j := k) (by omega)
  rw [hp, if_pos rfl, List.append_nil] at h1
  have h2 : filtN p (l.take j) = filtN p (l.take (k + 1)) ++ filtN p ((l.take j).drop (k + 1)) := by
    unfold filtN
    rw [← List.filter_append]
    congr 1
    have : l.take (k + 1) = (l.take j).take (k + 1) := by rw [List.take_take, Nat.min_eq_left (by omega)]
    rw [this, List.take_append_drop]
  rw [h2, List.length_append, h1]
  have h3 := filtN_le p (l.take k)
  have h4 := filtN_le p ((l.take j).drop (k + 1))
  rw [List.length_take] at h3
  rw [List.length_drop, List.length_take] at h4
  omega
theorem filtN_none {p : Int → Bool} {l : List Int} (h : idx p l = -1) : filtN p l = l := by
  unfold idx at h
  cases hf : l.findIdx? p with
  | none =>
    rw [List.findIdx?_eq_none_iff] at hf
    exact List.filter_eq_self.2 (fun x hx => by simp [hf x hx])
  | some i => rw [hf] at h; simp at h
theorem idx_at {p : Int → Bool} {l : List Int} (h : idx p l ≠ -1) : ∃ k, ∃ hk : k < l.length, idx p l = k ∧ p l[k] = true ∧ (∀ j (hj : j < l.length), j < k → p l[j] = false) := by
  unfold idx at h ⊢
  cases hf : l.findIdx? p with
  | none => rw [hf] at h; simp at h
  | some i =>
    obtain ⟨h1, h2, h3⟩ := List.findIdx?_eq_some_iff_getElem.1 hf
    exact ⟨i, h1, rfl, h2, fun j hj hji => by simpa using h3 j hji⟩
theorem filtN_before {p : Int → Bool} {l : List Int} {k : Nat} (hk : k < l.length) (ht : p l[k] = true) (h : ∀ j (hj : j < l.length), j < k → p l[j] = false) : filtN p (l.take (k + 1)) = l.take k := by
  rw [filtN_step hk, ht, if_pos rfl, List.append_nil]
  exact List.filter_eq_self.2 (fun x hx => by
    obtain ⟨j, hj, rfl⟩ := List.mem_iff_getElem.1 hx
    rw [List.length_take] at hj
    rw [List.getElem_take, h j (by omega) (by omega)]; rfl)
end Go.Proofs.Ytoimhigpbmabeaa
