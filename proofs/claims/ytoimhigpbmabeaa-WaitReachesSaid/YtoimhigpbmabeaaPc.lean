/- WaitReaches, plain. -/
import Derived.Test.YtoimhigpbmabeaaPb
import Derived.Test.YtoimhigpbmabeaaG8
set_option linter.unusedVariables false
namespace Go.Proofs.Ytoimhigpbmabeaa.Pl
open Go.RowKit Go.Proofs.Wm Go.Proofs.YtoimhigpbmabeaaW.PrintWords Go.Proofs.YtoimhigpbmabeaaW.PrintLast Go.Proofs.YtoimhigpbmabeaaW.PrintMore Go.Proofs.Ytoimhigpbmabeaa Go.Proofs.Ytoimhigpbmabeaa.G

/-- Where a number stands; -1: nowhere. -/
def plc (l : List Int) (a : Int) : Int := match l.findIdx? (fun x => decide (x = a)) with | some i => i | none => -1
theorem plc_some {l : List Int} {a : Int} {i : Nat} (hi : i < l.length) (h : l[i] = a) (hb : ∀ j (hj : j < l.length), j < i → l[j] ≠ a) : plc l a = i := by
  unfold plc
  rw [List.findIdx?_eq_some_iff_getElem.2 ⟨hi, by simp [h], fun j hj => by simpa using hb j (by omega) hj⟩]
theorem plc_none {l : List Int} {a : Int} (h : a ∉ l) : plc l a = -1 := by
  unfold plc
  rw [List.findIdx?_eq_none_iff.2 (fun x hx => by simp; rintro rfl; exact h hx)]
theorem plc_mem {l : List Int} {a : Int} (h : a ∈ l) : ∃ i, ∃ hi : i < l.length, plc l a = i ∧ l[i] = a := by
  unfold plc
  cases hf : l.findIdx? (fun x => decide (x = a)) with
  | none => rw [List.findIdx?_eq_none_iff] at hf; have := hf a h; simp at this
  | some i =>
    obtain ⟨h1, h2, _⟩ := List.findIdx?_eq_some_iff_getElem.1 hf
    exact ⟨i, h1, rfl, by simpa using h2⟩
theorem place_l (l : List Int) (a : Int) (hl : l.length ≤ 1000000) : ∀ (d i k : Nat), l.length - i = d → d < k → i ≤ l.length → (∀ j (hj : j < l.length), j < i → l[j] ≠ a) → byroadlaw10_place.l0 k a l (l.length : Int) (i : Int) = some (plc l a) := by
  intro d
  induction d with
  | zero =>
    intro i k hd hk hi hb
    obtain ⟨k, rfl⟩ : ∃ m, k = m + 1 := ⟨k - 1, by omega⟩
    simp only [byroadlaw10_place.l0]
    rw [if_neg (by omega), plc_none (fun h => by obtain ⟨j, hj, e⟩ := List.mem_iff_getElem.1 h; exact hb j hj (by omega) e)]
  | succ d ih =>
    intro i k hd hk hi hb
    obtain ⟨k, rfl⟩ : ∃ m, k = m + 1 := ⟨k - 1, by omega⟩
    have hlt : i < l.length := by omega
    simp only [byroadlaw10_place.l0]
    rw [if_pos (by omega), if_pos (by omega), if_pos (by omega), rd_at hlt]
    by_cases e : l[i] = a
    · rw [if_pos e, plc_some hlt e hb]
    · rw [if_neg e, w64n (by omega), ih (i + 1) k (by omega) (by omega) (by omega) (fun j hj hji => by
        rcases Nat.lt_or_ge j i with h | h
        · exact hb j hj h
        · obtain rfl : j = i := by omega
          exact e)]
theorem place_f {l : List Int} (a : Int) (hl : l.length ≤ 1000000) {k : Nat} (hk : l.length < k) : byroadlaw10_place.f k l a = some (plc l a) := by
  unfold byroadlaw10_place.f
  exact place_l l a hl l.length 0 k (by omega) hk (by omega) (fun j hj h => absurd h (Nat.not_lt_zero _))

theorem rch_l3 {l : List S40} (hl : l.length ≤ 24) {a : Int} : ∀ (d i k : Nat), l.length - i = d → d + 100 < k → i ≤ l.length → byroadlaw10_WaitReaches.l3 k a (reachL (pe l) a) l (l.length : Int) (i : Int) = some true := by
  have hrl := reachL_len (pe l) a
  rw [pe_len] at hrl
  intro d
  induction d with
  | zero =>
    intro i k hd hk hi
    obtain ⟨k, rfl⟩ : ∃ m, k = m + 1 := ⟨k - 1, by omega⟩
    simp only [byroadlaw10_WaitReaches.l3]
    rw [if_neg (by omega), awake_f]; rfl
  | succ d ih =>
    intro i k hd hk hi
    obtain ⟨k, rfl⟩ : ∃ m, k = m + 1 := ⟨k - 1, by omega⟩
    have hlt : i < l.length := by omega
    simp only [byroadlaw10_WaitReaches.l3]
    rw [if_pos (by omega), if_pos (by omega), if_pos (by omega), rd40_at hlt, w64n (by omega), ih (i + 1) k (by omega) (by omega) (by omega)]
    by_cases e : l[i].f0 = a
    · rw [if_pos e, place_f _ (by omega) (by omega)]
      have hm : l[i].f1 ∈ reachL (pe l) a := mem_reachL.2 (.one (List.mem_map.2 ⟨l[i], List.getElem_mem hlt, by rw [e]⟩))
      obtain ⟨q, _, hq, _⟩ := plc_mem hm
      simp only [Option.bind_some]
      rw [hq, if_neg (by omega)]
    · rw [if_neg e]
theorem rch_l2 {l : List S40} (hl : l.length ≤ 24) {a : Int} {x5 : List S44} {r : List Int} {n : Int} {x23 : List Int} {x24 x25 : Int} : ∀ (d i : Nat) (fl : Bool) (k : Nat), l.length - i = d → i ≤ l.length → (fl = true ∨ ∃ j, ∃ hj : j < l.length, i ≤ j ∧ l[j].f1 = n) →
    byroadlaw10_WaitReaches.l2 (k + d + 1) l a x5 r n fl x23 x24 x25 l (l.length : Int) (i : Int) = byroadlaw10_WaitReaches.l0 k l a x5 r x23 x24 (wrap64 (x25 + 1)) := by
  intro d
  induction d with
  | zero =>
    intro i fl k hd hi hf
    have hfl : fl = true := by
      rcases hf with h | ⟨j, hj, h, _⟩
      · exact h
      · omega
    rw [byroadlaw10_WaitReaches.l2]
    rw [if_neg (by omega), if_pos hfl]
  | succ d ih =>
    intro i fl k hd hi hf
    have hlt : i < l.length := by omega
    rw [show k + (d + 1) + 1 = (k + d + 1) + 1 from by omega]
    rw [byroadlaw10_WaitReaches.l2]
    rw [if_pos (by omega), if_pos (by omega), if_pos (by omega), rd40_at hlt, w64n (by omega)]
    by_cases h : fl = true
    · rw [if_pos h]
      exact ih (i + 1) true k (by omega) (by omega) (.inl rfl)
    · rw [if_neg h]
      refine ih (i + 1) _ k (by omega) (by omega) ?_
      rcases hf with h1 | ⟨j, hj, h1, h2⟩
      · exact absurd h1 h
      · rcases Nat.lt_or_ge i j with h3 | h3
        · exact .inr ⟨j, hj, h3, h2⟩
        · obtain rfl : j = i := by omega
          exact .inl (by rw [h2]; exact beq_self_eq_true _)
theorem rch_l1 {l : List S40} (hl : l.length ≤ 24) {a : Int} {x5 : List S44} {r : List Int} (hr : r.length ≤ 24) {n : Int} {x23 : List Int} {x24 x25 : Int} (t : List Int) (ht : t.length ≤ 1000) (htr : ∀ x ∈ t, x ∈ r) : ∀ (d i : Nat) (k : Nat), t.length - i = d → i ≤ t.length → 50 < k →
    byroadlaw10_WaitReaches.l1 (k + d + 1) l a x5 r n x23 x24 x25 t (t.length : Int) (i : Int) = byroadlaw10_WaitReaches.l2 k l a x5 r n false x23 x24 x25 l (l.length : Int) 0 := by
  intro d
  induction d with
  | zero =>
    intro i k hd hi hk
    rw [byroadlaw10_WaitReaches.l1]
    rw [if_neg (by omega)]
  | succ d ih =>
    intro i k hd hi hk
    have hlt : i < t.length := by omega
    rw [show k + (d + 1) + 1 = (k + d + 1) + 1 from by omega]
    rw [byroadlaw10_WaitReaches.l1]
    rw [if_pos (by omega), if_pos (by omega), if_pos (by omega), rd_at hlt, w64n (by omega), place_f _ (by omega) (by omega)]
    obtain ⟨q, _, hq, _⟩ := plc_mem (htr _ (List.getElem_mem hlt))
    simp only [Option.bind_some]
    rw [hq, if_neg (by omega), ih (i + 1) k (by omega) (by omega) hk]
theorem rch_l0 {l : List S40} (hw : wf40 l) (hl : l.length ≤ 24) {a : Int} (ha : wfI a) : ∀ (d i k : Nat), (reachL (pe l) a).length - i = d → i ≤ (reachL (pe l) a).length → d * 60 + 200 < k →
    byroadlaw10_WaitReaches.l0 k l a (l.map to44) (reachL (pe l) a) (reachL (pe l) a) ((reachL (pe l) a).length : Int) (i : Int) = some true := by
  have hrl := reachL_len (pe l) a
  rw [pe_len] at hrl
  have hwe : ∀ e ∈ pe l, wfI e.1 ∧ wfI e.2 := fun e he => by obtain ⟨x, hx, rfl⟩ := List.mem_map.1 he; exact hw x hx
  intro d
  induction d with
  | zero =>
    intro i k hd hi hk
    obtain ⟨k, rfl⟩ : ∃ m, k = m + 1 := ⟨k - 1, by omega⟩
    simp only [byroadlaw10_WaitReaches.l0]
    rw [if_neg (by omega)]
    exact rch_l3 hl l.length 0 k (by omega) (by omega) (by omega)
  | succ d ih =>
    intro i k hd hi hk
    have hlt : i < (reachL (pe l) a).length := by omega
    have hin : (reachL (pe l) a)[i] ∈ reachL (pe l) a := List.getElem_mem hlt
    generalize hx : (reachL (pe l) a)[i] = x at hin
    have htx := mem_reachL.1 hin
    have htl := reachL_len (pe l) x
    rw [pe_len] at htl
    obtain ⟨k, rfl⟩ : ∃ m, k = ((m + l.length + 1) + (reachL (pe l) x).length + 1) + 1 := ⟨k - 3 - l.length - (reachL (pe l) x).length, by omega⟩
    simp only [byroadlaw10_WaitReaches.l0]
    rw [if_pos (by omega), if_pos (by omega), if_pos (by omega), rd_at hlt, hx, reach_f hw (by omega) (wf_tc hwe htx)]
    simp only [Option.bind_some]
    have h1 := rch_l1 hl (a := a) (x5 := l.map to44) (r := reachL (pe l) a) (by omega) (n := x) (x23 := reachL (pe l) a) (x24 := ((reachL (pe l) a).length : Int)) (x25 := (i : Int)) (reachL (pe l) x) (by omega) (fun y hy => mem_reachL.2 (htx.trans (mem_reachL.1 hy))) (reachL (pe l) x).length 0 (k + l.length + 1) (by omega) (by omega) (by omega)
    have h2 := rch_l2 hl (a := a) (x5 := l.map to44) (r := reachL (pe l) a) (n := x) (x23 := reachL (pe l) a) (x24 := ((reachL (pe l) a).length : Int)) (x25 := (i : Int)) l.length 0 false k (by omega) (by omega) (.inr (by
      obtain ⟨e, he, hxe⟩ := List.mem_map.1 htx.mem
      obtain ⟨z, hz, rfl⟩ := List.mem_map.1 he
      obtain ⟨j, hj, rfl⟩ := List.mem_iff_getElem.1 hz
      exact ⟨j, hj, Nat.zero_le _, hxe⟩))
    rw [Int.natCast_zero] at h1 h2
    rw [h1, h2, w64n (by omega)]
    exact ih (i + 1) k (by omega) (by omega) (by omega)
theorem WaitReaches_pure (l : List S40) (a : Int) (hw : wf40 l) (ha : wfI a) {k : Nat} (hk : 3500 < k) : byroadlaw10_WaitReaches.f k l a = some true := by
  have hw' : wf40 (l.take 24) := fun e he => hw e (List.mem_of_mem_take he)
  have hl' : (l.take 24).length ≤ 24 := by simp; omega
  have hrl := reachL_len (pe (l.take 24)) a
  rw [pe_len] at hrl
  unfold byroadlaw10_WaitReaches.f
  rw [cut_f]
  simp only [Option.bind_some]
  rw [ours_f (by omega) (by omega)]
  simp only [Option.bind_some]
  rw [reach_f hw' (by omega) ha]
  simp only [Option.bind_some]
  exact rch_l0 hw' hl' ha _ 0 k rfl (by omega) (by omega)
end Go.Proofs.Ytoimhigpbmabeaa.Pl
