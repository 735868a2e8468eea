/- WaitOrders, plain. -/
import Derived.Test.YtoimhigpbmabeaaPe
import Derived.Test.YtoimhigpbmabeaaPg
import Derived.Test.YtoimhigpbmabeaaG10
set_option linter.unusedVariables false
namespace Go.Proofs.Ytoimhigpbmabeaa.Pl
open Go.RowKit Go.Proofs.Wm Go.Proofs.YtoimhigpbmabeaaW.PrintWords Go.Proofs.YtoimhigpbmabeaaW.PrintLast Go.Proofs.YtoimhigpbmabeaaW.PrintMore Go.Proofs.Ytoimhigpbmabeaa Go.Proofs.Ytoimhigpbmabeaa.G

/-- Where a number stands; -1: nowhere. -/
def plc (l : List Int) (a : Int) : Int := match l.findIdx? (fun x => decide (x = a)) with | some i => i | none => -1
theorem plc_some {l : List Int} {a : Int} {i : Nat} (hi : i < l.length) (h : l[i] = a) (hb : ∀ j (hj : j < l.length), j < i → l[j] ≠ a) : plc l a = i := by
  unfold plc
  rw [List.findIdx?_eq_some_iff_getElem.2 ⟨hi, by simp [h], fun j hj => by simpa using hb j (by omega) hj⟩]
theorem plc_none {l : List Int} {a : Int} (h : a ∉ l) : plc l a = -1 := by
  unfold plc
  rw [List.findIdx?_eq_none_iff.2 (fun x hx => by simp; rintro rfl; exact h hx)]
theorem plc_mem {l : List Int} {a : Int} (h : a ∈ l) : ∃ i, ∃ hi : i < l.length, plc l a = i ∧ l[i] = a := by
  unfold plc
  cases hf : l.findIdx? (fun x => decide (x = a)) with
  | none => rw [List.findIdx?_eq_none_iff] at hf; have := hf a h; simp at this
  | some i =>
    obtain ⟨h1, h2, _⟩ := List.findIdx?_eq_some_iff_getElem.1 hf
    exact ⟨i, h1, rfl, by simpa using h2⟩
theorem place_l (l : List Int) (a : Int) (hl : l.length ≤ 1000000) : ∀ (d i k : Nat), l.length - i = d → d < k → i ≤ l.length → (∀ j (hj : j < l.length), j < i → l[j] ≠ a) → byroadlaw10_place.l0 k a l (l.length : Int) (i : Int) = some (plc l a) := by
  intro d
  induction d with
  | zero =>
    intro i k hd hk hi hb
    obtain ⟨k, rfl⟩ : ∃ m, k = m + 1 := ⟨k - 1, by omega⟩
    simp only [byroadlaw10_place.l0]
    rw [if_neg (by omega), plc_none (fun h => by obtain ⟨j, hj, e⟩ := List.mem_iff_getElem.1 h; exact hb j hj (by omega) e)]
  | succ d ih =>
    intro i k hd hk hi hb
    obtain ⟨k, rfl⟩ : ∃ m, k = m + 1 := ⟨k - 1, by omega⟩
    have hlt : i < l.length := by omega
    simp only [byroadlaw10_place.l0]
    rw [if_pos (by omega), if_pos (by omega), if_pos (by omega), rd_at hlt]
    by_cases e : l[i] = a
    · rw [if_pos e, plc_some hlt e hb]
    · rw [if_neg e, w64n (by omega), ih (i + 1) k (by omega) (by omega) (by omega) (fun j hj hji => by
        rcases Nat.lt_or_ge j i with h | h
        · exact hb j hj h
        · obtain rfl : j = i := by omega
          exact e)]
theorem place_f {l : List Int} (a : Int) (hl : l.length ≤ 1000000) {k : Nat} (hk : l.length < k) : byroadlaw10_place.f k l a = some (plc l a) := by
  unfold byroadlaw10_place.f
  exact place_l l a hl l.length 0 k (by omega) hk (by omega) (fun j hj h => absurd h (Nat.not_lt_zero _))

theorem plc_nodup {l : List Int} (hn : l.Nodup) {i : Nat} (hi : i < l.length) : plc l l[i] = i :=
  plc_some hi rfl (fun j hj hlt => List.pairwise_iff_getElem.1 hn j i hj hi hlt)
theorem ords_l0 {l : List S40} (hl : l.length ≤ 24) {o : List Int} (ht : (ordL (pe l)).2 = true) (ho : o = (ordL (pe l)).1) : ∀ (d i k : Nat), l.length - i = d → i ≤ l.length → 6200 + d < k →
    byroadlaw10_WaitOrders.l0 k l o l (l.length : Int) (i : Int) = some true := by
  have hlen : o.length ≤ 2000 := by rw [ho]; exact ord_len (by omega)
  have hp := (ord_true ht).2
  have hn : o.Nodup := by rw [ho]; exact hp.nodup_iff.2 (allL_nodup _)
  intro d
  induction d with
  | zero =>
    intro i k hd hi hk
    obtain ⟨k, rfl⟩ : ∃ m, k = m + 1 := ⟨k - 1, by omega⟩
    simp only [byroadlaw10_WaitOrders.l0]
    rw [if_neg (by omega), all_f (by omega) (by omega)]
    simp only [Option.bind_some]
    rw [if_pos (by rw [ho, hp.length_eq]), awake_f]; rfl
  | succ d ih =>
    intro i k hd hi hk
    obtain ⟨k, rfl⟩ : ∃ m, k = m + 1 := ⟨k - 1, by omega⟩
    have hlt : i < l.length := by omega
    obtain ⟨p, q, hp1, hq1, hpa, hqb, hpq⟩ := ord_edge ht (a := l[i].f0) (b := l[i].f1) (List.mem_map.2 ⟨l[i], List.getElem_mem hlt, rfl⟩)
    have e1 : plc o l[i].f0 = p := by subst ho; rw [← hpa]; exact plc_nodup hn hp1
    have e2 : plc o l[i].f1 = q := by subst ho; rw [← hqb]; exact plc_nodup hn hq1
    simp only [byroadlaw10_WaitOrders.l0]
    rw [if_pos (by omega), if_pos (by omega), if_pos (by omega), rd40_at hlt, place_f _ (by omega) (by omega), place_f _ (by omega) (by omega), e1, e2]
    simp only [Option.bind_some]
    rw [if_neg (by omega), if_neg (by omega), if_neg (by omega), w64n (by omega)]
    exact ih (i + 1) k (by omega) (by omega) (by omega)
theorem WaitOrders_pure (l : List S40) (hw : wf40 l) {k : Nat} (hk : 7000 < k) : byroadlaw10_WaitOrders.f k l = some true := by
  have hw' : wf40 (l.take 24) := fun e he => hw e (List.mem_of_mem_take he)
  have hl' : (l.take 24).length ≤ 24 := by simp; omega
  unfold byroadlaw10_WaitOrders.f
  rw [cut_f]
  simp only [Option.bind_some]
  rw [ours_f (by omega) (by omega)]
  simp only [Option.bind_some]
  rw [ord_f hw' (by omega)]
  simp only [Option.bind_some]
  by_cases h : (ordL (pe (l.take 24))).2 = true
  · rw [if_pos h]
    exact ords_l0 hl' h rfl _ 0 k rfl (by omega) (by omega)
  · rw [if_neg h, ord_false (by simpa using h), if_pos (by simp), awake_f]; rfl
end Go.Proofs.Ytoimhigpbmabeaa.Pl
