/- WaitLess, plain. -/
import Derived.Test.YtoimhigpbmabeaaPb
import Derived.Test.YtoimhigpbmabeaaG9
set_option linter.unusedVariables false
namespace Go.Proofs.Ytoimhigpbmabeaa.Pl
open Go.RowKit Go.Proofs.Wm Go.Proofs.YtoimhigpbmabeaaW.PrintWords Go.Proofs.YtoimhigpbmabeaaW.PrintLast Go.Proofs.YtoimhigpbmabeaaW.PrintMore Go.Proofs.Ytoimhigpbmabeaa Go.Proofs.Ytoimhigpbmabeaa.G

def without (v : Int) (l : List S40) : List S40 := l.filter fun e => decide (e.f0 ≠ v) && decide (e.f1 ≠ v)
theorem less_l1 {x : List S40} {i v : Int} (l : List S40) (hl : l.length ≤ 1000) : ∀ (d j : Nat) (o : List S40) (k : Nat), l.length - j = d → j ≤ l.length → o.length ≤ j →
    byroadlaw10_WaitLess.l1 (k + d + 1) x i v o l (l.length : Int) (j : Int) = if ((o ++ without v (l.drop j)).length : Int) ≥ (x.length : Int) then some false else byroadlaw10_WaitLess.l0 k (o ++ without v (l.drop j)) (wrap64 (i + 1)) := by
  intro d
  induction d with
  | zero =>
    intro j o k hd hj ho
    rw [byroadlaw10_WaitLess.l1]
    rw [if_neg (by omega), List.drop_eq_nil_of_le (by omega)]
    simp only [without, List.filter_nil, List.append_nil]
  | succ d ih =>
    intro j o k hd hj ho
    have hlt : j < l.length := by omega
    rw [show k + (d + 1) + 1 = (k + d + 1) + 1 from by omega]
    rw [byroadlaw10_WaitLess.l1]
    rw [if_pos (by omega), if_pos (by omega), if_pos (by omega), rd40_at hlt, w64n (by omega), List.drop_eq_getElem_cons hlt]
    by_cases h1 : l[j].f0 = v
    · rw [if_pos h1, ih (j + 1) o k (by omega) (by omega) (by omega)]
      simp only [without, List.filter_cons, h1]
      simp
    · rw [if_neg h1]
      by_cases h2 : l[j].f1 = v
      · rw [if_pos h2, ih (j + 1) o k (by omega) (by omega) (by omega)]
        simp only [without, List.filter_cons, h2]
        simp
      · rw [if_neg h2, if_pos (by omega), ih (j + 1) _ k (by omega) (by omega) (by simp; omega)]
        simp only [without, List.filter_cons, ne_eq, h1, h2, not_false_eq_true, decide_true, Bool.and_self, if_true, List.append_assoc, List.singleton_append]
theorem without_lt {l : List S40} {v : Int} (h : TC (pe l) v v) : (without v l).length < l.length := by
  obtain ⟨e, he, hv⟩ := List.mem_map.1 h.mem
  obtain ⟨z, hz, rfl⟩ := List.mem_map.1 he
  refine Nat.lt_of_le_of_ne (List.length_filter_le _ _) (fun e => ?_)
  have := List.length_filter_eq_length_iff.1 e z hz
  simp at hv
  simp [hv] at this
theorem wf_without {l : List S40} (h : wf40 l) (v : Int) : wf40 (without v l) := fun e he => h e (List.mem_filter.1 he).1
theorem less_l0 : ∀ (n i k : Nat) (l : List S40), l.length = n → n + i ≤ 24 → wf40 l → n * 40 + 3200 < k → byroadlaw10_WaitLess.l0 k l (i : Int) = some true := by
  intro n
  induction n using Nat.strongRecOn with
  | ind n ih =>
    intro i k l hn hi hw hk
    have hcl := circ_len (l := l) (by omega)
    obtain ⟨k, rfl⟩ : ∃ m, k = (m + l.length + 1) + 1 := ⟨k - 2 - l.length, by omega⟩
    simp only [byroadlaw10_WaitLess.l0]
    rw [if_pos (by omega), ours_f (by omega) (by omega)]
    simp only [Option.bind_some]
    rw [vic_f hw (by omega)]
    simp only [Option.bind_some]
    rcases List.eq_nil_or_concat (circL (pe l)) with hc | ⟨init, v, hc⟩
    · have hv : vicL (pe l) = (0, false) := by unfold vicL; rw [hc]; rfl
      rw [hv, if_neg (by simp), circ_f hw (by omega), hc]
      simp only [Option.bind_some]
      rw [if_pos (by simp), awake_f]
      rfl
    · rw [List.concat_eq_append] at hc
      have hv : vicL (pe l) = (v, true) := by unfold vicL; rw [hc, List.getLast?_concat]
      have htc : TC (pe l) v v := mem_circL.1 (by rw [hc]; simp)
      have hlt := without_lt htc
      have h1 := less_l1 (x := l) (i := (i : Int)) (v := v) l (by omega) l.length 0 [] k (by omega) (by omega) (by simp)
      simp only [List.drop_zero, List.nil_append] at h1
      rw [hv, if_pos rfl]
      refine h1.trans ?_
      rw [if_neg (by omega), w64n (by omega)]
      exact ih (without v l).length (by omega) (i + 1) k _ rfl (by omega) (wf_without hw v) (by omega)
theorem WaitLess_pure (l : List S40) (hw : wf40 l) {k : Nat} (hk : 5000 < k) : byroadlaw10_WaitLess.f k l = some true := by
  have hw' : wf40 (l.take 24) := fun e he => hw e (List.mem_of_mem_take he)
  have hl' : (l.take 24).length ≤ 24 := by simp; omega
  unfold byroadlaw10_WaitLess.f
  rw [cut_f]
  simp only [Option.bind_some]
  exact less_l0 _ 0 k _ rfl (by omega) hw' (by omega)
end Go.Proofs.Ytoimhigpbmabeaa.Pl
