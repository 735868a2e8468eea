/- The reference's Reach and Circles. -/
import Derived.Test.YtoimhigpbmabeaaPe
set_option linter.unusedVariables false
namespace Go.Proofs.Ytoimhigpbmabeaa.Pl
open Go.RowKit Go.Proofs.Wm Go.Proofs.YtoimhigpbmabeaaW.PrintWords Go.Proofs.YtoimhigpbmabeaaW.PrintLast Go.Proofs.YtoimhigpbmabeaaW.PrintMore Go.Proofs.Ytoimhigpbmabeaa Go.Proofs.Ytoimhigpbmabeaa.G

theorem ins_old {x : Int} : ∀ {l : List Int}, l.Pairwise (· < ·) → x ∈ l → ins x l = l
  | [], _, h => by cases h
  | y :: r, hs, h => by
    rw [List.pairwise_cons] at hs
    unfold ins
    rcases List.mem_cons.1 h with rfl | h
    · rw [if_neg (by omega), if_pos rfl]
    · have := hs.1 x h
      rw [if_neg (by omega), if_neg (by omega), ins_old hs.2 h]
theorem ins_new {x : Int} : ∀ {l : List Int}, x ∉ l → (ins x l).length = l.length + 1
  | [], _ => rfl
  | y :: r, h => by
    unfold ins
    split
    · simp
    · rw [if_neg (fun e => h (by simp [e])), List.length_cons, ins_new (fun e => h (by simp [e])), List.length_cons]
def stepR (a : Int) (o : List Int) (e : Int × Int) : List Int := if e.1 = a ∨ e.1 ∈ o then ins e.2 o else o
def grow (a : Int) (es : Es) (o : List Int) : List Int := es.foldl (stepR a) o
theorem stepR_srt {a : Int} {o : List Int} (h : o.Pairwise (· < ·)) (e : Int × Int) : (stepR a o e).Pairwise (· < ·) := by
  unfold stepR; split
  · exact srt_ins h
  · exact h
theorem stepR_len (a : Int) (o : List Int) (h : o.Pairwise (· < ·)) (e : Int × Int) : o.length ≤ (stepR a o e).length ∧ (stepR a o e).length ≤ o.length + 1 := by
  unfold stepR; split
  · refine ⟨?_, ins_len _ _⟩
    by_cases hx : e.2 ∈ o
    · rw [ins_old h hx]; omega
    · rw [ins_new hx]; omega
  · omega
theorem grow_srt {a : Int} : ∀ (es : Es) {o : List Int}, o.Pairwise (· < ·) → (grow a es o).Pairwise (· < ·)
  | [], _, h => h
  | e :: es, _, h => grow_srt es (stepR_srt h e)
theorem grow_len {a : Int} : ∀ (es : Es) {o : List Int}, o.Pairwise (· < ·) → o.length ≤ (grow a es o).length ∧ (grow a es o).length ≤ o.length + es.length
  | [], _, _ => by simp [grow]
  | e :: es, o, h => by
    have h1 := grow_len (a := a) es (stepR_srt (a := a) h e)
    have h2 := stepR_len a o h e
    simp only [grow, List.foldl_cons, List.length_cons] at *
    omega
theorem grow_tc {a : Int} {E : Es} : ∀ (es : Es) {o : List Int}, (∀ e ∈ es, e ∈ E) → (∀ x ∈ o, TC E a x) → ∀ x ∈ grow a es o, TC E a x
  | [], _, _, h => h
  | e :: es, o, hs, h => by
    refine grow_tc es (fun e he => hs e (by simp [he])) (fun x hx => ?_)
    unfold stepR at hx
    split at hx
    · rename_i hc
      rcases mem_ins.1 hx with rfl | hx
      · rcases hc with hc | hc
        · exact .one (by rw [← hc]; exact hs e (by simp))
        · exact (h _ hc).more (hs e (by simp))
      · exact h x hx
    · exact h x hx
theorem grow_same {a : Int} : ∀ (es : Es) {o : List Int}, o.Pairwise (· < ·) → (grow a es o).length = o.length → grow a es o = o ∧ ∀ e ∈ es, e.1 = a ∨ e.1 ∈ o → e.2 ∈ o
  | [], _, _, _ => ⟨rfl, fun e h => by cases h⟩
  | e :: es, o, h, hl => by
    have h1 := grow_len (a := a) es (stepR_srt (a := a) h e)
    have h2 := stepR_len a o h e
    have h3 : (stepR a o e).length = o.length := by simp only [grow, List.foldl_cons] at *; omega
    have h4 : stepR a o e = o ∧ (e.1 = a ∨ e.1 ∈ o → e.2 ∈ o) := by
      unfold stepR at h3 ⊢
      split at h3
      · rename_i hc
        have hx : e.2 ∈ o := by
          by_cases hx : e.2 ∈ o
          · exact hx
          · rw [ins_new hx] at h3; omega
        rw [if_pos hc, ins_old h hx]
        exact ⟨rfl, fun _ => hx⟩
      · rename_i hc
        rw [if_neg hc]
        exact ⟨rfl, fun h => absurd h hc⟩
    have h5 := grow_same es h (by simp only [grow, List.foldl_cons, h4.1] at hl; exact hl)
    refine ⟨by simp only [grow, List.foldl_cons, h4.1]; exact h5.1, fun e' he' hc => ?_⟩
    rcases List.mem_cons.1 he' with rfl | he'
    · exact h4.2 hc
    · exact h5.2 e' he' hc
theorem grow_end {a : Int} {es : Es} {o : List Int} (h : o.Pairwise (· < ·)) (ht : ∀ x ∈ o, TC es a x) (hl : (grow a es o).length = o.length) : o = reachL es a := by
  have hc := (grow_same es h hl).2
  refine srt_ext h (srt_reachL es a) (fun x => ⟨fun hx => mem_reachL.2 (ht x hx), fun hx => ?_⟩)
  have := mem_reachL.1 hx
  clear hx
  induction this with
  | one h1 => exact hc _ h1 (.inl rfl)
  | more _ h1 ih => exact hc _ h1 (.inr ih)
theorem rr_l1 (l : List S40) (hl : l.length ≤ 1000) (a n : Int) : ∀ (d i k : Nat) (o : List Int), l.length - i = d → i ≤ l.length → 5000 < k → o.length ≤ 1000 + i → o.Pairwise (· < ·) →
    byroadref10_Reach.l1 (k + d + 1) a l o n l (l.length : Int) (i : Int) = if ((grow a (pe (l.drop i)) o).length : Int) = n then some (grow a (pe (l.drop i)) o) else byroadref10_Reach.l0 k a l (grow a (pe (l.drop i)) o) := by
  intro d
  induction d with
  | zero =>
    intro i k o hd hi hk ho hs
    rw [byroadref10_Reach.l1]
    rw [if_neg (by omega), List.drop_eq_nil_of_le (by omega)]
    rfl
  | succ d ih =>
    intro i k o hd hi hk ho hs
    have hlt : i < l.length := by omega
    rw [show k + (d + 1) + 1 = (k + d + 1) + 1 from by omega]
    rw [byroadref10_Reach.l1]
    rw [if_pos (by omega), if_pos (by omega), if_pos (by omega), rd40_at hlt, w64n (by omega), List.drop_eq_getElem_cons hlt]
    have hg : grow a (pe (l[i] :: l.drop (i + 1))) o = grow a (pe (l.drop (i + 1))) (stepR a o (l[i].f0, l[i].f1)) := rfl
    have hsl := stepR_len a o hs (l[i].f0, l[i].f1)
    have hih := ih (i + 1) k (stepR a o (l[i].f0, l[i].f1)) (by omega) (by omega) hk (by omega) (stepR_srt hs _)
    rw [hg]
    by_cases h1 : l[i].f0 = a
    · rw [if_pos h1, into_f hs (by omega) (by omega)]
      simp only [Option.bind_some]
      have he : stepR a o (l[i].f0, l[i].f1) = ins l[i].f1 o := by unfold stepR; rw [if_pos (.inl h1)]
      rw [he] at hih ⊢
      exact hih
    · rw [if_neg h1, has_f (by omega) (by omega)]
      simp only [Option.bind_some, decide_eq_true_eq]
      by_cases h2 : l[i].f0 ∈ o
      · rw [if_pos h2, into_f hs (by omega) (by omega)]
        simp only [Option.bind_some]
        have he : stepR a o (l[i].f0, l[i].f1) = ins l[i].f1 o := by unfold stepR; rw [if_pos (.inr h2)]
        rw [he] at hih ⊢
        exact hih
      · rw [if_neg h2]
        have he : stepR a o (l[i].f0, l[i].f1) = o := by unfold stepR; rw [if_neg (fun h => h.elim h1 h2)]
        rw [he] at hih ⊢
        exact hih
theorem tc_len {es : Es} {a : Int} {o : List Int} (hs : o.Pairwise (· < ·)) (ht : ∀ x ∈ o, TC es a x) : o.length ≤ es.length := by
  have := nodup_len (k := es.map (·.2)) (hs.imp (fun h => by omega) : o.Nodup) (fun x hx => (ht x hx).mem)
  simpa using this
theorem rr_l0 (l : List S40) (hl : l.length ≤ 1000) (a : Int) : ∀ (d k : Nat) (o : List Int), l.length - o.length = d → o.Pairwise (· < ·) → (∀ x ∈ o, TC (pe l) a x) → d * (l.length + 2) + l.length + 5010 < k →
    byroadref10_Reach.l0 k a l o = some (reachL (pe l) a) := by
  intro d
  induction d using Nat.strongRecOn with
  | ind d ih =>
    intro k o hd hs ht hk
    have hol := tc_len hs ht
    rw [pe_len] at hol
    obtain ⟨k, rfl⟩ : ∃ m, k = (m + l.length + 1) + 1 := ⟨k - 2 - l.length, by omega⟩
    simp only [byroadref10_Reach.l0]
    have h1 := rr_l1 l hl a (o.length : Int) l.length 0 k o (by omega) (by omega) (by omega) (by omega) hs
    rw [List.drop_zero, Int.natCast_zero] at h1
    refine h1.trans ?_
    have hgl := grow_len (a := a) (pe l) hs
    have hgt := grow_tc (E := pe l) (pe l) (fun e h => h) ht
    by_cases e : (grow a (pe l) o).length = o.length
    · rw [if_pos (by omega), (grow_same _ hs e).1, grow_end hs ht e]
    · rw [if_neg (by omega)]
      have h2 := tc_len (grow_srt (a := a) (pe l) hs) hgt
      rw [pe_len] at h2
      have hlt : l.length - (grow a (pe l) o).length < d := by omega
      refine ih _ hlt k _ rfl (grow_srt _ hs) hgt ?_
      have : (l.length - (grow a (pe l) o).length + 1) * (l.length + 2) ≤ d * (l.length + 2) := Nat.mul_le_mul_right _ hlt
      rw [Nat.add_mul] at this
      omega
theorem rreach_f {l : List S40} (hl : l.length ≤ 24) (a : Int) {k : Nat} (hk : 6000 < k) : byroadref10_Reach.f k a l = some (reachL (pe l) a) := by
  unfold byroadref10_Reach.f
  refine rr_l0 l (by omega) a l.length k [] (by simp) List.Pairwise.nil (fun x h => by cases h) ?_
  have : l.length * (l.length + 2) ≤ 24 * 26 := Nat.mul_le_mul hl (by omega)
  omega
theorem rc_l0 {l : List S40} (hl : l.length ≤ 24) (L : List Int) (hL : L.length ≤ 100) : ∀ (d i k : Nat) (o : List Int), L.length - i = d → i ≤ L.length → 6100 + d < k → o.length ≤ i →
    byroadref10_Circles.l0 k l o L (L.length : Int) (i : Int) = some (o ++ (L.drop i).filter fun x => (reachL (pe l) x).contains x) := by
  intro d
  induction d with
  | zero =>
    intro i k o hd hi hk ho
    obtain ⟨k, rfl⟩ : ∃ m, k = m + 1 := ⟨k - 1, by omega⟩
    simp only [byroadref10_Circles.l0]
    rw [if_neg (by omega), List.drop_eq_nil_of_le (by omega)]
    simp
  | succ d ih =>
    intro i k o hd hi hk ho
    obtain ⟨k, rfl⟩ : ∃ m, k = m + 1 := ⟨k - 1, by omega⟩
    have hlt : i < L.length := by omega
    have hrl := reachL_len (pe l) L[i]
    rw [pe_len] at hrl
    simp only [byroadref10_Circles.l0]
    rw [if_pos (by omega), if_pos (by omega), if_pos (by omega), rd_at hlt, rreach_f hl _ (by omega)]
    simp only [Option.bind_some]
    rw [has_f (by omega) (by omega)]
    simp only [Option.bind_some, decide_eq_true_eq]
    rw [List.drop_eq_getElem_cons hlt, List.filter_cons, w64n (by omega)]
    by_cases e : L[i] ∈ reachL (pe l) L[i]
    · rw [if_pos e, if_pos (by omega), if_pos (by simpa using e), ih (i + 1) k _ (by omega) (by omega) (by omega) (by simp; omega), List.append_assoc]
      rfl
    · rw [if_neg e, if_neg (by simpa using e), ih (i + 1) k _ (by omega) (by omega) (by omega) (by omega)]
theorem rcirc_f {l : List S40} (hl : l.length ≤ 24) {k : Nat} (hk : 7000 < k) : byroadref10_Circles.f k l = some (circL (pe l)) := by
  have h1 : (allL (pe l)).length ≤ 48 := by have := insAll_len (nodes (pe l)); have := nodes_len (pe l); have := pe_len l; unfold allL; omega
  unfold byroadref10_Circles.f
  rw [all_f (by omega) (by omega)]
  simp only [Option.bind_some]
  have := rc_l0 hl (allL (pe l)) (by omega) (allL (pe l)).length 0 k [] (by omega) (by omega) (by omega) (by simp)
  rw [List.drop_zero] at this
  exact this
end Go.Proofs.Ytoimhigpbmabeaa.Pl
