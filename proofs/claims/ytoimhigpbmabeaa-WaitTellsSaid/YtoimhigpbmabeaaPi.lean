/- The reference's Order; WaitTells, plain. -/
import Derived.Test.YtoimhigpbmabeaaPf
import Derived.Test.YtoimhigpbmabeaaPg
import Derived.Test.YtoimhigpbmabeaaG7
set_option linter.unusedVariables false
namespace Go.Proofs.Ytoimhigpbmabeaa.Pl
open Go.RowKit Go.Proofs.Wm Go.Proofs.YtoimhigpbmabeaaW.PrintWords Go.Proofs.YtoimhigpbmabeaaW.PrintLast Go.Proofs.YtoimhigpbmabeaaW.PrintMore Go.Proofs.Ytoimhigpbmabeaa Go.Proofs.Ytoimhigpbmabeaa.G

theorem free_all (l : List S40) (o : List Int) (x : Int) : (l.all fun e => decide (e.f0 ≠ x) || o.contains e.f1) = free (pe l) o x := by
  rw [Bool.eq_iff_iff, free, List.all_eq_true, List.all_eq_true]
  constructor
  · intro h t ht
    obtain ⟨e, he, h1⟩ := List.mem_map.1 (mem_succs.1 ht)
    injection h1 with h1 h2
    have := h e he
    rw [h1, h2] at this
    simpa using this
  · intro h e he
    by_cases h1 : e.f0 = x
    · have := h e.f1 (mem_succs.2 (List.mem_map.2 ⟨e, he, by rw [h1]⟩))
      simp only [this, Bool.or_true]
    · simp [h1]
theorem ro_l2 {l : List S40} (hl : l.length ≤ 1000) {A o : List Int} (ho : o.length ≤ 100000) {nx : Int} {fd : Bool} {x : Int} {n m : Int} : ∀ (d j : Nat) (b : Bool) (k : Nat), l.length - j = d → j ≤ l.length → o.length < k →
    byroadref10_Order.l2 (k + d + 1) l A o nx fd x b A n m l (l.length : Int) (j : Int) = if (b && (l.drop j).all fun e => decide (e.f0 ≠ x) || o.contains e.f1) = true then byroadref10_Order.l1 k l A o x true A n (wrap64 (m + 1)) else byroadref10_Order.l1 k l A o nx fd A n (wrap64 (m + 1)) := by
  intro d
  induction d with
  | zero =>
    intro j b k hd hj hk
    rw [byroadref10_Order.l2, if_neg (by omega), List.drop_eq_nil_of_le (by omega)]
    simp
  | succ d ih =>
    intro j b k hd hj hk
    have hlt : j < l.length := by omega
    rw [show k + (d + 1) + 1 = (k + d + 1) + 1 from by omega]
    rw [byroadref10_Order.l2, if_pos (by omega), if_pos (by omega), if_pos (by omega), rd40_at hlt, w64n (by omega), List.drop_eq_getElem_cons hlt, List.all_cons]
    cases b with
    | false =>
      rw [if_neg (by decide), ih (j + 1) false k (by omega) (by omega) hk]
      simp
    | true =>
      rw [if_pos rfl]
      by_cases h : l[j].f0 = x
      · rw [if_pos h, has_f (by omega) (by omega)]
        simp only [Option.bind_some]
        rw [ih (j + 1) _ k (by omega) (by omega) hk]
        have : decide (l[j].f1 ∈ o) = o.contains l[j].f1 := by rw [Bool.eq_iff_iff]; simp
        rw [this]
        simp [h]
      · rw [if_neg h, ih (j + 1) true k (by omega) (by omega) hk]
        simp [h]
/-- Who may stand next. -/
def nxt (l : List S40) (o : List Int) (x : Int) : Bool := !o.contains x && free (pe l) o x
theorem ro_l1 {l : List S40} (hl : l.length ≤ 1000) {A o : List Int} (hA : A.length ≤ 2000) (ho : o.length ≤ 2000) {B : Nat} (hB : 2000 < B) {R : Option (List Int × Bool)} : ∀ (d i : Nat) (nx : Int) (fd : Bool) (k : Nat), A.length - i = d → i ≤ A.length → B + d * (l.length + 3) < k →
    (fd = true → ∀ k', B ≤ k' → byroadref10_Order.l0 k' l A (o ++ [nx]) = R) →
    (fd = false → match (A.drop i).find? (nxt l o) with | some w => ∀ k', B ≤ k' → byroadref10_Order.l0 k' l A (o ++ [w]) = R | none => R = some ([], false)) →
    byroadref10_Order.l1 k l A o nx fd A (A.length : Int) (i : Int) = R := by
  intro d
  induction d with
  | zero =>
    intro i nx fd k hd hi hk h1 h2
    obtain ⟨k, rfl⟩ : ∃ m, k = m + 1 := ⟨k - 1, by omega⟩
    rw [byroadref10_Order.l1, if_neg (by omega)]
    cases fd with
    | true => rw [if_pos rfl, if_pos (by omega)]; exact h1 rfl k (by omega)
    | false =>
      have := h2 rfl
      rw [List.drop_eq_nil_of_le (by omega)] at this
      rw [if_neg (by decide)]; exact this.symm
  | succ d ih =>
    intro i nx fd k hd hi hk h1 h2
    have hlt : i < A.length := by omega
    rw [Nat.succ_mul] at hk
    obtain ⟨k, rfl⟩ : ∃ m, k = (m + l.length + 1) + 1 + 1 := ⟨k - l.length - 3, by omega⟩
    have hl2 : ∀ b, byroadref10_Order.j2 (k + l.length + 1 + 1) l A o nx fd A[i] b A (A.length : Int) (i : Int) = if (b && free (pe l) o A[i]) = true then byroadref10_Order.l1 k l A o A[i] true A (A.length : Int) ((i + 1 : Nat) : Int) else byroadref10_Order.l1 k l A o nx fd A (A.length : Int) ((i + 1 : Nat) : Int) := by
      intro b
      rw [byroadref10_Order.j2]
      have := ro_l2 hl (A := A) (o := o) (by omega) (nx := nx) (fd := fd) (x := A[i]) (n := (A.length : Int)) (m := (i : Int)) l.length 0 b k (by omega) (by omega) (by omega)
      rw [Int.natCast_zero] at this
      rw [this, List.drop_zero, free_all, w64n (by omega)]
    rw [byroadref10_Order.l1, if_pos (by omega), if_pos (by omega), if_pos (by omega), rd_at hlt]
    cases fd with
    | true =>
      rw [if_pos rfl, hl2 false, if_neg (by simp)]
      exact ih (i + 1) nx true k (by omega) (by omega) (by omega) h1 (fun h => by cases h)
    | false =>
      rw [if_neg (by decide), has_f (by omega) (by omega)]
      simp only [Option.bind_some]
      have e : (!decide (A[i] ∈ o)) = !o.contains A[i] := by congr 1; rw [Bool.eq_iff_iff]; simp
      rw [e, hl2]
      have h3 := h2 rfl
      rw [List.drop_eq_getElem_cons hlt, List.find?_cons] at h3
      by_cases h : nxt l o A[i] = true
      · rw [h] at h3
        unfold nxt at h
        rw [if_pos h]
        exact ih (i + 1) A[i] true k (by omega) (by omega) (by omega) (fun _ => h3) (fun h => by cases h)
      · rw [Bool.not_eq_true] at h
        rw [h] at h3
        unfold nxt at h
        rw [if_neg (by rw [h]; decide)]
        exact ih (i + 1) nx false k (by omega) (by omega) (by omega) (fun h => by cases h) (fun _ => h3)
/-- The first of a list is the first of its filter. -/
theorem find_filter (p q : Int → Bool) : ∀ (l : List Int), l.find? (fun x => p x && q x) = (l.filter p).find? q
  | [] => rfl
  | x :: l => by
    rw [List.find?_cons, List.filter_cons, find_filter p q l]
    cases hp : p x with
    | false => simp
    | true =>
      rw [if_pos rfl, List.find?_cons]
      cases q x <;> rfl
theorem erase_filter : ∀ (l : List Int) (hn : l.Nodup) (i : Nat) (hi : i < l.length), l.eraseIdx i = l.filter fun x => !decide (x = l[i])
  | [], _, _, hi => by simp at hi
  | a :: l, hn, 0, _ => by
    obtain ⟨ha, hl⟩ := List.nodup_cons.1 hn
    rw [List.eraseIdx_cons_zero, List.filter_cons]
    simp only [List.getElem_cons_zero, decide_true, Bool.not_true]
    rw [if_neg (by decide)]
    exact (List.filter_eq_self.2 (fun x hx => by simp; rintro rfl; exact ha hx)).symm
  | a :: l, hn, i + 1, hi => by
    obtain ⟨ha, hl⟩ := List.nodup_cons.1 hn
    have hi' : i < l.length := by simpa using hi
    rw [List.eraseIdx_cons_succ, List.filter_cons]
    simp only [List.getElem_cons_succ]
    rw [if_pos (by have e : a ≠ l[i] := fun e => ha (by rw [e]; exact List.getElem_mem hi')
                   simpa using e), erase_filter l hl i hi']
theorem ro_l0 {l : List S40} (hl : l.length ≤ 24) {A : List Int} (hA : A.length ≤ 48) (hn : A.Nodup) : ∀ (n k : Nat) (left o : List Int), left = A.filter (fun x => !o.contains x) → left.length < n → o.length + left.length = A.length → 2100 + n * (A.length * (l.length + 3) + 3) ≤ k →
    byroadref10_Order.l0 k l A o = some (ordLoop (pe l) n left o)
  | 0, _, _, _, _, h, _, _ => by omega
  | n + 1, k, left, o, hle, hln, hs, hk => by
    rw [Nat.succ_mul] at hk
    obtain ⟨k, rfl⟩ : ∃ m, k = m + 1 := ⟨k - 1, by omega⟩
    rw [byroadref10_Order.l0]
    unfold ordLoop
    by_cases h0 : left = []
    · rw [if_pos h0, if_neg (by subst h0; simp at hs; omega)]
    · have hpos : 0 < left.length := List.length_pos_iff.2 h0
      rw [if_neg h0, if_pos (by omega)]
      have hnl : left.Nodup := by rw [hle]; exact hn.filter _
      have hfind : A.find? (nxt l o) = left.find? (free (pe l) o) := by
        rw [hle, ← find_filter]; rfl
      have := ro_l1 (l := l) (by omega) (A := A) (o := o) (by omega) (by omega) (B := 2100 + n * (A.length * (l.length + 3) + 3)) (by omega)
        (R := some (match left.findIdx? (free (pe l) o) with | none => ([], false) | some i => ordLoop (pe l) n (left.eraseIdx i) (o ++ [left.getD i 0]))) A.length 0 0 false k (by omega) (by omega) (by omega) (fun h => by cases h) (fun _ => ?_)
      · rw [Int.natCast_zero] at this
        exact this
      · rw [List.drop_zero, hfind]
        cases hf : left.findIdx? (free (pe l) o) with
        | none =>
          have : left.find? (free (pe l) o) = none := by
            rw [List.find?_eq_none]
            intro x hx
            have := List.findIdx?_eq_none_iff.1 hf x hx
            simpa using this
          rw [this]
        | some i =>
          obtain ⟨hil, hfr, hbe⟩ := List.findIdx?_eq_some_iff_getElem.1 hf
          have hgd : left.getD i 0 = left[i] := by rw [List.getD_eq_getElem?_getD, List.getElem?_eq_getElem hil]; rfl
          have : left.find? (free (pe l) o) = some left[i] := by
            rw [List.find?_eq_some_iff_getElem]
            exact ⟨hfr, i, hil, rfl, fun j hj => by simpa using hbe j hj⟩
          rw [this]
          intro k' hk'
          simp only [hgd]
          refine ro_l0 hl hA hn n k' _ _ ?_ (by rw [List.length_eraseIdx_of_lt hil]; omega) (by rw [List.length_eraseIdx_of_lt hil]; simp; omega) hk'
          have e9 := erase_filter left hnl i hil
          generalize left[i] = y at e9 ⊢
          rw [e9, hle, List.filter_filter]
          congr 1
          funext x
          rw [Bool.eq_iff_iff]
          simp [and_comm]
theorem rord_f {l : List S40} (hl : l.length ≤ 24) {k : Nat} (hk : 80000 < k) : byroadref10_Order.f k l = some (ordL (pe l)) := by
  have h1 : (allL (pe l)).length ≤ 48 := by have := insAll_len (nodes (pe l)); have := nodes_len (pe l); have := pe_len l; unfold allL; omega
  unfold byroadref10_Order.f
  rw [all_f (by omega) (by omega)]
  simp only [Option.bind_some]
  unfold ordL
  refine ro_l0 hl h1 (allL_nodup _) _ k _ _ ?_ (by omega) (by simp) ?_
  · symm; rw [List.filter_eq_self]; simp
  · have h2 : (allL (pe l)).length * (l.length + 3) ≤ 48 * 27 := Nat.mul_le_mul h1 (by omega)
    have h3 : ((allL (pe l)).length + 1) * ((allL (pe l)).length * (l.length + 3) + 3) ≤ 49 * (48 * 27 + 3) := Nat.mul_le_mul (by omega) (by omega)
    omega
theorem tells_j0 {l : List S40} (hw : wf40 l) (hl : l.length ≤ 24) {a : Int} (ha : wfI a) {k : Nat} (hk : 80002 < k) :
    byroadlaw10_WaitTells.j0 k l a (l.map to44) (circL (pe l)) (ordL (pe l)).1 (ordL (pe l)).2 (ordL (pe l)).1 (ordL (pe l)).2 false = some true := by
  have hrl := reachL_len (pe l) a
  rw [pe_len] at hrl
  have hol := ord_len (l := l) (by omega)
  obtain ⟨k, rfl⟩ : ∃ m, k = m + 1 := ⟨k - 1, by omega⟩
  rw [byroadlaw10_WaitTells.j0, if_neg (by decide), reach_f hw (by omega) ha]
  simp only [Option.bind_some]
  rw [rreach_f hl _ (by omega)]
  simp only [Option.bind_some]
  rw [ints_f (by omega) (by omega)]
  simp only [Option.bind_some]
  rw [if_pos (by simp), if_pos (by simp), ints_f (by omega) (by omega)]
  simp only [Option.bind_some]
  have e : ((ordL (pe l)).2 == (((circL (pe l)).length : Int) == 0)) = true := by
    rw [ord_circ]
    cases circL (pe l) with
    | nil => rfl
    | cons x t => rw [beq_iff_eq, Bool.eq_iff_iff]; simp; omega
  rw [if_pos (by simp), if_pos e, awake_f]; rfl
theorem WaitTells_pure (l : List S40) (a : Int) (hw : wf40 l) (ha : wfI a) {k : Nat} (hk : 80003 < k) : byroadlaw10_WaitTells.f k l a = some true := by
  have hw' : wf40 (l.take 24) := fun e he => hw e (List.mem_of_mem_take he)
  have hl' : (l.take 24).length ≤ 24 := by simp; omega
  have hcl := circ_len (l := l.take 24) (by omega)
  unfold byroadlaw10_WaitTells.f
  rw [cut_f]
  simp only [Option.bind_some]
  rw [ours_f (by omega) (by omega)]
  simp only [Option.bind_some]
  rw [rcirc_f hl' (by omega)]
  simp only [Option.bind_some]
  rw [vic_f hw' (by omega)]
  simp only [Option.bind_some]
  rw [ord_f hw' (by omega)]
  simp only [Option.bind_some]
  rw [rord_f hl' (by omega)]
  simp only [Option.bind_some]
  rw [circ_f hw' (by omega)]
  simp only [Option.bind_some]
  rw [ints_f (by omega) (by omega)]
  simp only [Option.bind_some]
  rw [if_pos (by simp)]
  have hj := tells_j0 hw' hl' ha (k := k) (by omega)
  unfold vicL
  cases hc : (circL (pe (l.take 24))).getLast? with
  | none =>
    rw [List.getLast?_eq_none_iff] at hc
    rw [hc] at hj ⊢
    simp only
    rw [if_neg (by decide), if_neg (by decide)]
    exact hj
  | some v =>
    obtain ⟨hne, hv⟩ : ∃ h, (circL (pe (l.take 24))).getLast h = v := by
      rw [List.getLast?_eq_some_iff] at hc
      obtain ⟨ys, hys⟩ := hc
      exact ⟨by rw [hys]; simp, by simp [hys]⟩
    have hp : 0 < (circL (pe (l.take 24))).length := List.length_pos_iff.2 hne
    have e1 : wrap64 (((circL (pe (l.take 24))).length : Int) - 1) = ((((circL (pe (l.take 24))).length - 1 : Nat)) : Int) := by
      rw [w64 (by omega) (by omega)]; omega
    have e2 : decide (((circL (pe (l.take 24))).length : Int) > 0) = true := decide_eq_true (by omega)
    simp only
    rw [e2, if_neg (by decide), if_pos trivial, e1, if_pos (by omega), if_pos (by omega), rd_at (by omega), if_pos (by rw [← hv, List.getLast_eq_getElem])]
    exact hj
end Go.Proofs.Ytoimhigpbmabeaa.Pl
