/- WaitSame, plain. -/
import Derived.Test.YtoimhigpbmabeaaPa
import Derived.Test.YtoimhigpbmabeaaG5
set_option linter.unusedVariables false
namespace Go.Proofs.Ytoimhigpbmabeaa.Pl
open Go.RowKit Go.Proofs.Wm Go.Proofs.YtoimhigpbmabeaaW.PrintWords Go.Proofs.YtoimhigpbmabeaaW.PrintLast Go.Proofs.YtoimhigpbmabeaaW.PrintMore Go.Proofs.Ytoimhigpbmabeaa Go.Proofs.Ytoimhigpbmabeaa.G

abbrev wf40 (l : List S40) : Prop := ∀ e ∈ l, wfI e.f0 ∧ wfI e.f1
theorem wfB_of {l : List S40} (h : wf40 l) (hl : l.length ≤ 1000) : Gv.wfB (l.map to44) = true := by
  simp only [Gv.wfB, Bool.and_eq_true, decide_eq_true_eq, List.all_eq_true, List.length_map]
  refine ⟨hl, fun e he => ?_⟩
  obtain ⟨x, hx, rfl⟩ := List.mem_map.1 he
  exact h x hx
theorem circ_f {l : List S40} (h : wf40 l) (hl : l.length ≤ 1000) : wait_Circles.f (l.map to44) = some (circL (pe l)) := by
  unfold wait_Circles.f Gv.wait_Circles
  rw [if_pos (wfB_of h hl), pr_to44]
theorem vic_f {l : List S40} (h : wf40 l) (hl : l.length ≤ 1000) : wait_Victim.f (l.map to44) = some (vicL (pe l)) := by
  unfold wait_Victim.f Gv.wait_Victim
  rw [if_pos (wfB_of h hl), pr_to44]
theorem ord_f {l : List S40} (h : wf40 l) (hl : l.length ≤ 1000) : wait_Order.f (l.map to44) = some (ordL (pe l)) := by
  unfold wait_Order.f Gv.wait_Order
  rw [if_pos (wfB_of h hl), pr_to44]
theorem reach_f {l : List S40} (h : wf40 l) (hl : l.length ≤ 1000) {a : Int} (ha : wfI a) : wait_Reach.f a (l.map to44) = some (reachL (pe l) a) := by
  unfold wait_Reach.f Gv.wait_Reach
  rw [if_pos (by rw [wfB_of h hl]; exact ha), pr_to44]
theorem pe_len (l : List S40) : (pe l).length = l.length := by simp [pe]
theorem circ_len {l : List S40} (hl : l.length ≤ 1000) : (circL (pe l)).length ≤ 2000 := by
  refine Nat.le_trans (List.length_filter_le _ _) ?_
  have := insAll_len (nodes (pe l)); have := nodes_len (pe l); have := pe_len l; unfold allL; omega
theorem ordLoop_len (es : Es) : ∀ (k : Nat) (left done : List Int), (ordLoop es k left done).1.length ≤ left.length + done.length
  | 0, _, _ => by simp [ordLoop]
  | k + 1, left, done => by
    unfold ordLoop
    split
    · simp
    · split
      · simp
      · rename_i i hi
        have := ordLoop_len es k (left.eraseIdx i) (done ++ [left.getD i 0])
        obtain ⟨hil, _⟩ := List.findIdx?_eq_some_iff_getElem.1 hi
        rw [List.length_eraseIdx_of_lt hil] at this
        have h0 : left.length - 1 + 1 = left.length := by omega
        rw [List.length_append, List.length_singleton] at this
        omega
theorem ord_len {l : List S40} (hl : l.length ≤ 1000) : (ordL (pe l)).1.length ≤ 2000 := by
  have := ordLoop_len (pe l) ((allL (pe l)).length + 1) (allL (pe l)) []
  have := insAll_len (nodes (pe l)); have := nodes_len (pe l); have := pe_len l; unfold ordL; unfold allL at *; simp at *; omega

theorem same_j3 {l m : List S40} (hw : wf40 l) (hl : l.length ≤ 24) (hm : m.length ≤ 100) (hs : ∀ e, e ∈ m ↔ e ∈ l) {a : Int} (ha : wfI a) {k : Nat} (hk : 3000 < k) : byroadlaw10_WaitSame.j3 k l a m = some true := by
  obtain ⟨k, rfl⟩ : ∃ n, k = n + 1 := ⟨k - 1, by omega⟩
  have hwm : wf40 m := fun e he => hw e ((hs e).1 he)
  have he : ∀ e, e ∈ pe l ↔ e ∈ pe m := fun e => by
    simp only [pe, List.mem_map]
    exact ⟨fun ⟨x, hx, h⟩ => ⟨x, (hs x).2 hx, h⟩, fun ⟨x, hx, h⟩ => ⟨x, (hs x).1 hx, h⟩⟩
  have h1 := circ_len (l := l) (by omega)
  have h2 := ord_len (l := l) (by omega)
  have h3 := reachL_len (pe l) a
  rw [pe_len] at h3
  simp only [byroadlaw10_WaitSame.j3]
  rw [ours_f (by omega) (by omega), ours_f (by omega) (by omega)]
  simp only [Option.bind_some]
  rw [ord_f hw (by omega), ord_f hwm (by omega), circ_f hw (by omega), circ_f hwm (by omega), reach_f hw (by omega) ha, reach_f hwm (by omega) ha, same_ord he, same_circ he, same_reach he a]
  simp only [Option.bind_some]
  rw [same_circ he] at h1
  rw [same_ord he] at h2
  rw [same_reach he a] at h3
  rw [ints_f (by omega) (by omega), ints_f (by omega) (by omega), ints_f (by omega) (by omega), awake_f]
  simp
theorem same_l1 {l : List S40} (hw : wf40 l) (hl : l.length ≤ 24) {a : Int} (ha : wfI a) (z : List Int) (hz : z.length ≤ 100000000000000) : ∀ (d i : Nat) (m : List S40) (k : Nat), z.length - i = d → i ≤ z.length → i ≤ 10 → m.length ≤ 24 + i → (∀ e, e ∈ m ↔ e ∈ l) → 3100 - 2 * i < k →
    byroadlaw10_WaitSame.l1 k l a m z (z.length : Int) (i : Int) = some true := by
  intro d
  induction d with
  | zero =>
    intro i m k hd hi h10 hm hs hk
    obtain ⟨k, rfl⟩ : ∃ n, k = n + 1 := ⟨k - 1, by omega⟩
    simp only [byroadlaw10_WaitSame.l1]
    rw [if_neg (by omega)]
    exact same_j3 hw hl (by omega) hs ha (by omega)
  | succ d ih =>
    intro i m k hd hi h10 hm hs hk
    obtain ⟨k, rfl⟩ : ∃ n, k = n + 1 + 1 := ⟨k - 2, by omega⟩
    have hlt : i < z.length := by omega
    simp only [byroadlaw10_WaitSame.l1]
    rw [if_pos (by omega), if_pos (by omega), if_pos (by omega), rd_at hlt]
    by_cases hge : i = 10
    · rw [if_pos (by omega)]
      simp only [byroadlaw10_WaitSame.j2, if_true]
      exact same_j3 hw hl (by omega) hs ha (by omega)
    · rw [if_neg (by omega)]
      simp only [byroadlaw10_WaitSame.j2]
      by_cases h0 : l.length = 0
      · rw [if_pos (by simp [h0])]
        exact same_j3 hw hl (by omega) hs ha (by omega)
      · have hb : ((l.length : Int) == 0) = false := beq_eq_false_iff_ne.2 (by omega)
        rw [if_neg (by rw [hb]; simp), if_neg (by omega)]
        have z1 : -(l.length : Int) < z[i].tmod l.length := by have := Int.tmod_lt_of_pos (-z[i]) (show (0 : Int) < l.length from by omega); rw [Int.neg_tmod] at this; omega
        have z2 : z[i].tmod l.length < l.length := Int.tmod_lt_of_pos z[i] (show (0 : Int) < l.length from by omega)
        generalize z[i].tmod l.length = q at z1 z2
        have hstep : ∀ (x : S40), x ∈ l → byroadlaw10_WaitSame.l1 k l a (m ++ [x]) z (z.length : Int) (wrap64 ((i : Int) + 1)) = some true := fun x hx => by
          rw [w64n (by omega)]
          exact ih (i + 1) (m ++ [x]) k (by omega) (by omega) (by omega) (by simp; omega) (fun e => by
            rw [List.mem_append, hs e, List.mem_singleton]
            exact ⟨fun h => h.elim id (fun h => h ▸ hx), .inl⟩) (by omega)
        have hin : ∀ p : Nat, p < l.length → (⟨(rd_T40 l p).f0, (rd_T40 l p).f1⟩ : S40) ∈ l := fun p hp => by rw [rd40_at hp]; exact List.getElem_mem hp
        by_cases hneg : q < 0
        · have e1 : wrap64 (-q) = ((-q).toNat : Int) := by rw [w64 (by omega) (by omega)]; omega
          rw [if_pos hneg, e1, if_pos (by omega), if_pos (by omega), if_pos (by omega)]
          exact hstep _ (hin _ (by omega))
        · have e1 : q = (q.toNat : Int) := by omega
          rw [if_neg hneg, e1, if_pos (by omega), if_pos (by omega), if_pos (by omega)]
          exact hstep _ (hin _ (by omega))
theorem same_l0 {l : List S40} (hw : wf40 l) (hl : l.length ≤ 24) {a : Int} (ha : wfI a) (z : List Int) (hz : z.length ≤ 100000000000000) : ∀ (d i : Nat) (m : List S40) (k : Nat), l.length - i = d → i ≤ l.length → m.length = i → (∀ e, e ∈ m ↔ e ∈ l.drop (l.length - i)) → 3200 - i < k →
    byroadlaw10_WaitSame.l0 k l z a m (l.length : Int) (i : Int) = some true := by
  intro d
  induction d with
  | zero =>
    intro i m k hd hi hm hs hk
    obtain ⟨k, rfl⟩ : ∃ n, k = n + 1 := ⟨k - 1, by omega⟩
    simp only [byroadlaw10_WaitSame.l0]
    rw [if_neg (by omega)]
    have hs' : ∀ e, e ∈ m ↔ e ∈ l := fun e => by rw [hs e, show l.length - i = 0 from by omega, List.drop_zero]
    exact same_l1 hw hl ha z hz z.length 0 m k rfl (by omega) (by omega) (by omega) hs' (by omega)
  | succ d ih =>
    intro i m k hd hi hm hs hk
    obtain ⟨k, rfl⟩ : ∃ n, k = n + 1 := ⟨k - 1, by omega⟩
    simp only [byroadlaw10_WaitSame.l0]
    have e1 : wrap64 (wrap64 ((l.length : Int) - 1) - i) = ((l.length - 1 - i : Nat) : Int) := by rw [w64 (i := (l.length : Int) - 1) (by omega) (by omega), w64 (by omega) (by omega)]; omega
    have hlt : l.length - 1 - i < l.length := by omega
    rw [if_pos (by omega), e1, if_pos (by omega), if_pos (by omega), if_pos (by omega), rd40_at hlt, w64n (by omega)]
    refine ih (i + 1) _ k (by omega) (by omega) (by simp; omega) (fun e => ?_) (by omega)
    rw [List.mem_append, hs e, List.mem_singleton, show l.length - (i + 1) = l.length - 1 - i from by omega, List.drop_eq_getElem_cons hlt, show l.length - 1 - i + 1 = l.length - i from by omega, List.mem_cons]
    exact or_comm
theorem WaitSame_pure (l : List S40) (z : List Int) (a : Int) (hw : wf40 l) (hz : z.length ≤ 100000000000000) (ha : wfI a) {k : Nat} (hk : 3500 < k) : byroadlaw10_WaitSame.f k l z a = some true := by
  unfold byroadlaw10_WaitSame.f
  rw [cut_f]
  simp only [Option.bind_some]
  exact same_l0 (fun e he => hw e (List.mem_of_mem_take he)) (by simp; omega) ha z hz (l.take 24).length 0 [] k rfl (by omega) rfl (fun e => by rw [Nat.sub_zero, List.drop_length]) (by omega)
end Go.Proofs.Ytoimhigpbmabeaa.Pl
