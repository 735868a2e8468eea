/- slices.Delete of one row. -/
import Derived.Test.YtlekfpeonehggaaPFn
set_option linter.unusedVariables false
set_option maxRecDepth 100000
namespace Go.Proofs.Ytlekfpeonehggaa
open Go.Proofs.BL Go.RowKit
/-- slices.Delete of one row out of a row of one's own: in place. -/
def DelFPostW (base : Nat) (v : Value) (rows : List (List Value)) (w : World) (e : Ending) (w' : World) : Prop :=
  ∃ v', e = .returned v' ∧ OwnW w' base 57 1 v' rows ∧ Fr (fun k => v.ownBlock = some k) w w' ∧ v'.ownBlock = v.ownBlock
set_option maxHeartbeats 4000000 in
theorem delF_ownW (base : Nat) (v : Value) (rows : List (List Value)) (i : Nat) (w : World) (hO : OwnW w base 57 1 v rows) (hi : i < rows.length) (h1 : ∀ r ∈ rows, ∀ u ∈ r, u.oneCell' = true) :
    Calls Try.prog 37 #[v, .int .i64 i, .int .i64 ((i : Int) + 1)] w (DelFPostW base v (rows.eraseIdx i) w) := by
  rcases hO.1.2 with ⟨_, hn⟩ | ⟨g, c, cur, rfl, hbg, hB, hcap, hmx, hcs, hct⟩
  · omega
  rw [Nat.mul_one] at hcs hct
  have hfl : ∀ l : List (List Value), (∀ r ∈ l, r.length = 1) → l.flatten.length = l.length := by
    intro l hl
    induction l with
    | nil => simp
    | cons x l ih => rw [List.flatten_cons, List.length_append, hl x (by simp), ih (fun r hr => hl r (by simp [hr])), List.length_cons]; omega
  obtain ⟨n, hn⟩ : ∃ n, n = rows.length := ⟨_, rfl⟩
  have ht : (rows.take i).flatten.length = i := by rw [hfl _ (fun r hr => hO.2 r (List.mem_of_mem_take hr)), List.length_take, Nat.min_eq_left (by omega)]
  have hd : (rows.drop (i + 1)).flatten.length = (n - (i + 1)) := by rw [hfl _ (fun r hr => hO.2 r (List.mem_of_mem_drop hr)), List.length_drop, hn]
  have htk : cur.toList.take (i) = (rows.take i).flatten := by
    have h2 : rows.flatten = (rows.take i).flatten ++ (rows.drop i).flatten := by rw [← List.flatten_append, List.take_append_drop]
    have h4 := congrArg (List.take (i)) hct
    rw [List.take_take, Nat.min_eq_left (by omega), h2, List.take_left' ht] at h4
    exact h4
  have hdr : (rows.drop (i + 1)).flatten = (cur.toList.take (n)).drop ((i + 1)) := by
    have h2 : rows.flatten = (rows.take (i + 1)).flatten ++ (rows.drop (i + 1)).flatten := by rw [← List.flatten_append, List.take_append_drop]
    have h3 : (rows.take (i + 1)).flatten.length = (i + 1) := by rw [hfl _ (fun r hr => hO.2 r (List.mem_of_mem_take hr)), List.length_take, Nat.min_eq_left (by omega)]
    rw [hn, hct, h2, List.drop_left' h3]
  have hcell : ∀ j, j < c → w.cell? ⟨g, j, none⟩ = some (cur[j]!) := fun j hj => by rw [Blk.cell hB, Array.getElem?_eq_getElem (by omega), getElem!_pos cur j (by omega)]
  have hnc := Nat.mul_le_mul_right 1 hcap
  obtain ⟨i0, hi0, hzz⟩ := Option.map_eq_some_iff.1 (show (Try.prog.info? 57).map (fun i => (i.zero, i.size, i.bytes)) = some (some (.agg #[.slice none 0 0] : Value), 1, 24) from by kernel_rfl)
  simp only [Prod.mk.injEq] at hzz
  obtain ⟨hz0, hzs, hzb⟩ := hzz
  obtain ⟨AD, hAD, hsrc⟩ : ∃ AD : Addr, (if c = i + 1 then some (⟨g, 0, none⟩ : Addr) else some ⟨g, (i + 1), none⟩) = some AD ∧ Hid (∀ j u, (rows.drop (i + 1)).flatten[j]? = some u → w.drew.cell? (AD.add j) = some u) := by
    by_cases h : c = i + 1
    · refine ⟨⟨g, 0, none⟩, by simp [h], fun j u hu => ?_⟩
      have h0 : (rows.drop (i + 1)).flatten.length = 0 := by rw [hd]; omega
      rw [List.length_eq_zero_iff.1 h0] at hu
      simp at hu
    · refine ⟨⟨g, (i + 1), none⟩, by simp [h], fun j u hu => ?_⟩
      rw [Addr.add_lit]
      rw [hdr, List.getElem?_drop, List.getElem?_take] at hu
      split at hu
      · rw [Array.getElem?_toList] at hu
        exact (Blk.cell hB _).trans hu
      · cases hu
  have s1 : Hid ((rows.drop (i + 1)).flatten.length = (n - (i + 1)) * 1) := by rw [Nat.mul_one]; exact hd
  have s2 : Hid (∀ u ∈ (rows.drop (i + 1)).flatten, u.oneCell' = true) := fun v hv => by obtain ⟨r, hr, hu⟩ := List.mem_flatten.1 hv; exact h1 r (List.mem_of_mem_drop hr) v hu
  have s3 : Hid (∀ j, j < (rows.drop (i + 1)).flatten.length → (w.drew.cell? ⟨g, 0 + i * 1 + j, none⟩).isSome = true ∧ w.drew.frozen? ⟨g, 0 + i * 1 + j, none⟩ = false) := by
    intro j hj
    rw [hd] at hj
    refine ⟨?_, Blk.free hB _⟩
    show (w.cell? _).isSome = true
    rw [hcell _ (by omega)]
    rfl
  have s4 : Hid (i0.size = 1) := hzs
  obtain ⟨W1, hW1⟩ : ∃ W1, W1 = w.drew.setCells g (0 + i * 1) (rows.drop (i + 1)).flatten := ⟨_, rfl⟩
  have hB1 : Blk W1 g (layA cur (i) (rows.drop (i + 1)).flatten) 57 := by rw [hW1, Nat.zero_add, Nat.mul_one]; exact setCells_blk _ _ _ w.drew hB
  obtain ⟨W2, hW2⟩ : ∃ W2, W2 = (W1.setCells g ((i + (n - (i + 1)))) (List.replicate (n - (i + (n - (i + 1)))) ((.agg #[.slice none 0 0] : Value)).cells.toList).flatten) := ⟨_, rfl⟩
  have hcl : ∀ ty, (Builtin.clear_ #[53] ty #[.slice (some ⟨g, (i + (n - (i + 1))), none⟩) (n - (i + (n - (i + 1)))) (c - (i + (n - (i + 1))))]).run Try.prog W1 = .ok (.tuple #[]) W2 := fun ty =>
    by
    rw [hW2]
    exact run_clear_k W1 53 57 ty (.agg #[.slice none 0 0] : Value) Try.underlying53 (fun w => Try.zeroValue57 w) (by decide) (by decide) g _ _ _ (by omega)
      (fun j hj => by
        have hj' : j < (n - (i + (n - (i + 1)))) := by rw [show ((.agg #[.slice none 0 0] : Value)).cells.size = 1 from rfl, Nat.mul_one] at hj; exact hj
        rw [hB1.cell, Array.getElem?_eq_getElem (by rw [layA_size]; omega)]; rfl) (fun j hj => hB1.free _)
  have HCL := Lib.hid hcl
  have HW := Lib.hid hW1
  have HB1 := Lib.hid hB1
  have HFIN : Hid (DelFPostW base (.slice (some ⟨g, 0, none⟩) n c) (rows.eraseIdx i) w (.returned (.slice (some ⟨g, 0, none⟩) (i + (n - (i + 1))) c)) W2) := by
    rw [hW2]
    have hB2 := setCells_blk (List.replicate (n - (i + (n - (i + 1)))) ((.agg #[.slice none 0 0] : Value)).cells.toList).flatten _ ((i + (n - (i + 1)))) W1 hB1
    have hel : (rows.eraseIdx i).length = i + (n - (i + 1)) := by rw [List.length_eraseIdx, if_pos hi]; omega
    have hsz : ∀ r, r ∈ rows.eraseIdx i → r.length = 1 := fun r hr => hO.2 r (List.mem_of_mem_eraseIdx hr)
    refine ⟨_, rfl, ⟨⟨by rw [hfl _ hsz, Nat.mul_one], .inr ⟨g, c, _, by rw [hel], hbg, hB2, by rw [hel]; omega, hmx, by rw [layA_size, layA_size, Nat.mul_one]; exact hcs, ?_⟩⟩, hsz⟩, ?_, rfl⟩
    · rw [Nat.mul_one]
      have hzl : (List.replicate (n - (i + (n - (i + 1)))) ((.agg #[.slice none 0 0] : Value)).cells.toList).flatten.length = (n - (i + (n - (i + 1)))) := by simp [Value.cells]
      rw [hel, layA_list _ _ _ (by rw [layA_size, hzl]; omega), layA_list _ _ _ (by rw [hd]; omega), htk, hd]
      have he : rows.eraseIdx i = rows.take i ++ rows.drop (i + 1) := List.eraseIdx_eq_take_drop_succ _ _
      rw [he, List.flatten_append]
      have hlen : ((rows.take i).flatten ++ (rows.drop (i + 1)).flatten).length = (i + (n - (i + 1))) := by rw [List.length_append, ht, hd]
      rw [List.take_left' hlen, List.append_assoc]; exact List.take_left' hlen
    · rw [hW1]
      exact (((Fr.refl _ w).drew).trans (setCells_fr (S := fun k => (Value.slice (some ⟨g, 0, none⟩) n c).ownBlock = some k) rfl _ _ _) (fun _ _ h => h)).trans (setCells_fr (S := fun k => (Value.slice (some ⟨g, 0, none⟩) n c).ownBlock = some k) rfl _ _ _) (fun _ _ h => h)
  rw [← hn] at hi hcap ⊢
  have mixed : Try.prog.follows Departure.mixedOrders = true := by kernel_rfl
  have hne : ((i : Int) == (i : Int) + 1) = false := by simp; omega
  have htn : ((i : Int) + 1).toNat = i + 1 := by omega
  have hb1 : (0 : Int) ≤ (i : Int) + 1 := by omega
  have hb2 : (i : Int) + 1 ≤ (n : Int) := by omega
  have hb3 : (i : Int) ≤ (i : Int) + 1 := by omega
  have hic : i ≤ c := by omega
  have hjc : i + 1 ≤ c := by omega
  clear hW2 hW1 hB1 hcl hcell hdr htk hd ht hfl hct hcs hB hO h1 hzs hzb hz0 hn
  refine via fun Q hQ => ?_
  go_enter Try.func37, Try.ntmps37
  go_wp2_with fail
  go_region_law_o (refine step_append_room rfl (.tmp 22) (.tmp 25) 53 rfl 57 i0 1 Try.underlying53 hi0 s4.out g 0 i c (by simp [Act.eval, Act.put]) AD (n - (i + 1)) (c - (i + 1)) (rows.drop (i + 1)).flatten (by simp [Act.eval, Act.put]; try exact hAD) s1.out hsrc.out s2.out (by omega) s3.out ?_; rw [← HW.out])
  go_wp2_with fail
  rw [HCL.out _, Result.andThen_ok]
  go_wp2
  exact HFIN.out

end Go.Proofs.Ytlekfpeonehggaa
