/- slices.Insert of one row, whole. slices.Delete of one row. -/
import Derived.Test.YtlekfpeonehggaaGreatDoorJ12
import Derived.Deep.DeepCutAuto
section
set_option linter.unusedVariables false
set_option maxRecDepth 100000
namespace Go.Proofs.YtlekfpeonehggaaGreatDoor
open Go.Proofs.BL Go.RowKit
/-- slices.Insert of one row into a row of one's own. -/
def InsRPostW (base : Nat) (v : Value) (rows : List (List Value)) (w : World) (e : Ending) (w' : World) : Prop :=
  ∃ v', e = .returned v' ∧ OwnW w' base 29 2 v' rows ∧ Fr (fun k => v.ownBlock = some k) w w' ∧ ∀ k, v'.ownBlock = some k → v.ownBlock = some k ∨ w.heap.size ≤ k
set_option maxHeartbeats 4000000 in
theorem insR_ownW (base : Nat) (v : Value) (rows : List (List Value)) (i m : Nat) (y : List Value) (w : World) (hO : OwnW w base 29 2 v rows) (hbase : base ≤ w.heap.size) (hi : i ≤ rows.length) (h1 : ∀ r ∈ rows, ∀ u ∈ r, u.oneCell' = true)
    (hM : Blk w m y.toArray 29) (hy : y.length = 2) (hy1 : ∀ u ∈ y, u.oneCell' = true) (hne : v.ownBlock ≠ some m) (hbig : (rows.length + 1) * 24 ≤ 140737488355328) :
    Calls Tryz.prog 59 #[v, .int .i64 i, .slice (some ⟨m, 0, none⟩) 1 1] w (InsRPostW base v (rows.take i ++ y :: rows.drop i) w) := by
  by_cases hin : i = rows.length
  · subst hin
    have hz : rows.take rows.length ++ y :: rows.drop rows.length = rows ++ [y] := by simp
    rw [hz]
    have hMr : RowsAt w 2 (some ⟨m, 0, none⟩) [y] := fun j r hj => by
      cases j with
      | succ j => simp at hj
      | zero =>
        simp at hj
        subst hj
        exact ⟨m, 0, rfl, fun q u hq => by
          rw [show 0 + 0 * 2 + q = q from by omega]
          exact (hM.cell q).trans (by simpa using hq)⟩
    refine via fun Q hQ => ?_
    have HO := Lib.hid hO
    have HM := Lib.hid hM
    have HBig := Lib.hid hbig
    have HY := Lib.hid hy
    have HY1 := Lib.hid hy1
    have HInfo := Lib.hid (show (Tryz.prog.info? 29).map (fun i => (i.zero, i.size, i.bytes)) = some (some (.agg #[.string ByteArray.empty, .int .i64 0] : Value), 2, 24) from by kernel_rfl)
    have HZc := Lib.hid (show ((.agg #[.string ByteArray.empty, .int .i64 0] : Value)).cells.size = 2 from by kernel_rfl)
    obtain ⟨A, c, hv, hc, _, _⟩ := hO.slv'
    have hlen : rows.length ≤ 140737488355328 := by omega
    clear hM hMr h1 hz hy1 hy hi hne hbig hO
    generalize hnr : rows.length = n at *
    have HNR := Lib.hid hnr
    clear hnr
    subst hv
    have hmx : n ≤ 9223372036854775807 := by omega
    by_cases hcn : c = n
    · subst hcn
      go_enter Tryz.func59, Tryz.ntmps59
      go_wp2_with (at_builtin; go_loud (refine appendW1 (W := w) base 29 2 24 (.agg #[.string ByteArray.empty, .int .i64 0] : Value) rfl (.tmp 23) (.tmp 24) 27 rfl Tryz.underlying27 HInfo.out HZc.out (by decide) (by decide) (.slice A c c) rows y rfl m 1 rfl HM.out HY.out HY1.out HO.out hbase (by rw [HNR.out]; exact HBig.out) ?_); intro v1 w1 ho1 hf1 hl1)
      have H1 := Lib.hid ho1
      have H2 := Lib.hid hf1
      have H3 := Lib.hid hl1
      clear ho1 hf1 hl1
      exact ⟨v1, rfl, H1.out, H2.out, H3.out⟩
    · go_enter Tryz.func59, Tryz.ntmps59
      go_wp2_with (at_builtin; go_loud (refine appendW1 (W := w) base 29 2 24 (.agg #[.string ByteArray.empty, .int .i64 0] : Value) rfl (.tmp 23) (.tmp 24) 27 rfl Tryz.underlying27 HInfo.out HZc.out (by decide) (by decide) (.slice A n c) rows y rfl m 1 rfl HM.out HY.out HY1.out HO.out hbase (by rw [HNR.out]; exact HBig.out) ?_); intro v1 w1 ho1 hf1 hl1)
      have H1 := Lib.hid ho1
      have H2 := Lib.hid hf1
      have H3 := Lib.hid hl1
      clear ho1 hf1 hl1
      exact ⟨v1, rfl, H1.out, H2.out, H3.out⟩
  · have hlt : i < rows.length := by omega
    rcases hO.1.2 with ⟨_, hn⟩ | ⟨g, cap, cur, rfl, hbg, hB, hcap, hmx, hcs, hct⟩
    · omega
    · have hmg : m ≠ g := fun e => hne (by subst e; rfl)
      have hfl : ∀ l : List (List Value), (∀ r ∈ l, r.length = 2) → l.flatten.length = l.length * 2 := by
        intro l hl
        induction l with
        | nil => simp
        | cons x l ih => rw [List.flatten_cons, List.length_append, hl x (by simp), ih (fun r hr => hl r (by simp [hr])), List.length_cons, Nat.succ_mul]; omega
      have ht : (rows.take i).flatten.length = i * 2 := by rw [hfl _ (fun r hr => hO.2 r (List.mem_of_mem_take hr)), List.length_take, Nat.min_eq_left (by omega)]
      have hd : (rows.drop i).flatten.length = (rows.length - i) * 2 := by rw [hfl _ (fun r hr => hO.2 r (List.mem_of_mem_drop hr)), List.length_drop]
      have hnl : (rows.take i ++ y :: rows.drop i).length = rows.length + 1 := by rw [List.length_append, List.length_cons, List.length_take, List.length_drop]; omega
      have hsz : ∀ r, r ∈ rows.take i ++ y :: rows.drop i → r.length = 2 := by
        intro r hr
        rcases List.mem_append.1 hr with hr | hr
        · exact hO.2 r (List.mem_of_mem_take hr)
        · rcases List.mem_cons.1 hr with rfl | hr
          · exact hy
          · exact hO.2 r (List.mem_of_mem_drop hr)
      have hff : (rows.take i ++ y :: rows.drop i).flatten = (rows.take i).flatten ++ y ++ (rows.drop i).flatten := by simp
      have htk : cur.toList.take (i * 2) = (rows.take i).flatten := by
        have h2 : rows.flatten = (rows.take i).flatten ++ (rows.drop i).flatten := by rw [← List.flatten_append, List.take_append_drop]
        have h4 := congrArg (List.take (i * 2)) hct
        rw [List.take_take, Nat.min_eq_left (by omega), h2, List.take_left' ht] at h4
        exact h4
      by_cases hr : rows.length + 1 ≤ cap
      · refine (insR_shift g rows.length cap i m rows cur y w hlt hr hmx hB hcs rfl hO.2 hct h1 hM hy hy1 hmg).mono ?_
        rintro e w' ⟨rfl, rfl⟩
        have hB1 := setCells_blk y _ (i * 2) _ (setCells_blk (rows.drop i).flatten _ ((i + 1) * 2) w.drew hB)
        refine ⟨_, rfl, ⟨⟨by rw [hfl _ hsz], .inr ⟨g, cap, _, by rw [hnl], hbg, hB1, by rw [hnl]; exact hr, hmx, by rw [layA_size, layA_size]; exact hcs, ?_⟩⟩, hsz⟩, ?_, fun k hk => .inl hk⟩
        · rw [hnl, hff]
          have h7 := Nat.mul_le_mul_right 2 hr
          have h5 := layA_second cur (rows.take i).flatten y (rows.drop i).flatten (by rw [ht]; exact htk) (by rw [ht, hd, hy]; omega)
          rw [ht, hd, hy, show i * 2 + 2 + (rows.length - i) * 2 = (rows.length + 1) * 2 from by omega, show i * 2 + 2 = (i + 1) * 2 from by omega] at h5
          exact h5
        · exact (((Fr.refl _ w).drew).trans (setCells_fr (S := fun k => (Value.slice (some ⟨g, 0, none⟩) rows.length cap).ownBlock = some k) rfl _ _ _) (fun _ _ h => h)).trans (setCells_fr (S := fun k => (Value.slice (some ⟨g, 0, none⟩) rows.length cap).ownBlock = some k) rfl _ _ _) (fun _ _ h => h)
      · refine (insR_grow g rows.length cap i m rows cur y w hlt hcap (by omega) hbig hB hcs rfl hO.2 hct h1 hM hy hy1 hmg).mono ?_
        rintro e w' ⟨G, ROW, rfl, rfl, hG1, hG2, hRs, hRt⟩
        have hN0 : Blk ((w.alloc (.cells ROW 29)).drew) w.heap.size ROW 29 := Blk.new w ROW 29
        have hN1 : Blk (((w.alloc (.cells ROW 29)).drew.setCells w.heap.size (i * 2) y).drew) w.heap.size _ 29 := setCells_blk y _ (i * 2) _ hN0
        have hN2 := setCells_blk (rows.drop i).flatten _ ((i + 1) * 2) _ hN1
        refine ⟨_, rfl, ⟨⟨by rw [hfl _ hsz], .inr ⟨w.heap.size, G, _, by rw [hnl], hbase, hN2, by rw [hnl]; exact hG1, hG2, by rw [layA_size, layA_size, hRs]; exact Nat.le_refl _, ?_⟩⟩, hsz⟩, ?_, fun k hk => .inr (by
          simp only [Value.ownBlock, Option.some.injEq] at hk
          omega)⟩
        · rw [hnl, hff]
          have h7 := Nat.mul_le_mul_right 2 hG1
          have h5 := layA_first ROW (rows.take i).flatten y (rows.drop i).flatten (by rw [ht]; exact hRt) (by rw [ht, hd, hy, hRs]; omega)
          rw [ht, hd, hy, show i * 2 + 2 + (rows.length - i) * 2 = (rows.length + 1) * 2 from by omega, show i * 2 + 2 = (i + 1) * 2 from by omega] at h5
          exact h5
        · have hf0 : Fr none_ w (w.alloc (.cells ROW 29)).drew := ((Fr.refl none_ w).alloc _).drew
          have hf1 := setCells_fr (S := only w.heap.size) rfl y (i * 2) (w.alloc (.cells ROW 29)).drew
          have hf2 := setCells_fr (S := only w.heap.size) rfl (rows.drop i).flatten ((i + 1) * 2) (((w.alloc (.cells ROW 29)).drew.setCells w.heap.size (i * 2) y).drew)
          have hno : ∀ k, k < w.heap.size → only w.heap.size k → none_ k := fun k hk h => by cases h; omega
          exact ((hf0.trans hf1.drew hno).trans hf2 hno).mono (fun k _ h => h.elim)

end Go.Proofs.YtlekfpeonehggaaGreatDoor
end

section
set_option linter.unusedVariables false
set_option maxRecDepth 100000
namespace Go.Proofs.YtlekfpeonehggaaGreatDoor
open Go.Proofs.BL Go.RowKit
/-- slices.Delete of one row out of a row of one's own: in place. -/
def DelRPostW (base : Nat) (v : Value) (rows : List (List Value)) (w : World) (e : Ending) (w' : World) : Prop :=
  ∃ v', e = .returned v' ∧ OwnW w' base 29 2 v' rows ∧ Fr (fun k => v.ownBlock = some k) w w' ∧ v'.ownBlock = v.ownBlock
set_option maxHeartbeats 4000000 in
theorem delR_ownW (base : Nat) (v : Value) (rows : List (List Value)) (i : Nat) (w : World) (hO : OwnW w base 29 2 v rows) (hi : i < rows.length) (h1 : ∀ r ∈ rows, ∀ u ∈ r, u.oneCell' = true) :
    Calls Tryz.prog 61 #[v, .int .i64 i, .int .i64 ((i : Int) + 1)] w (DelRPostW base v (rows.eraseIdx i) w) := by
  rcases hO.1.2 with ⟨_, hn⟩ | ⟨g, c, cur, rfl, hbg, hB, hcap, hmx, hcs, hct⟩
  · omega
  have hfl : ∀ l : List (List Value), (∀ r ∈ l, r.length = 2) → l.flatten.length = l.length * 2 := by
    intro l hl
    induction l with
    | nil => simp
    | cons x l ih => rw [List.flatten_cons, List.length_append, hl x (by simp), ih (fun r hr => hl r (by simp [hr])), List.length_cons, Nat.succ_mul]; omega
  obtain ⟨n, hn⟩ : ∃ n, n = rows.length := ⟨_, rfl⟩
  have ht : (rows.take i).flatten.length = i * 2 := by rw [hfl _ (fun r hr => hO.2 r (List.mem_of_mem_take hr)), List.length_take, Nat.min_eq_left (by omega)]
  have hd : (rows.drop (i + 1)).flatten.length = (n - (i + 1)) * 2 := by rw [hfl _ (fun r hr => hO.2 r (List.mem_of_mem_drop hr)), List.length_drop, hn]
  have htk : cur.toList.take (i * 2) = (rows.take i).flatten := by
    have h2 : rows.flatten = (rows.take i).flatten ++ (rows.drop i).flatten := by rw [← List.flatten_append, List.take_append_drop]
    have h4 := congrArg (List.take (i * 2)) hct
    rw [List.take_take, Nat.min_eq_left (by omega), h2, List.take_left' ht] at h4
    exact h4
  have hdr : (rows.drop (i + 1)).flatten = (cur.toList.take (n * 2)).drop ((i + 1) * 2) := by
    have h2 : rows.flatten = (rows.take (i + 1)).flatten ++ (rows.drop (i + 1)).flatten := by rw [← List.flatten_append, List.take_append_drop]
    have h3 : (rows.take (i + 1)).flatten.length = (i + 1) * 2 := by rw [hfl _ (fun r hr => hO.2 r (List.mem_of_mem_take hr)), List.length_take, Nat.min_eq_left (by omega)]
    rw [hn, hct, h2, List.drop_left' h3]
  have hcell : ∀ j, j < c * 2 → w.cell? ⟨g, j, none⟩ = some (cur[j]!) := fun j hj => by rw [Blk.cell hB, Array.getElem?_eq_getElem (by omega), getElem!_pos cur j (by omega)]
  have hnc := Nat.mul_le_mul_right 2 hcap
  obtain ⟨i0, hi0, hzz⟩ := Option.map_eq_some_iff.1 (show (Tryz.prog.info? 29).map (fun i => (i.zero, i.size, i.bytes)) = some (some (.agg #[.string ByteArray.empty, .int .i64 0] : Value), 2, 24) from by kernel_rfl)
  simp only [Prod.mk.injEq] at hzz
  obtain ⟨hz0, hzs, hzb⟩ := hzz
  obtain ⟨AD, hAD, hsrc⟩ : ∃ AD : Addr, (if c = i + 1 then some (⟨g, 0, none⟩ : Addr) else some ⟨g, (i + 1) * 2, none⟩) = some AD ∧ Hid (∀ j u, (rows.drop (i + 1)).flatten[j]? = some u → w.drew.cell? (AD.add j) = some u) := by
    by_cases h : c = i + 1
    · refine ⟨⟨g, 0, none⟩, by simp [h], fun j u hu => ?_⟩
      have h0 : (rows.drop (i + 1)).flatten.length = 0 := by rw [hd]; omega
      rw [List.length_eq_zero_iff.1 h0] at hu
      simp at hu
    · refine ⟨⟨g, (i + 1) * 2, none⟩, by simp [h], fun j u hu => ?_⟩
      rw [Addr.add_lit]
      rw [hdr, List.getElem?_drop, List.getElem?_take] at hu
      split at hu
      · rw [Array.getElem?_toList] at hu
        exact (Blk.cell hB _).trans hu
      · cases hu
  have s1 : Hid ((rows.drop (i + 1)).flatten.length = (n - (i + 1)) * 2) := hd
  have s2 : Hid (∀ u ∈ (rows.drop (i + 1)).flatten, u.oneCell' = true) := fun v hv => by obtain ⟨r, hr, hu⟩ := List.mem_flatten.1 hv; exact h1 r (List.mem_of_mem_drop hr) v hu
  have s3 : Hid (∀ j, j < (rows.drop (i + 1)).flatten.length → (w.drew.cell? ⟨g, 0 + i * 2 + j, none⟩).isSome = true ∧ w.drew.frozen? ⟨g, 0 + i * 2 + j, none⟩ = false) := by
    intro j hj
    rw [hd] at hj
    refine ⟨?_, Blk.free hB _⟩
    show (w.cell? _).isSome = true
    rw [hcell _ (by omega)]
    rfl
  have s4 : Hid (i0.size = 2) := hzs
  obtain ⟨W1, hW1⟩ : ∃ W1, W1 = w.drew.setCells g (0 + i * 2) (rows.drop (i + 1)).flatten := ⟨_, rfl⟩
  have hB1 : Blk W1 g (layA cur (i * 2) (rows.drop (i + 1)).flatten) 29 := by rw [hW1, Nat.zero_add]; exact setCells_blk _ _ _ w.drew hB
  have hcl : ∀ ty, (Builtin.clear_ #[27] ty #[.slice (some ⟨g, (i + (n - (i + 1))) * 2, none⟩) (n - (i + (n - (i + 1)))) (c - (i + (n - (i + 1))))]).run Tryz.prog W1 = .ok (.tuple #[]) (W1.setCells g ((i + (n - (i + 1))) * 2) (List.replicate (n - (i + (n - (i + 1)))) ((.agg #[.string ByteArray.empty, .int .i64 0] : Value)).cells.toList).flatten) := fun ty =>
    run_clear_k W1 27 29 ty (.agg #[.string ByteArray.empty, .int .i64 0] : Value) Tryz.underlying27 (fun w => Tryz.zeroValue29 w) (by decide) (by decide) g _ _ _ (by omega)
      (fun j hj => by
        have hj' : j < (n - (i + (n - (i + 1)))) * 2 := hj
        rw [hB1.cell, Array.getElem?_eq_getElem (by rw [layA_size]; omega)]; rfl) (fun j hj => hB1.free _)
  have HCL := Lib.hid hcl
  have HW := Lib.hid hW1
  have HB1 := Lib.hid hB1
  have HFIN : Hid (DelRPostW base (.slice (some ⟨g, 0, none⟩) n c) (rows.eraseIdx i) w (.returned (.slice (some ⟨g, 0, none⟩) (i + (n - (i + 1))) c)) (W1.setCells g ((i + (n - (i + 1))) * 2) (List.replicate (n - (i + (n - (i + 1)))) ((.agg #[.string ByteArray.empty, .int .i64 0] : Value)).cells.toList).flatten)) := by
    have hB2 := setCells_blk (List.replicate (n - (i + (n - (i + 1)))) ((.agg #[.string ByteArray.empty, .int .i64 0] : Value)).cells.toList).flatten _ ((i + (n - (i + 1))) * 2) W1 hB1
    have hel : (rows.eraseIdx i).length = i + (n - (i + 1)) := by rw [List.length_eraseIdx, if_pos hi]; omega
    have hsz : ∀ r, r ∈ rows.eraseIdx i → r.length = 2 := fun r hr => hO.2 r (List.mem_of_mem_eraseIdx hr)
    refine ⟨_, rfl, ⟨⟨by rw [hfl _ hsz], .inr ⟨g, c, _, by rw [hel], hbg, hB2, by rw [hel]; omega, hmx, by rw [layA_size, layA_size]; exact hcs, ?_⟩⟩, hsz⟩, ?_, rfl⟩
    · have hzl : (List.replicate (n - (i + (n - (i + 1)))) ((.agg #[.string ByteArray.empty, .int .i64 0] : Value)).cells.toList).flatten.length = (n - (i + (n - (i + 1)))) * 2 := by simp [Value.cells]
      rw [hel, layA_list _ _ _ (by rw [layA_size, hzl]; omega), layA_list _ _ _ (by rw [hd]; omega), htk, hd]
      have he : rows.eraseIdx i = rows.take i ++ rows.drop (i + 1) := List.eraseIdx_eq_take_drop_succ _ _
      rw [he, List.flatten_append]
      have hlen : ((rows.take i).flatten ++ (rows.drop (i + 1)).flatten).length = (i + (n - (i + 1))) * 2 := by rw [List.length_append, ht, hd]; omega
      rw [List.take_left' hlen, List.append_assoc, List.take_left' hlen]
    · rw [hW1]
      exact (((Fr.refl _ w).drew).trans (setCells_fr (S := fun k => (Value.slice (some ⟨g, 0, none⟩) n c).ownBlock = some k) rfl _ _ _) (fun _ _ h => h)).trans (setCells_fr (S := fun k => (Value.slice (some ⟨g, 0, none⟩) n c).ownBlock = some k) rfl _ _ _) (fun _ _ h => h)
  rw [← hn] at hi hcap ⊢
  have mixed : Tryz.prog.follows Departure.mixedOrders = true := by kernel_rfl
  have hne : ((i : Int) == (i : Int) + 1) = false := by simp; omega
  have htn : ((i : Int) + 1).toNat = i + 1 := by omega
  have hb1 : (0 : Int) ≤ (i : Int) + 1 := by omega
  have hb2 : (i : Int) + 1 ≤ (n : Int) := by omega
  have hb3 : (i : Int) ≤ (i : Int) + 1 := by omega
  have hic : i ≤ c := by omega
  have hjc : i + 1 ≤ c := by omega
  clear hW1 hB1 hcl hcell hdr htk hd ht hfl hct hcs hB hO h1 hzs hzb hz0 hn
  refine via fun Q hQ => ?_
  go_enter Tryz.func61, Tryz.ntmps61
  go_wp2_with fail
  go_region_law_o (refine step_append_room rfl (.tmp 22) (.tmp 25) 27 rfl 29 i0 2 Tryz.underlying27 hi0 s4.out g 0 i c (by simp [Act.eval, Act.put]) AD (n - (i + 1)) (c - (i + 1)) (rows.drop (i + 1)).flatten (by simp [Act.eval, Act.put]; try exact hAD) s1.out hsrc.out s2.out (by omega) s3.out ?_; rw [← HW.out])
  go_wp2_with fail
  rw [HCL.out _, Result.andThen_ok]
  go_wp2
  exact HFIN.out

end Go.Proofs.YtlekfpeonehggaaGreatDoor
end
