/- slices.Insert of one row, whole. -/
import Derived.Test.YtlekfpeonehggaaPIn
import Derived.Deep.DeepCutAuto
set_option linter.unusedVariables false
set_option maxRecDepth 100000
namespace Go.Proofs.Ytlekfpeonehggaa
open Go.Proofs.BL Go.RowKit
/-- slices.Insert of one row into a row of one's own. -/
def InsRPostW (base : Nat) (v : Value) (rows : List (List Value)) (w : World) (e : Ending) (w' : World) : Prop :=
  ∃ v', e = .returned v' ∧ OwnW w' base 52 2 v' rows ∧ Fr (fun k => v.ownBlock = some k) w w' ∧ ∀ k, v'.ownBlock = some k → v.ownBlock = some k ∨ w.heap.size ≤ k
set_option maxHeartbeats 4000000 in
theorem insR_ownW (base : Nat) (v : Value) (rows : List (List Value)) (i m : Nat) (y : List Value) (w : World) (hO : OwnW w base 52 2 v rows) (hbase : base ≤ w.heap.size) (hi : i ≤ rows.length) (h1 : ∀ r ∈ rows, ∀ u ∈ r, u.oneCell' = true)
    (hM : Blk w m y.toArray 52) (hy : y.length = 2) (hy1 : ∀ u ∈ y, u.oneCell' = true) (hne : v.ownBlock ≠ some m) (hbig : (rows.length + 1) * 24 ≤ 140737488355328) :
    Calls Try.prog 22 #[v, .int .i64 i, .slice (some ⟨m, 0, none⟩) 1 1] w (InsRPostW base v (rows.take i ++ y :: rows.drop i) w) := by
  by_cases hin : i = rows.length
  · subst hin
    have hz : rows.take rows.length ++ y :: rows.drop rows.length = rows ++ [y] := by simp
    rw [hz]
    have hMr : RowsAt w 2 (some ⟨m, 0, none⟩) [y] := fun j r hj => by
      cases j with
      | succ j => simp at hj
      | zero =>
        simp at hj
        subst hj
        exact ⟨m, 0, rfl, fun q u hq => by
          rw [show 0 + 0 * 2 + q = q from by omega]
          exact (hM.cell q).trans (by simpa using hq)⟩
    refine via fun Q hQ => ?_
    have HO := Lib.hid hO
    have HM := Lib.hid hM
    have HBig := Lib.hid hbig
    have HY := Lib.hid hy
    have HY1 := Lib.hid hy1
    have HInfo := Lib.hid (show (Try.prog.info? 52).map (fun i => (i.zero, i.size, i.bytes)) = some (some (.agg #[.string ByteArray.empty, .int .i64 0] : Value), 2, 24) from by kernel_rfl)
    have HZc := Lib.hid (show ((.agg #[.string ByteArray.empty, .int .i64 0] : Value)).cells.size = 2 from by kernel_rfl)
    obtain ⟨A, c, hv, hc, _, _⟩ := hO.slv'
    have hlen : rows.length ≤ 140737488355328 := by omega
    clear hM hMr h1 hz hy1 hy hi hne hbig hO
    generalize hnr : rows.length = n at *
    have HNR := Lib.hid hnr
    clear hnr
    subst hv
    have hmx : n ≤ 9223372036854775807 := by omega
    by_cases hcn : c = n
    · subst hcn
      go_enter Try.func22, Try.ntmps22
      go_wp2_with (at_builtin; go_loud (refine appendW1 (W := w) base 52 2 24 (.agg #[.string ByteArray.empty, .int .i64 0] : Value) rfl (.tmp 23) (.tmp 24) 34 rfl Try.underlying34 HInfo.out HZc.out (by decide) (by decide) (.slice A c c) rows y rfl m 1 rfl HM.out HY.out HY1.out HO.out hbase (by rw [HNR.out]; exact HBig.out) ?_); intro v1 w1 ho1 hf1 hl1)
      have H1 := Lib.hid ho1
      have H2 := Lib.hid hf1
      have H3 := Lib.hid hl1
      clear ho1 hf1 hl1
      exact ⟨v1, rfl, H1.out, H2.out, H3.out⟩
    · go_enter Try.func22, Try.ntmps22
      go_wp2_with (at_builtin; go_loud (refine appendW1 (W := w) base 52 2 24 (.agg #[.string ByteArray.empty, .int .i64 0] : Value) rfl (.tmp 23) (.tmp 24) 34 rfl Try.underlying34 HInfo.out HZc.out (by decide) (by decide) (.slice A n c) rows y rfl m 1 rfl HM.out HY.out HY1.out HO.out hbase (by rw [HNR.out]; exact HBig.out) ?_); intro v1 w1 ho1 hf1 hl1)
      have H1 := Lib.hid ho1
      have H2 := Lib.hid hf1
      have H3 := Lib.hid hl1
      clear ho1 hf1 hl1
      exact ⟨v1, rfl, H1.out, H2.out, H3.out⟩
  · have hlt : i < rows.length := by omega
    rcases hO.1.2 with ⟨_, hn⟩ | ⟨g, cap, cur, rfl, hbg, hB, hcap, hmx, hcs, hct⟩
    · omega
    · have hmg : m ≠ g := fun e => hne (by subst e; rfl)
      have hfl : ∀ l : List (List Value), (∀ r ∈ l, r.length = 2) → l.flatten.length = l.length * 2 := by
        intro l hl
        induction l with
        | nil => simp
        | cons x l ih => rw [List.flatten_cons, List.length_append, hl x (by simp), ih (fun r hr => hl r (by simp [hr])), List.length_cons, Nat.succ_mul]; omega
      have ht : (rows.take i).flatten.length = i * 2 := by rw [hfl _ (fun r hr => hO.2 r (List.mem_of_mem_take hr)), List.length_take, Nat.min_eq_left (by omega)]
      have hd : (rows.drop i).flatten.length = (rows.length - i) * 2 := by rw [hfl _ (fun r hr => hO.2 r (List.mem_of_mem_drop hr)), List.length_drop]
      have hnl : (rows.take i ++ y :: rows.drop i).length = rows.length + 1 := by rw [List.length_append, List.length_cons, List.length_take, List.length_drop]; omega
      have hsz : ∀ r, r ∈ rows.take i ++ y :: rows.drop i → r.length = 2 := by
        intro r hr
        rcases List.mem_append.1 hr with hr | hr
        · exact hO.2 r (List.mem_of_mem_take hr)
        · rcases List.mem_cons.1 hr with rfl | hr
          · exact hy
          · exact hO.2 r (List.mem_of_mem_drop hr)
      have hff : (rows.take i ++ y :: rows.drop i).flatten = (rows.take i).flatten ++ y ++ (rows.drop i).flatten := by simp
      have htk : cur.toList.take (i * 2) = (rows.take i).flatten := by
        have h2 : rows.flatten = (rows.take i).flatten ++ (rows.drop i).flatten := by rw [← List.flatten_append, List.take_append_drop]
        have h4 := congrArg (List.take (i * 2)) hct
        rw [List.take_take, Nat.min_eq_left (by omega), h2, List.take_left' ht] at h4
        exact h4
      by_cases hr : rows.length + 1 ≤ cap
      · refine (insR_shift g rows.length cap i m rows cur y w hlt hr hmx hB hcs rfl hO.2 hct h1 hM hy hy1 hmg).mono ?_
        rintro e w' ⟨rfl, rfl⟩
        have hB1 := setCells_blk y _ (i * 2) _ (setCells_blk (rows.drop i).flatten _ ((i + 1) * 2) w.drew hB)
        refine ⟨_, rfl, ⟨⟨by rw [hfl _ hsz], .inr ⟨g, cap, _, by rw [hnl], hbg, hB1, by rw [hnl]; exact hr, hmx, by rw [layA_size, layA_size]; exact hcs, ?_⟩⟩, hsz⟩, ?_, fun k hk => .inl hk⟩
        · rw [hnl, hff]
          have h7 := Nat.mul_le_mul_right 2 hr
          have h5 := layA_second cur (rows.take i).flatten y (rows.drop i).flatten (by rw [ht]; exact htk) (by rw [ht, hd, hy]; omega)
          rw [ht, hd, hy, show i * 2 + 2 + (rows.length - i) * 2 = (rows.length + 1) * 2 from by omega, show i * 2 + 2 = (i + 1) * 2 from by omega] at h5
          exact h5
        · exact (((Fr.refl _ w).drew).trans (setCells_fr (S := fun k => (Value.slice (some ⟨g, 0, none⟩) rows.length cap).ownBlock = some k) rfl _ _ _) (fun _ _ h => h)).trans (setCells_fr (S := fun k => (Value.slice (some ⟨g, 0, none⟩) rows.length cap).ownBlock = some k) rfl _ _ _) (fun _ _ h => h)
      · refine (insR_grow g rows.length cap i m rows cur y w hlt hcap (by omega) hbig hB hcs rfl hO.2 hct h1 hM hy hy1 hmg).mono ?_
        rintro e w' ⟨G, ROW, rfl, rfl, hG1, hG2, hRs, hRt⟩
        have hN0 : Blk ((w.alloc (.cells ROW 52)).drew) w.heap.size ROW 52 := Blk.new w ROW 52
        have hN1 : Blk (((w.alloc (.cells ROW 52)).drew.setCells w.heap.size (i * 2) y).drew) w.heap.size _ 52 := setCells_blk y _ (i * 2) _ hN0
        have hN2 := setCells_blk (rows.drop i).flatten _ ((i + 1) * 2) _ hN1
        refine ⟨_, rfl, ⟨⟨by rw [hfl _ hsz], .inr ⟨w.heap.size, G, _, by rw [hnl], hbase, hN2, by rw [hnl]; exact hG1, hG2, by rw [layA_size, layA_size, hRs]; exact Nat.le_refl _, ?_⟩⟩, hsz⟩, ?_, fun k hk => .inr (by
          simp only [Value.ownBlock, Option.some.injEq] at hk
          omega)⟩
        · rw [hnl, hff]
          have h7 := Nat.mul_le_mul_right 2 hG1
          have h5 := layA_first ROW (rows.take i).flatten y (rows.drop i).flatten (by rw [ht]; exact hRt) (by rw [ht, hd, hy, hRs]; omega)
          rw [ht, hd, hy, show i * 2 + 2 + (rows.length - i) * 2 = (rows.length + 1) * 2 from by omega, show i * 2 + 2 = (i + 1) * 2 from by omega] at h5
          exact h5
        · have hf0 : Fr none_ w (w.alloc (.cells ROW 52)).drew := ((Fr.refl none_ w).alloc _).drew
          have hf1 := setCells_fr (S := only w.heap.size) rfl y (i * 2) (w.alloc (.cells ROW 52)).drew
          have hf2 := setCells_fr (S := only w.heap.size) rfl (rows.drop i).flatten ((i + 1) * 2) (((w.alloc (.cells ROW 52)).drew.setCells w.heap.size (i * 2) y).drew)
          have hno : ∀ k, k < w.heap.size → only w.heap.size k → none_ k := fun k hk h => by cases h; omega
          exact ((hf0.trans hf1.drew hno).trans hf2 hno).mono (fun k _ h => h.elim)

end Go.Proofs.Ytlekfpeonehggaa
