/- slices.Insert and slices.Delete at rows. -/
import Derived.Test.YtlekfpeonehggaaGreatDoorJ11
import Derived.Test.YtlekfpeonehggaaGreatDoorChecked
import Derived.WalkKit
import Derived.Lib.Hide
import Derived.Laws.Externs
import Derived.Deep.RegionLaw
import Derived.Shelf.RegionOpenPlain
import Derived.Shelf.Spec.SlicesInsert
section
set_option linter.unusedVariables false
set_option maxRecDepth 100000
namespace Go.Proofs.YtlekfpeonehggaaGreatDoor
open Go.Proofs.BL Go.RowKit
set_option maxHeartbeats 4000000 in
/-- slices.Insert, one row, room: in place. -/
theorem insF_shift (g n c i m : Nat) (rows : List (List Value)) (cur : Array Value) (y : List Value) (w : World) (hi : i < n) (hroom : n + 1 ≤ c) (hc63 : c ≤ maxLen)
    (hB : Blk w g cur 59) (hcs : c ≤ cur.size) (hrl : rows.length = n) (hr5 : ∀ r ∈ rows, r.length = 1) (hcr : cur.toList.take (n) = rows.flatten) (h1 : ∀ r ∈ rows, ∀ u ∈ r, u.oneCell' = true)
    (hM : Blk w m y.toArray 59) (hy : y.length = 1) (hy1 : ∀ u ∈ y, u.oneCell' = true) (hne : m ≠ g) :
    Calls Tryz.prog 75 #[.slice (some ⟨g, 0, none⟩) n c, .int .i64 i, .slice (some ⟨m, 0, none⟩) 1 1] w fun e w' =>
      e = .returned (.slice (some ⟨g, 0, none⟩) (n + 1) c) ∧ w' = (w.drew.setCells g ((i + 1)) (rows.drop i).flatten).setCells g (i) y := by
  have hsz : (Tryz.prog.info? 59).map (·.size) = some 1 := by kernel_rfl
  have hfl : ∀ l : List (List Value), (∀ r ∈ l, r.length = 1) → l.flatten.length = l.length := by
    intro l hl
    induction l with
    | nil => simp
    | cons x l ih => rw [List.flatten_cons, List.length_append, hl x (by simp), ih (fun r hr => hl r (by simp [hr])), List.length_cons]; omega
  have hdl : (rows.drop i).flatten.length = (n - i) := by rw [hfl _ (fun r hr => hr5 r (List.mem_of_mem_drop hr)), List.length_drop, hrl]
  have hdrop : (rows.drop i).flatten = rows.flatten.drop (i) := by
    have h2 : rows.flatten = (rows.take i).flatten ++ (rows.drop i).flatten := by rw [← List.flatten_append, List.take_append_drop]
    have h3 : (rows.take i).flatten.length = i := by rw [hfl _ (fun r hr => hr5 r (List.mem_of_mem_take hr)), List.length_take, hrl, Nat.min_eq_left (by omega)]
    rw [h2, List.drop_left' h3]
  have hcell : ∀ j, j < c → w.cell? ⟨g, j, none⟩ = some (cur[j]!) := fun j hj => by rw [hB.cell, Array.getElem?_eq_getElem (by omega), getElem!_pos cur j (by omega)]
  have hov : ∀ lb cb, (callFunc 82 #[.slice (some ⟨m, 0, none⟩) 1 1, .slice (some ⟨g, (i + 1), none⟩) lb cb]).run Tryz.prog w = .ok (.value (.bool false)) w := fun lb cb => by
    rw [run_callFunc_extern Tryz.func82 (by kernel_rfl) (by kernel_rfl) (by kernel_rfl) (e := Extern.SlicesOverlaps.overlaps #[55, 55] #[4]) (by kernel_rfl),
      Lib.run_overlaps_apart w 55 4 59 Tryz.underlying55 1 (fun w => by first | exact Tryz.sizeOf59 w | kernel_rfl) ⟨m, 0, none⟩ ⟨g, (i + 1), none⟩ 1 1 lb cb hne 59 59 y.toArray.size cur.size (by rw [World.shape?, hM]) (by rw [World.shape?, hB]) (by omega) (hM.free 0) (hM.free _)]
    rfl
  have hcp1 : ∀ ty dc sc, (Builtin.copy_ #[55, 55] ty #[.slice (some ⟨g, (i + 1), none⟩) (n + 1 - (i + 1)) dc, .slice (some ⟨g, i, none⟩) (n + 1 - i) sc]).run Tryz.prog w.drew = .ok (goInt (Nat.min (n + 1 - i) (n + 1 - (i + 1)))) (w.drew.setCells g ((i + 1)) (rows.drop i).flatten) := fun ty dc sc =>
    run_copy_k w.drew _ _ ty 59 1 g ((i + 1)) (n + 1 - (i + 1)) dc ⟨g, i, none⟩ (n + 1 - i) sc (rows.drop i).flatten Tryz.underlying55 hsz (by rw [hdl]; simp only [Nat.mul_one, Nat.min_def]; split <;> omega)
      (fun j v hj => by
        rw [Addr.add_lit]
        rw [hdrop, List.getElem?_drop, ← hcr, List.getElem?_take] at hj
        split at hj
        · rw [Array.getElem?_toList] at hj
          exact (hB.cell _).trans hj
        · cases hj)
      (fun j hj => by
        rw [hdl] at hj
        have h6 : (i + 1) + (n - i) = (n + 1) := by omega
        have h7 := Nat.mul_le_mul_right 1 hroom
        show (w.cell? _).isSome = true
        rw [hcell _ (by omega)]
        rfl)
      (fun j hj => hB.free _) (fun v hv => by obtain ⟨r, hr, hu⟩ := List.mem_flatten.1 hv; exact h1 r (List.mem_of_mem_drop hr) v hu)
  obtain ⟨W1, hW1⟩ : ∃ W1, W1 = w.drew.setCells g ((i + 1)) (rows.drop i).flatten := ⟨_, rfl⟩
  have hB1 : Blk W1 g (layA cur ((i + 1)) (rows.drop i).flatten) 59 := by rw [hW1]; exact setCells_blk _ _ _ _ hB
  have hM1 : Blk W1 m y.toArray 59 := by rw [hW1]; exact Blk.far_cells (w := w.drew) hM hne _ _
  have hcp2 : ∀ ty dc, (Builtin.copy_ #[55, 55] ty #[.slice (some ⟨g, i, none⟩) (n + 1 - i) dc, .slice (some ⟨m, 0, none⟩) 1 1]).run Tryz.prog W1 = .ok (goInt (Nat.min 1 (n + 1 - i))) (W1.setCells g (i) y) := fun ty dc =>
    run_copy_k W1 _ _ ty 59 1 g (i) (n + 1 - i) dc ⟨m, 0, none⟩ 1 1 y Tryz.underlying55 hsz (by rw [hy, show Nat.min 1 (n + 1 - i) = 1 from by simp only [Nat.min_def]; split <;> omega])
      (fun j v hj => by
        rw [Addr.add_lit, Nat.zero_add]
        exact (hM1.cell j).trans (by simpa using hj))
      (fun j hj => by
        rw [hB1.cell, Array.getElem?_eq_getElem (by rw [layA_size]; rw [hy] at hj; have := Nat.mul_le_mul_right 1 (show i + 1 ≤ c by omega); omega)]; rfl)
      (fun j hj => hB1.free _) hy1
  have hw1 : IntKind.i64.wrap ((i : Int) + 1) = (i : Int) + 1 := by rw [IntKind.wrap_i64]; unfold maxLen at hc63; omega
  have hw2 : IntKind.i64.wrap ((n : Int) + 1) = (n : Int) + 1 := by rw [IntKind.wrap_i64]; unfold maxLen at hc63; omega
  have hn0 : ((i : Int) == (n : Int)) = false := by simp; omega
  have hn1 : ¬ ((c : Int) < (n : Int) + 1) := by omega
  have hc0 : ¬ c = i + 1 := by omega
  have hc1 : ¬ c = i := by omega
  have mixed : Tryz.prog.follows Departure.mixedOrders = true := by kernel_rfl
  have hb1 : (0 : Int) ≤ (i : Int) + 1 := by omega
  have htn : ((i : Int) + 1).toNat = i + 1 := by omega
  have hin : i ≤ n := by omega
  have hb3 : (i : Int) ≤ (n : Int) + 1 := by omega
  rw [← hW1] at hcp1
  have X := Lib.hid hW1
  have HC1 := Lib.hid hcp1
  have HC2 := Lib.hid hcp2
  have HB := Lib.hid hB
  have HM := Lib.hid hM
  clear hW1 hcell hB1 hM1 hB hM hdrop hdl hfl hcr hr5 h1 hy1 hcs hsz hcp1 hcp2
  go_enter Tryz.func75, Tryz.ntmps75
  go_wp2_with (simp only [hov])
  go_region_law_o (refine step_copy_runI rfl _ _ 55 55 rfl _ _ (by simp [Act.eval, Act.put]; rfl) (by simp [Act.eval, Act.put]; rfl) (HC1.out _ _ _) ?_)
  go_wp2_with fail
  rw [HC2.out _ _, Result.andThen_ok]
  go_wp2
  go_ret
  exact ⟨rfl, by rw [X.out]⟩

set_option maxHeartbeats 4000000 in
/-- slices.Insert, one row, no room: a new row. -/
theorem insF_grow (g n c i m : Nat) (rows : List (List Value)) (cur : Array Value) (y : List Value) (w : World) (hi : i < n) (hnc : n ≤ c) (hroom : c < n + 1) (hbig : (n + 1) * 24 ≤ 140737488355328)
    (hB : Blk w g cur 59) (hcs : c ≤ cur.size) (hrl : rows.length = n) (hr5 : ∀ r ∈ rows, r.length = 1) (hcr : cur.toList.take (n) = rows.flatten) (h1 : ∀ r ∈ rows, ∀ u ∈ r, u.oneCell' = true)
    (hM : Blk w m y.toArray 59) (hy : y.length = 1) (hy1 : ∀ u ∈ y, u.oneCell' = true) (hne : m ≠ g) :
    Calls Tryz.prog 75 #[.slice (some ⟨g, 0, none⟩) n c, .int .i64 i, .slice (some ⟨m, 0, none⟩) 1 1] w fun e w' =>
      ∃ G ROW, e = .returned (.slice (some ⟨w.heap.size, 0, none⟩) (n + 1) G) ∧ w' = (((w.alloc (.cells ROW 59)).drew.setCells w.heap.size (i) y).drew).setCells w.heap.size ((i + 1)) (rows.drop i).flatten ∧
        n + 1 ≤ G ∧ G ≤ maxLen ∧ ROW.size = G ∧ ROW.toList.take (i) = (rows.take i).flatten := by
  obtain ⟨i0, hi0, hzz⟩ := Option.map_eq_some_iff.1 (show (Tryz.prog.info? 59).map (fun i => (i.zero, i.size, i.bytes)) = some (some (.agg #[.slice none 0 0] : Value), 1, 24) from by kernel_rfl)
  simp only [Prod.mk.injEq] at hzz
  obtain ⟨hz0, hzs, hzb⟩ := hzz
  have hsz : (Tryz.prog.info? 59).map (·.size) = some 1 := by rw [hi0]; simp [hzs]
  have hfl : ∀ l : List (List Value), (∀ r ∈ l, r.length = 1) → l.flatten.length = l.length := by
    intro l hl
    induction l with
    | nil => simp
    | cons x l ih => rw [List.flatten_cons, List.length_append, hl x (by simp), ih (fun r hr => hl r (by simp [hr])), List.length_cons]; omega
  have hdl : (rows.drop i).flatten.length = (n - i) := by rw [hfl _ (fun r hr => hr5 r (List.mem_of_mem_drop hr)), List.length_drop, hrl]
  have h3 : (rows.take i).flatten.length = i := by rw [hfl _ (fun r hr => hr5 r (List.mem_of_mem_take hr)), List.length_take, hrl, Nat.min_eq_left (by omega)]
  have h2 : rows.flatten = (rows.take i).flatten ++ (rows.drop i).flatten := by rw [← List.flatten_append, List.take_append_drop]
  have hdrop : (rows.drop i).flatten = rows.flatten.drop (i) := by rw [h2, List.drop_left' h3]
  have htake : (rows.take i).flatten = rows.flatten.take (i) := by rw [h2, List.take_left' h3]
  have hold : (Builtin.firstCells i0.size i (.slice (some ⟨g, 0, none⟩) i c)).run Tryz.prog w.drew = .ok (rows.take i).flatten.toArray w.drew := by
    rw [hzs]
    exact run_firstCells_some w.drew 1 i ⟨g, 0, none⟩ i c (rows.take i).flatten (by rw [h3, Nat.mul_one]) (fun j v hj => by
      rw [Addr.add_lit, Nat.zero_add]
      rw [htake, List.getElem?_take] at hj
      split at hj
      · rw [← hcr, List.getElem?_take] at hj
        split at hj
        · rw [Array.getElem?_toList] at hj
          exact (hB.cell _).trans hj
        · cases hj
      · cases hj)
  have hik : i + (n + 1 - i) = n + 1 := by omega
  have hkk : (n : Int) + 1 - (i : Int) = ((n + 1 - i : Nat) : Int) := by omega
  have hrz : ∀ ty, (Builtin.append_ #[55, 3] ty #[.slice (some ⟨g, 0, none⟩) i c, .int .i64 ((n : Int) + 1 - (i : Int))]).run Tryz.prog w =
      .ok (.slice (some ⟨w.heap.size, 0, none⟩) (n + 1) (grownCap w (n + 1) c 59)) (w.drew.alloc (.cells ((rows.take i).flatten.toArray ++ Builtin.zeroCells (.agg #[.slice none 0 0] : Value).cells (n + 1 - i) ++ Builtin.zeroCells (.agg #[.slice none 0 0] : Value).cells (grownCap w (n + 1) c 59 - (n + 1))) 59)) := fun ty => by
    have h := Lib.run_append_grow_zeros w 55 3 ty 59 i0 _ .i64 .i64 Tryz.underlying55 Tryz.underlying3 hi0 hz0 (some ⟨g, 0, none⟩) i c (rows.take i).flatten hold (n + 1 - i) (by omega) (by omega) (by omega) (by omega) (by rw [hzb]; omega) (by rw [hzb, hik]; exact growslice_fits hroom hbig)
    rw [hik] at h
    rw [hkk]
    exact h
  have hGn : n + 1 ≤ grownCap w (n + 1) c 59 := grownCap_ge w _ _ _
  have hGm : grownCap w (n + 1) c 59 ≤ maxLen := grownCap_le_maxLen w (n + 1) c 59 (by unfold maxLen; omega)
  generalize grownCap w (n + 1) c 59 = G at hrz hGn hGm
  obtain ⟨ROW, hROW⟩ : ∃ ROW : Array Value, ROW = (rows.take i).flatten.toArray ++ Builtin.zeroCells (.agg #[.slice none 0 0] : Value).cells (n + 1 - i) ++ Builtin.zeroCells (.agg #[.slice none 0 0] : Value).cells (G - (n + 1)) := ⟨_, rfl⟩
  rw [← hROW] at hrz
  have hRs : ROW.size = G := by
    have hzc : ∀ k, (Builtin.zeroCells (.agg #[.slice none 0 0] : Value).cells k).size = k := fun k => by simp [Builtin.zeroCells, Value.cells]
    rw [hROW, Array.size_append, Array.size_append, hzc, hzc, List.size_toArray, h3]
    omega
  have hRt : ROW.toList.take (i) = (rows.take i).flatten := by
    rw [hROW, Array.append_assoc, Array.toList_append, List.take_left' (by simpa using h3)]
  have HRs := Lib.hid hRs
  have HRt := Lib.hid hRt
  have hblt := hB.lt
  have hmlt := hM.lt
  obtain ⟨W1, hW1⟩ : ∃ W1, W1 = w.drew.alloc (.cells ROW 59) := ⟨_, rfl⟩
  have hN : Blk W1 w.heap.size ROW 59 := by rw [hW1]; exact Blk.new w.drew ROW 59
  have hM1 : Blk W1 m y.toArray 59 := by rw [hW1]; exact Blk.alloc (w := w.drew) hM _
  have hB1 : Blk W1 g cur 59 := by rw [hW1]; exact Blk.alloc (w := w.drew) hB _
  have hmN : m ≠ w.heap.size := by omega
  have hgN : g ≠ w.heap.size := by omega
  have hcpA : ∀ (W : World), (∀ x, W.cell? x = W1.cell? x) → (∀ x, W.frozen? x = W1.frozen? x) → ∀ ty dc, (Builtin.copy_ #[55, 55] ty #[.slice (some ⟨w.heap.size, i, none⟩) (n + 1 - i) dc, .slice (some ⟨m, 0, none⟩) 1 1]).run Tryz.prog W = .ok (goInt (Nat.min 1 (n + 1 - i))) (W.setCells w.heap.size (i) y) := fun W hWc hWf ty dc =>
    run_copy_k W _ _ ty 59 1 w.heap.size (i) (n + 1 - i) dc ⟨m, 0, none⟩ 1 1 y Tryz.underlying55 hsz (by rw [hy, show Nat.min 1 (n + 1 - i) = 1 from by simp only [Nat.min_def]; split <;> omega])
      (fun j v hj => by rw [Addr.add_lit, Nat.zero_add, hWc]; exact (hM1.cell j).trans (by simpa using hj))
      (fun j hj => by
        rw [hWc, hN.cell, Array.getElem?_eq_getElem (by rw [hRs]; rw [hy] at hj; have := Nat.mul_le_mul_right 1 (show i + 1 ≤ G by omega); omega)]; rfl)
      (fun j hj => by rw [hWf]; exact hN.free _) hy1
  have hcpB : ∀ (W : World), (∀ x, W.cell? x = (W1.setCells w.heap.size (i) y).cell? x) → (∀ x, W.frozen? x = (W1.setCells w.heap.size (i) y).frozen? x) → ∀ ty dc sc, (Builtin.copy_ #[55, 55] ty #[.slice (some ⟨w.heap.size, (i + 1), none⟩) (n + 1 - (i + 1)) dc, .slice (some ⟨g, i, none⟩) (n - i) sc]).run Tryz.prog W = .ok (goInt (Nat.min (n - i) (n + 1 - (i + 1)))) (W.setCells w.heap.size ((i + 1)) (rows.drop i).flatten) := fun W hWc hWf ty dc sc => by
    have hB2 : Blk (W1.setCells w.heap.size (i) y) g cur 59 := hB1.far_cells hgN _ _
    have hN2 := setCells_blk y _ (i) _ hN
    exact run_copy_k W _ _ ty 59 1 w.heap.size ((i + 1)) (n + 1 - (i + 1)) dc ⟨g, i, none⟩ (n - i) sc (rows.drop i).flatten Tryz.underlying55 hsz (by rw [hdl]; simp only [Nat.mul_one, Nat.min_def]; split <;> omega)
      (fun j v hj => by
        rw [Addr.add_lit, hWc]
        rw [hdrop, List.getElem?_drop, ← hcr, List.getElem?_take] at hj
        split at hj
        · rw [Array.getElem?_toList] at hj
          exact (hB2.cell _).trans hj
        · cases hj)
      (fun j hj => by
        rw [hdl] at hj
        have h6 : (i + 1) + (n - i) = (n + 1) := by omega
        have h7 := Nat.mul_le_mul_right 1 hGn
        rw [hWc, hN2.cell, Array.getElem?_eq_getElem (by rw [layA_size, hRs]; omega)]
        rfl)
      (fun j hj => by rw [hWf]; exact hN2.free _) (fun v hv => by obtain ⟨r, hr, hu⟩ := List.mem_flatten.1 hv; exact h1 r (List.mem_of_mem_drop hr) v hu)
  subst hW1
  have hE1 : ∀ x, ((w.alloc (.cells ROW 59)).drew).cell? x = (w.drew.alloc (.cells ROW 59)).cell? x := fun x => rfl
  have hE2 : ∀ x, ((w.alloc (.cells ROW 59)).drew).frozen? x = (w.drew.alloc (.cells ROW 59)).frozen? x := fun x => rfl
  have hF1 : ∀ x, (((w.alloc (.cells ROW 59)).drew.setCells w.heap.size (i) y).drew).cell? x = ((w.drew.alloc (.cells ROW 59)).setCells w.heap.size (i) y).cell? x := fun x => rfl
  have hF2 : ∀ x, (((w.alloc (.cells ROW 59)).drew.setCells w.heap.size (i) y).drew).frozen? x = ((w.drew.alloc (.cells ROW 59)).setCells w.heap.size (i) y).frozen? x := fun x => rfl
  have hcA := hcpA _ hE1 hE2
  have hcB := hcpB _ hF1 hF2
  have HA := Lib.hid hcA
  have HBc := Lib.hid hcB
  have HZ := Lib.hid hrz
  have hw1 : IntKind.i64.wrap ((i : Int) + 1) = (i : Int) + 1 := by rw [IntKind.wrap_i64]; omega
  have hw2 : IntKind.i64.wrap ((n : Int) + 1) = (n : Int) + 1 := by rw [IntKind.wrap_i64]; omega
  have hw3 : IntKind.i64.wrap ((n : Int) + 1 - (i : Int)) = (n : Int) + 1 - (i : Int) := by rw [IntKind.wrap_i64]; omega
  have hn0 : ((i : Int) == (n : Int)) = false := by simp; omega
  have hn1 : (c : Int) < (n : Int) + 1 := by omega
  have hb1 : (0 : Int) ≤ (i : Int) + 1 := by omega
  have htn : ((i : Int) + 1).toNat = i + 1 := by omega
  have hin : i ≤ n := by omega
  have hic : i ≤ c := by omega
  have hb3 : (i : Int) ≤ (n : Int) := by omega
  have hGi : ¬ G = i := by omega
  have hGi1 : ¬ G = i + 1 := by omega
  have hci : ¬ c = i := by omega
  have mixed : Tryz.prog.follows Departure.mixedOrders = true := by kernel_rfl
  clear hkk hik hold hrz hcpA hcpB hE1 hE2 hF1 hF2 hcA hcB hN hM1 hB1 hROW hRs hRt hB hM hdrop htake h2 h3 hdl hfl hcr hr5 h1 hy1 hcs hsz
  go_enter Tryz.func75, Tryz.ntmps75
  go_wp2_with (at_builtin; refine Lib.wpList_append_run _ rfl _ _ _ _ rfl _ _ rfl rfl _ _ (HZ.out _) ?_)
  rw [HA.out _ _, Result.andThen_ok]
  go_wp2_with fail
  go_region_law_o (refine step_copy_runI rfl _ _ 55 55 rfl (.slice (some ⟨w.heap.size, (i + 1), none⟩) (n + 1 - (i + 1)) (G - (i + 1))) (.slice (some ⟨g, i, none⟩) (n - i) (c - i)) (by simp [Act.eval, Act.put]; try rfl) (by simp [Act.eval, Act.put]; try rfl) (HBc.out 3 (G - (i + 1)) (c - i)) ?_)
  go_wp2
  go_ret
  exact ⟨_, _, rfl, rfl, hGn, hGm, HRs.out, HRt.out⟩

end Go.Proofs.YtlekfpeonehggaaGreatDoor
end
