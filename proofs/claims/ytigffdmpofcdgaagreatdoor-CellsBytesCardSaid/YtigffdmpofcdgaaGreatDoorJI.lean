/- slices.Insert and slices.Delete at rows. slices.Insert of one row, whole. slices.Delete of one row. slices.Clone at rows. -/
import Derived.Test.YtigffdmpofcdgaaGreatDoorJA
import Derived.Test.YtigffdmpofcdgaaGreatDoorChecked
import Derived.WalkKit
import Derived.Lib.Hide
import Derived.Laws.Externs
import Derived.Deep.RegionLaw
import Derived.Shelf.RegionOpenPlain
import Derived.Shelf.Spec.SlicesInsert
import Derived.Deep.DeepCutAuto
section
set_option linter.unusedVariables false
set_option maxRecDepth 100000
namespace Go.Proofs.YtigffdmpofcdgaaGreatDoor
open Go.Proofs.BL Go.RowKit
set_option maxHeartbeats 4000000 in
/-- slices.Insert, one row, room: in place. -/
theorem insR_shift (g n c i m : Nat) (rows : List (List Value)) (cur : Array Value) (y : List Value) (w : World) (hi : i < n) (hroom : n + 1 ≤ c) (hc63 : c ≤ maxLen)
    (hB : Blk w g cur 61) (hcs : cur.size = c * 2) (hrl : rows.length = n) (hr5 : ∀ r ∈ rows, r.length = 2) (hcr : cur.toList.take (n * 2) = rows.flatten) (h1 : ∀ r ∈ rows, ∀ u ∈ r, u.oneCell' = true)
    (hM : Blk w m y.toArray 61) (hy : y.length = 2) (hy1 : ∀ u ∈ y, u.oneCell' = true) (hne : m ≠ g) :
    Calls Tryz.prog 58 #[.slice (some ⟨g, 0, none⟩) n c, .int .i64 i, .slice (some ⟨m, 0, none⟩) 1 1] w fun e w' =>
      e = .returned (.slice (some ⟨g, 0, none⟩) (n + 1) c) ∧ w' = (w.drew.setCells g ((i + 1) * 2) (rows.drop i).flatten).setCells g (i * 2) y := by
  have hsz : (Tryz.prog.info? 61).map (·.size) = some 2 := by kernel_rfl
  have hfl : ∀ l : List (List Value), (∀ r ∈ l, r.length = 2) → l.flatten.length = l.length * 2 := by
    intro l hl
    induction l with
    | nil => simp
    | cons x l ih => rw [List.flatten_cons, List.length_append, hl x (by simp), ih (fun r hr => hl r (by simp [hr])), List.length_cons, Nat.succ_mul]; omega
  have hdl : (rows.drop i).flatten.length = (n - i) * 2 := by rw [hfl _ (fun r hr => hr5 r (List.mem_of_mem_drop hr)), List.length_drop, hrl]
  have hdrop : (rows.drop i).flatten = rows.flatten.drop (i * 2) := by
    have h2 : rows.flatten = (rows.take i).flatten ++ (rows.drop i).flatten := by rw [← List.flatten_append, List.take_append_drop]
    have h3 : (rows.take i).flatten.length = i * 2 := by rw [hfl _ (fun r hr => hr5 r (List.mem_of_mem_take hr)), List.length_take, hrl, Nat.min_eq_left (by omega)]
    rw [h2, List.drop_left' h3]
  have hcell : ∀ j, j < c * 2 → w.cell? ⟨g, j, none⟩ = some (cur[j]!) := fun j hj => by rw [hB.cell, Array.getElem?_eq_getElem (by omega), getElem!_pos cur j (by omega)]
  have hov : ∀ lb cb, (callFunc 70 #[.slice (some ⟨m, 0, none⟩) 1 1, .slice (some ⟨g, (i + 1) * 2, none⟩) lb cb]).run Tryz.prog w = .ok (.value (.bool false)) w := fun lb cb => by
    rw [run_callFunc_extern Tryz.func70 (by kernel_rfl) (by kernel_rfl) (by kernel_rfl) (e := Extern.SlicesOverlaps.overlaps #[68, 68] #[4]) (by kernel_rfl),
      Lib.run_overlaps_apart w 68 4 61 Tryz.underlying68 2 (fun w => by first | exact Tryz.sizeOf61 w | kernel_rfl) ⟨m, 0, none⟩ ⟨g, (i + 1) * 2, none⟩ 1 1 lb cb hne 61 61 y.toArray.size cur.size (by rw [World.shape?, hM]) (by rw [World.shape?, hB]) (by rw [hcs]; omega) (hM.free 0) (hM.free _)]
    rfl
  have hcp1 : ∀ ty dc sc, (Builtin.copy_ #[68, 68] ty #[.slice (some ⟨g, (i + 1) * 2, none⟩) (n + 1 - (i + 1)) dc, .slice (some ⟨g, i * 2, none⟩) (n + 1 - i) sc]).run Tryz.prog w.drew = .ok (goInt (Nat.min (n + 1 - i) (n + 1 - (i + 1)))) (w.drew.setCells g ((i + 1) * 2) (rows.drop i).flatten) := fun ty dc sc =>
    run_copy_k w.drew _ _ ty 61 2 g ((i + 1) * 2) (n + 1 - (i + 1)) dc ⟨g, i * 2, none⟩ (n + 1 - i) sc (rows.drop i).flatten Tryz.underlying68 hsz (by rw [hdl]; congr 1; simp only [Nat.min_def]; split <;> omega)
      (fun j v hj => by
        rw [Addr.add_lit]
        rw [hdrop, List.getElem?_drop, ← hcr, List.getElem?_take] at hj
        split at hj
        · rw [Array.getElem?_toList] at hj
          exact (hB.cell _).trans hj
        · cases hj)
      (fun j hj => by
        rw [hdl] at hj
        have h6 : (i + 1) * 2 + (n - i) * 2 = (n + 1) * 2 := by omega
        have h7 := Nat.mul_le_mul_right 2 hroom
        show (w.cell? _).isSome = true
        rw [hcell _ (by omega)]
        rfl)
      (fun j hj => hB.free _) (fun v hv => by obtain ⟨r, hr, hu⟩ := List.mem_flatten.1 hv; exact h1 r (List.mem_of_mem_drop hr) v hu)
  obtain ⟨W1, hW1⟩ : ∃ W1, W1 = w.drew.setCells g ((i + 1) * 2) (rows.drop i).flatten := ⟨_, rfl⟩
  have hB1 : Blk W1 g (layA cur ((i + 1) * 2) (rows.drop i).flatten) 61 := by rw [hW1]; exact setCells_blk _ _ _ _ hB
  have hM1 : Blk W1 m y.toArray 61 := by rw [hW1]; exact Blk.far_cells (w := w.drew) hM hne _ _
  have hcp2 : ∀ ty dc, (Builtin.copy_ #[68, 68] ty #[.slice (some ⟨g, i * 2, none⟩) (n + 1 - i) dc, .slice (some ⟨m, 0, none⟩) 1 1]).run Tryz.prog W1 = .ok (goInt (Nat.min 1 (n + 1 - i))) (W1.setCells g (i * 2) y) := fun ty dc =>
    run_copy_k W1 _ _ ty 61 2 g (i * 2) (n + 1 - i) dc ⟨m, 0, none⟩ 1 1 y Tryz.underlying68 hsz (by rw [hy, show Nat.min 1 (n + 1 - i) = 1 from by simp only [Nat.min_def]; split <;> omega])
      (fun j v hj => by
        rw [Addr.add_lit, Nat.zero_add]
        exact (hM1.cell j).trans (by simpa using hj))
      (fun j hj => by
        rw [hB1.cell, Array.getElem?_eq_getElem (by rw [layA_size]; rw [hy] at hj; have := Nat.mul_le_mul_right 2 (show i + 1 ≤ c by omega); omega)]; rfl)
      (fun j hj => hB1.free _) hy1
  have hw1 : IntKind.i64.wrap ((i : Int) + 1) = (i : Int) + 1 := by rw [IntKind.wrap_i64]; unfold maxLen at hc63; omega
  have hw2 : IntKind.i64.wrap ((n : Int) + 1) = (n : Int) + 1 := by rw [IntKind.wrap_i64]; unfold maxLen at hc63; omega
  have hn0 : ((i : Int) == (n : Int)) = false := by simp; omega
  have hn1 : ¬ ((c : Int) < (n : Int) + 1) := by omega
  have hc0 : ¬ c = i + 1 := by omega
  have hc1 : ¬ c = i := by omega
  have mixed : Tryz.prog.follows Departure.mixedOrders = true := by kernel_rfl
  have hb1 : (0 : Int) ≤ (i : Int) + 1 := by omega
  have htn : ((i : Int) + 1).toNat = i + 1 := by omega
  have hin : i ≤ n := by omega
  have hb3 : (i : Int) ≤ (n : Int) + 1 := by omega
  rw [← hW1] at hcp1
  have X := Lib.hid hW1
  have HC1 := Lib.hid hcp1
  have HC2 := Lib.hid hcp2
  have HB := Lib.hid hB
  have HM := Lib.hid hM
  clear hW1 hcell hB1 hM1 hB hM hdrop hdl hfl hcr hr5 h1 hy1 hcs hsz hcp1 hcp2
  go_enter Tryz.func58, Tryz.ntmps58
  go_wp2_with (simp only [hov])
  go_region_law_o (refine step_copy_runI rfl _ _ 68 68 rfl _ _ (by simp [Act.eval, Act.put]; rfl) (by simp [Act.eval, Act.put]; rfl) (HC1.out _ _ _) ?_)
  go_wp2_with fail
  rw [HC2.out _ _, Result.andThen_ok]
  go_wp2
  go_ret
  exact ⟨rfl, by rw [X.out]⟩

set_option maxHeartbeats 4000000 in
/-- slices.Insert, one row, no room: a new row. -/
theorem insR_grow (g n c i m : Nat) (rows : List (List Value)) (cur : Array Value) (y : List Value) (w : World) (hi : i < n) (hnc : n ≤ c) (hroom : c < n + 1) (hbig : (n + 1) * 24 ≤ 140737488355328)
    (hB : Blk w g cur 61) (hcs : cur.size = c * 2) (hrl : rows.length = n) (hr5 : ∀ r ∈ rows, r.length = 2) (hcr : cur.toList.take (n * 2) = rows.flatten) (h1 : ∀ r ∈ rows, ∀ u ∈ r, u.oneCell' = true)
    (hM : Blk w m y.toArray 61) (hy : y.length = 2) (hy1 : ∀ u ∈ y, u.oneCell' = true) (hne : m ≠ g) :
    Calls Tryz.prog 58 #[.slice (some ⟨g, 0, none⟩) n c, .int .i64 i, .slice (some ⟨m, 0, none⟩) 1 1] w fun e w' =>
      ∃ G ROW, e = .returned (.slice (some ⟨w.heap.size, 0, none⟩) (n + 1) G) ∧ w' = (((w.alloc (.cells ROW 61)).drew.setCells w.heap.size (i * 2) y).drew).setCells w.heap.size ((i + 1) * 2) (rows.drop i).flatten ∧
        n + 1 ≤ G ∧ G ≤ maxLen ∧ ROW.size = G * 2 ∧ ROW.toList.take (i * 2) = (rows.take i).flatten := by
  obtain ⟨i0, hi0, hzz⟩ := Option.map_eq_some_iff.1 (show (Tryz.prog.info? 61).map (fun i => (i.zero, i.size, i.bytes)) = some (some (.agg #[.string ByteArray.empty, .int .i64 0] : Value), 2, 24) from by kernel_rfl)
  simp only [Prod.mk.injEq] at hzz
  obtain ⟨hz0, hzs, hzb⟩ := hzz
  have hsz : (Tryz.prog.info? 61).map (·.size) = some 2 := by rw [hi0]; simp [hzs]
  have hfl : ∀ l : List (List Value), (∀ r ∈ l, r.length = 2) → l.flatten.length = l.length * 2 := by
    intro l hl
    induction l with
    | nil => simp
    | cons x l ih => rw [List.flatten_cons, List.length_append, hl x (by simp), ih (fun r hr => hl r (by simp [hr])), List.length_cons, Nat.succ_mul]; omega
  have hdl : (rows.drop i).flatten.length = (n - i) * 2 := by rw [hfl _ (fun r hr => hr5 r (List.mem_of_mem_drop hr)), List.length_drop, hrl]
  have h3 : (rows.take i).flatten.length = i * 2 := by rw [hfl _ (fun r hr => hr5 r (List.mem_of_mem_take hr)), List.length_take, hrl, Nat.min_eq_left (by omega)]
  have h2 : rows.flatten = (rows.take i).flatten ++ (rows.drop i).flatten := by rw [← List.flatten_append, List.take_append_drop]
  have hdrop : (rows.drop i).flatten = rows.flatten.drop (i * 2) := by rw [h2, List.drop_left' h3]
  have htake : (rows.take i).flatten = rows.flatten.take (i * 2) := by rw [h2, List.take_left' h3]
  have hold : (Builtin.firstCells i0.size i (.slice (some ⟨g, 0, none⟩) i c)).run Tryz.prog w.drew = .ok (rows.take i).flatten.toArray w.drew := by
    rw [hzs]
    exact run_firstCells_some w.drew 2 i ⟨g, 0, none⟩ i c (rows.take i).flatten h3 (fun j v hj => by
      rw [Addr.add_lit, Nat.zero_add]
      rw [htake, List.getElem?_take] at hj
      split at hj
      · rw [← hcr, List.getElem?_take] at hj
        split at hj
        · rw [Array.getElem?_toList] at hj
          exact (hB.cell _).trans hj
        · cases hj
      · cases hj)
  have hik : i + (n + 1 - i) = n + 1 := by omega
  have hkk : (n : Int) + 1 - (i : Int) = ((n + 1 - i : Nat) : Int) := by omega
  have hrz : ∀ ty, (Builtin.append_ #[68, 3] ty #[.slice (some ⟨g, 0, none⟩) i c, .int .i64 ((n : Int) + 1 - (i : Int))]).run Tryz.prog w =
      .ok (.slice (some ⟨w.heap.size, 0, none⟩) (n + 1) (grownCap w (n + 1) c 61)) (w.drew.alloc (.cells ((rows.take i).flatten.toArray ++ Builtin.zeroCells (.agg #[.string ByteArray.empty, .int .i64 0] : Value).cells (n + 1 - i) ++ Builtin.zeroCells (.agg #[.string ByteArray.empty, .int .i64 0] : Value).cells (grownCap w (n + 1) c 61 - (n + 1))) 61)) := fun ty => by
    have h := Lib.run_append_grow_zeros w 68 3 ty 61 i0 _ .i64 .i64 Tryz.underlying68 Tryz.underlying3 hi0 hz0 (some ⟨g, 0, none⟩) i c (rows.take i).flatten hold (n + 1 - i) (by omega) (by omega) (by omega) (by omega) (by rw [hzb]; omega) (by rw [hzb, hik]; exact growslice_fits hroom hbig)
    rw [hik] at h
    rw [hkk]
    exact h
  have hGn : n + 1 ≤ grownCap w (n + 1) c 61 := grownCap_ge w _ _ _
  have hGm : grownCap w (n + 1) c 61 ≤ maxLen := grownCap_le_maxLen w (n + 1) c 61 (by unfold maxLen; omega)
  generalize grownCap w (n + 1) c 61 = G at hrz hGn hGm
  obtain ⟨ROW, hROW⟩ : ∃ ROW : Array Value, ROW = (rows.take i).flatten.toArray ++ Builtin.zeroCells (.agg #[.string ByteArray.empty, .int .i64 0] : Value).cells (n + 1 - i) ++ Builtin.zeroCells (.agg #[.string ByteArray.empty, .int .i64 0] : Value).cells (G - (n + 1)) := ⟨_, rfl⟩
  rw [← hROW] at hrz
  have hRs : ROW.size = G * 2 := by
    have hzc : ∀ k, (Builtin.zeroCells (.agg #[.string ByteArray.empty, .int .i64 0] : Value).cells k).size = k * 2 := fun k => by simp [Builtin.zeroCells, Value.cells]
    rw [hROW, Array.size_append, Array.size_append, hzc, hzc, List.size_toArray, h3]
    omega
  have hRt : ROW.toList.take (i * 2) = (rows.take i).flatten := by
    rw [hROW, Array.append_assoc, Array.toList_append, List.take_left' (by simpa using h3)]
  have HRs := Lib.hid hRs
  have HRt := Lib.hid hRt
  have hblt := hB.lt
  have hmlt := hM.lt
  obtain ⟨W1, hW1⟩ : ∃ W1, W1 = w.drew.alloc (.cells ROW 61) := ⟨_, rfl⟩
  have hN : Blk W1 w.heap.size ROW 61 := by rw [hW1]; exact Blk.new w.drew ROW 61
  have hM1 : Blk W1 m y.toArray 61 := by rw [hW1]; exact Blk.alloc (w := w.drew) hM _
  have hB1 : Blk W1 g cur 61 := by rw [hW1]; exact Blk.alloc (w := w.drew) hB _
  have hmN : m ≠ w.heap.size := by omega
  have hgN : g ≠ w.heap.size := by omega
  have hcpA : ∀ (W : World), (∀ x, W.cell? x = W1.cell? x) → (∀ x, W.frozen? x = W1.frozen? x) → ∀ ty dc, (Builtin.copy_ #[68, 68] ty #[.slice (some ⟨w.heap.size, i * 2, none⟩) (n + 1 - i) dc, .slice (some ⟨m, 0, none⟩) 1 1]).run Tryz.prog W = .ok (goInt (Nat.min 1 (n + 1 - i))) (W.setCells w.heap.size (i * 2) y) := fun W hWc hWf ty dc =>
    run_copy_k W _ _ ty 61 2 w.heap.size (i * 2) (n + 1 - i) dc ⟨m, 0, none⟩ 1 1 y Tryz.underlying68 hsz (by rw [hy, show Nat.min 1 (n + 1 - i) = 1 from by simp only [Nat.min_def]; split <;> omega])
      (fun j v hj => by rw [Addr.add_lit, Nat.zero_add, hWc]; exact (hM1.cell j).trans (by simpa using hj))
      (fun j hj => by
        rw [hWc, hN.cell, Array.getElem?_eq_getElem (by rw [hRs]; rw [hy] at hj; have := Nat.mul_le_mul_right 2 (show i + 1 ≤ G by omega); omega)]; rfl)
      (fun j hj => by rw [hWf]; exact hN.free _) hy1
  have hcpB : ∀ (W : World), (∀ x, W.cell? x = (W1.setCells w.heap.size (i * 2) y).cell? x) → (∀ x, W.frozen? x = (W1.setCells w.heap.size (i * 2) y).frozen? x) → ∀ ty dc sc, (Builtin.copy_ #[68, 68] ty #[.slice (some ⟨w.heap.size, (i + 1) * 2, none⟩) (n + 1 - (i + 1)) dc, .slice (some ⟨g, i * 2, none⟩) (n - i) sc]).run Tryz.prog W = .ok (goInt (Nat.min (n - i) (n + 1 - (i + 1)))) (W.setCells w.heap.size ((i + 1) * 2) (rows.drop i).flatten) := fun W hWc hWf ty dc sc => by
    have hB2 : Blk (W1.setCells w.heap.size (i * 2) y) g cur 61 := hB1.far_cells hgN _ _
    have hN2 := setCells_blk y _ (i * 2) _ hN
    exact run_copy_k W _ _ ty 61 2 w.heap.size ((i + 1) * 2) (n + 1 - (i + 1)) dc ⟨g, i * 2, none⟩ (n - i) sc (rows.drop i).flatten Tryz.underlying68 hsz (by rw [hdl]; congr 1; simp only [Nat.min_def]; split <;> omega)
      (fun j v hj => by
        rw [Addr.add_lit, hWc]
        rw [hdrop, List.getElem?_drop, ← hcr, List.getElem?_take] at hj
        split at hj
        · rw [Array.getElem?_toList] at hj
          exact (hB2.cell _).trans hj
        · cases hj)
      (fun j hj => by
        rw [hdl] at hj
        have h6 : (i + 1) * 2 + (n - i) * 2 = (n + 1) * 2 := by omega
        have h7 := Nat.mul_le_mul_right 2 hGn
        rw [hWc, hN2.cell, Array.getElem?_eq_getElem (by rw [layA_size, hRs]; omega)]
        rfl)
      (fun j hj => by rw [hWf]; exact hN2.free _) (fun v hv => by obtain ⟨r, hr, hu⟩ := List.mem_flatten.1 hv; exact h1 r (List.mem_of_mem_drop hr) v hu)
  subst hW1
  have hE1 : ∀ x, ((w.alloc (.cells ROW 61)).drew).cell? x = (w.drew.alloc (.cells ROW 61)).cell? x := fun x => rfl
  have hE2 : ∀ x, ((w.alloc (.cells ROW 61)).drew).frozen? x = (w.drew.alloc (.cells ROW 61)).frozen? x := fun x => rfl
  have hF1 : ∀ x, (((w.alloc (.cells ROW 61)).drew.setCells w.heap.size (i * 2) y).drew).cell? x = ((w.drew.alloc (.cells ROW 61)).setCells w.heap.size (i * 2) y).cell? x := fun x => rfl
  have hF2 : ∀ x, (((w.alloc (.cells ROW 61)).drew.setCells w.heap.size (i * 2) y).drew).frozen? x = ((w.drew.alloc (.cells ROW 61)).setCells w.heap.size (i * 2) y).frozen? x := fun x => rfl
  have hcA := hcpA _ hE1 hE2
  have hcB := hcpB _ hF1 hF2
  have HA := Lib.hid hcA
  have HBc := Lib.hid hcB
  have HZ := Lib.hid hrz
  have hw1 : IntKind.i64.wrap ((i : Int) + 1) = (i : Int) + 1 := by rw [IntKind.wrap_i64]; omega
  have hw2 : IntKind.i64.wrap ((n : Int) + 1) = (n : Int) + 1 := by rw [IntKind.wrap_i64]; omega
  have hw3 : IntKind.i64.wrap ((n : Int) + 1 - (i : Int)) = (n : Int) + 1 - (i : Int) := by rw [IntKind.wrap_i64]; omega
  have hn0 : ((i : Int) == (n : Int)) = false := by simp; omega
  have hn1 : (c : Int) < (n : Int) + 1 := by omega
  have hb1 : (0 : Int) ≤ (i : Int) + 1 := by omega
  have htn : ((i : Int) + 1).toNat = i + 1 := by omega
  have hin : i ≤ n := by omega
  have hic : i ≤ c := by omega
  have hb3 : (i : Int) ≤ (n : Int) := by omega
  have hGi : ¬ G = i := by omega
  have hGi1 : ¬ G = i + 1 := by omega
  have hci : ¬ c = i := by omega
  have mixed : Tryz.prog.follows Departure.mixedOrders = true := by kernel_rfl
  clear hkk hik hold hrz hcpA hcpB hE1 hE2 hF1 hF2 hcA hcB hN hM1 hB1 hROW hRs hRt hB hM hdrop htake h2 h3 hdl hfl hcr hr5 h1 hy1 hcs hsz
  go_enter Tryz.func58, Tryz.ntmps58
  go_wp2_with (at_builtin; refine Lib.wpList_append_run _ rfl _ _ _ _ rfl _ _ rfl rfl _ _ (HZ.out _) ?_)
  rw [HA.out _ _, Result.andThen_ok]
  go_wp2_with fail
  go_region_law_o (refine step_copy_runI rfl _ _ 68 68 rfl (.slice (some ⟨w.heap.size, (i + 1) * 2, none⟩) (n + 1 - (i + 1)) (G - (i + 1))) (.slice (some ⟨g, i * 2, none⟩) (n - i) (c - i)) (by simp [Act.eval, Act.put]; try rfl) (by simp [Act.eval, Act.put]; try rfl) (HBc.out 3 (G - (i + 1)) (c - i)) ?_)
  go_wp2
  go_ret
  exact ⟨_, _, rfl, rfl, hGn, hGm, HRs.out, HRt.out⟩

end Go.Proofs.YtigffdmpofcdgaaGreatDoor
end

section
set_option linter.unusedVariables false
set_option maxRecDepth 100000
namespace Go.Proofs.YtigffdmpofcdgaaGreatDoor
open Go.Proofs.BL Go.RowKit
/-- slices.Insert of one row into a row of one's own. -/
def InsRPost (base : Nat) (v : Value) (rows : List (List Value)) (w : World) (e : Ending) (w' : World) : Prop :=
  ∃ v', e = .returned v' ∧ Own w' base 61 2 v' rows ∧ Fr (fun k => v.ownBlock = some k) w w' ∧ ∀ k, v'.ownBlock = some k → v.ownBlock = some k ∨ w.heap.size ≤ k
set_option maxHeartbeats 4000000 in
theorem insR_own (base : Nat) (v : Value) (rows : List (List Value)) (i m : Nat) (y : List Value) (w : World) (hO : Own w base 61 2 v rows) (hbase : base ≤ w.heap.size) (hi : i ≤ rows.length) (h1 : ∀ r ∈ rows, ∀ u ∈ r, u.oneCell' = true)
    (hM : Blk w m y.toArray 61) (hy : y.length = 2) (hy1 : ∀ u ∈ y, u.oneCell' = true) (hne : v.ownBlock ≠ some m) (hbig : (rows.length + 1) * 24 ≤ 140737488355328) :
    Calls Tryz.prog 58 #[v, .int .i64 i, .slice (some ⟨m, 0, none⟩) 1 1] w (InsRPost base v (rows.take i ++ y :: rows.drop i) w) := by
  by_cases hin : i = rows.length
  · subst hin
    have hz : rows.take rows.length ++ y :: rows.drop rows.length = rows ++ [y] := by simp
    rw [hz]
    have hMr : RowsAt w 2 (some ⟨m, 0, none⟩) [y] := fun j r hj => by
      cases j with
      | succ j => simp at hj
      | zero =>
        simp at hj
        subst hj
        exact ⟨m, 0, rfl, fun q u hq => by
          rw [show 0 + 0 * 2 + q = q from by omega]
          exact (hM.cell q).trans (by simpa using hq)⟩
    have HM := Lib.hid hMr
    have HY := Lib.hid (show ∀ r, r ∈ [y] → ∀ u ∈ r, u.oneCell' = true from fun r hr => by simp at hr; rw [hr]; exact hy1)
    have HY5 := Lib.hid (show ∀ r, r ∈ [y] → r.length = 2 from fun r hr => by simp at hr; rw [hr]; exact hy)
    have Hsn := Lib.hid (show (some ⟨m, 0, none⟩ : Option Addr) = none → 1 = 0 from fun h => by cases h)
    have HInfo := Lib.hid (show (Tryz.prog.info? 61).map (fun i => (i.zero, i.size, i.bytes)) = some (some (.agg #[.string ByteArray.empty, .int .i64 0] : Value), 2, 24) from by kernel_rfl)
    have HZc := Lib.hid (show ((.agg #[.string ByteArray.empty, .int .i64 0] : Value)).cells.size = 2 from by kernel_rfl)
    clear hM hMr h1 hz hy1 hi hne
    rcases hO.1.2 with ⟨rfl, hn⟩ | ⟨g, c, cur, rfl, _, _, hcap, hmx, _, _⟩
    · obtain rfl := List.eq_nil_of_length_eq_zero hn
      have HO := Lib.hid hO
      clear hO hn
      have HBig := Lib.hid (show (([] : List (List Value)).length + [y].length) * 24 ≤ 140737488355328 from hbig)
      clear hbig
      refine via fun Q hQ => ?_
      go_enter Tryz.func58, Tryz.ntmps58
      go_wp2_with (at_builtin; go_loud (refine appendNL (W := w) base 61 2 24 (.agg #[.string ByteArray.empty, .int .i64 0] : Value) rfl (.tmp 23) (.tmp 24) 68 rfl Tryz.underlying68 HInfo.out HZc.out (by decide) (by decide) (.slice none 0 0) [] [y] rfl (some ⟨m, 0, none⟩) 1 1 rfl rfl Hsn.out HM.out HY5.out HY.out HO.out hbase HBig.out ?_); intro v1 w1 ho1 hf1 hl1)
      have H1 := Lib.hid ho1
      have H2 := Lib.hid hf1
      have H3 := Lib.hid hl1
      clear ho1 hf1 hl1
      exact ⟨v1, rfl, H1.out, H2.out, H3.out⟩

    · have HO := Lib.hid hO
      clear hO
      generalize hnr : rows.length = n at *
      have HBig := Lib.hid (show (rows.length + [y].length) * 24 ≤ 140737488355328 from by rw [hnr]; exact hbig)
      clear hnr hbig
      by_cases hcn : c = n
      · subst hcn
        refine via fun Q hQ => ?_
        go_enter Tryz.func58, Tryz.ntmps58
        go_wp2_with (at_builtin; go_loud (refine appendNL (W := w) base 61 2 24 (.agg #[.string ByteArray.empty, .int .i64 0] : Value) rfl (.tmp 23) (.tmp 24) 68 rfl Tryz.underlying68 HInfo.out HZc.out (by decide) (by decide) (.slice (some ⟨g, 0, none⟩) c c) rows [y] rfl (some ⟨m, 0, none⟩) 1 1 rfl rfl Hsn.out HM.out HY5.out HY.out HO.out hbase HBig.out ?_); intro v1 w1 ho1 hf1 hl1)
        have H1 := Lib.hid ho1
        have H2 := Lib.hid hf1
        have H3 := Lib.hid hl1
        clear ho1 hf1 hl1
        exact ⟨v1, rfl, H1.out, H2.out, H3.out⟩

      · have h63 : c ≤ 9223372036854775807 := by unfold maxLen at hmx; omega
        refine via fun Q hQ => ?_
        go_enter Tryz.func58, Tryz.ntmps58
        go_wp2_with (at_builtin; go_loud (refine appendNL (W := w) base 61 2 24 (.agg #[.string ByteArray.empty, .int .i64 0] : Value) rfl (.tmp 23) (.tmp 24) 68 rfl Tryz.underlying68 HInfo.out HZc.out (by decide) (by decide) (.slice (some ⟨g, 0, none⟩) n c) rows [y] rfl (some ⟨m, 0, none⟩) 1 1 rfl rfl Hsn.out HM.out HY5.out HY.out HO.out hbase HBig.out ?_); intro v1 w1 ho1 hf1 hl1)
        have H1 := Lib.hid ho1
        have H2 := Lib.hid hf1
        have H3 := Lib.hid hl1
        clear ho1 hf1 hl1
        exact ⟨v1, rfl, H1.out, H2.out, H3.out⟩

  · have hlt : i < rows.length := by omega
    rcases hO.1.2 with ⟨_, hn⟩ | ⟨g, cap, cur, rfl, hbg, hB, hcap, hmx, hcs, hct⟩
    · omega
    · have hmg : m ≠ g := fun e => hne (by subst e; rfl)
      have hfl : ∀ l : List (List Value), (∀ r ∈ l, r.length = 2) → l.flatten.length = l.length * 2 := by
        intro l hl
        induction l with
        | nil => simp
        | cons x l ih => rw [List.flatten_cons, List.length_append, hl x (by simp), ih (fun r hr => hl r (by simp [hr])), List.length_cons, Nat.succ_mul]; omega
      have ht : (rows.take i).flatten.length = i * 2 := by rw [hfl _ (fun r hr => hO.2 r (List.mem_of_mem_take hr)), List.length_take, Nat.min_eq_left (by omega)]
      have hd : (rows.drop i).flatten.length = (rows.length - i) * 2 := by rw [hfl _ (fun r hr => hO.2 r (List.mem_of_mem_drop hr)), List.length_drop]
      have hnl : (rows.take i ++ y :: rows.drop i).length = rows.length + 1 := by rw [List.length_append, List.length_cons, List.length_take, List.length_drop]; omega
      have hsz : ∀ r, r ∈ rows.take i ++ y :: rows.drop i → r.length = 2 := by
        intro r hr
        rcases List.mem_append.1 hr with hr | hr
        · exact hO.2 r (List.mem_of_mem_take hr)
        · rcases List.mem_cons.1 hr with rfl | hr
          · exact hy
          · exact hO.2 r (List.mem_of_mem_drop hr)
      have hff : (rows.take i ++ y :: rows.drop i).flatten = (rows.take i).flatten ++ y ++ (rows.drop i).flatten := by simp
      have htk : cur.toList.take (i * 2) = (rows.take i).flatten := by
        have h2 : rows.flatten = (rows.take i).flatten ++ (rows.drop i).flatten := by rw [← List.flatten_append, List.take_append_drop]
        have h4 := congrArg (List.take (i * 2)) hct
        rw [List.take_take, Nat.min_eq_left (by omega), h2, List.take_left' ht] at h4
        exact h4
      by_cases hr : rows.length + 1 ≤ cap
      · refine (insR_shift g rows.length cap i m rows cur y w hlt hr hmx hB hcs rfl hO.2 hct h1 hM hy hy1 hmg).mono ?_
        rintro e w' ⟨rfl, rfl⟩
        have hB1 := setCells_blk y _ (i * 2) _ (setCells_blk (rows.drop i).flatten _ ((i + 1) * 2) w.drew hB)
        refine ⟨_, rfl, ⟨⟨by rw [hfl _ hsz], .inr ⟨g, cap, _, by rw [hnl], hbg, hB1, by rw [hnl]; exact hr, hmx, by rw [layA_size, layA_size, hcs], ?_⟩⟩, hsz⟩, ?_, fun k hk => .inl hk⟩
        · rw [hnl, hff]
          have h7 := Nat.mul_le_mul_right 2 hr
          have h5 := layA_second cur (rows.take i).flatten y (rows.drop i).flatten (by rw [ht]; exact htk) (by rw [ht, hd, hy, hcs]; omega)
          rw [ht, hd, hy, show i * 2 + 2 + (rows.length - i) * 2 = (rows.length + 1) * 2 from by omega, show i * 2 + 2 = (i + 1) * 2 from by omega] at h5
          exact h5
        · exact (((Fr.refl _ w).drew).trans (setCells_fr (S := fun k => (Value.slice (some ⟨g, 0, none⟩) rows.length cap).ownBlock = some k) rfl _ _ _) (fun _ _ h => h)).trans (setCells_fr (S := fun k => (Value.slice (some ⟨g, 0, none⟩) rows.length cap).ownBlock = some k) rfl _ _ _) (fun _ _ h => h)
      · refine (insR_grow g rows.length cap i m rows cur y w hlt hcap (by omega) hbig hB hcs rfl hO.2 hct h1 hM hy hy1 hmg).mono ?_
        rintro e w' ⟨G, ROW, rfl, rfl, hG1, hG2, hRs, hRt⟩
        have hN0 : Blk ((w.alloc (.cells ROW 61)).drew) w.heap.size ROW 61 := Blk.new w ROW 61
        have hN1 : Blk (((w.alloc (.cells ROW 61)).drew.setCells w.heap.size (i * 2) y).drew) w.heap.size _ 61 := setCells_blk y _ (i * 2) _ hN0
        have hN2 := setCells_blk (rows.drop i).flatten _ ((i + 1) * 2) _ hN1
        refine ⟨_, rfl, ⟨⟨by rw [hfl _ hsz], .inr ⟨w.heap.size, G, _, by rw [hnl], hbase, hN2, by rw [hnl]; exact hG1, hG2, by rw [layA_size, layA_size, hRs], ?_⟩⟩, hsz⟩, ?_, fun k hk => .inr (by
          simp only [Value.ownBlock, Option.some.injEq] at hk
          omega)⟩
        · rw [hnl, hff]
          have h7 := Nat.mul_le_mul_right 2 hG1
          have h5 := layA_first ROW (rows.take i).flatten y (rows.drop i).flatten (by rw [ht]; exact hRt) (by rw [ht, hd, hy, hRs]; omega)
          rw [ht, hd, hy, show i * 2 + 2 + (rows.length - i) * 2 = (rows.length + 1) * 2 from by omega, show i * 2 + 2 = (i + 1) * 2 from by omega] at h5
          exact h5
        · have hf0 : Fr none_ w (w.alloc (.cells ROW 61)).drew := ((Fr.refl none_ w).alloc _).drew
          have hf1 := setCells_fr (S := only w.heap.size) rfl y (i * 2) (w.alloc (.cells ROW 61)).drew
          have hf2 := setCells_fr (S := only w.heap.size) rfl (rows.drop i).flatten ((i + 1) * 2) (((w.alloc (.cells ROW 61)).drew.setCells w.heap.size (i * 2) y).drew)
          have hno : ∀ k, k < w.heap.size → only w.heap.size k → none_ k := fun k hk h => by cases h; omega
          exact ((hf0.trans hf1.drew hno).trans hf2 hno).mono (fun k _ h => h.elim)

end Go.Proofs.YtigffdmpofcdgaaGreatDoor
end

section
set_option linter.unusedVariables false
set_option maxRecDepth 100000
namespace Go.Proofs.YtigffdmpofcdgaaGreatDoor
open Go.Proofs.BL Go.RowKit
/-- slices.Delete of one row out of a row of one's own: in place. -/
def DelRPost (base : Nat) (v : Value) (rows : List (List Value)) (w : World) (e : Ending) (w' : World) : Prop :=
  ∃ v', e = .returned v' ∧ Own w' base 61 2 v' rows ∧ Fr (fun k => v.ownBlock = some k) w w' ∧ v'.ownBlock = v.ownBlock
set_option maxHeartbeats 4000000 in
theorem delR_own (base : Nat) (v : Value) (rows : List (List Value)) (i : Nat) (w : World) (hO : Own w base 61 2 v rows) (hi : i < rows.length) (h1 : ∀ r ∈ rows, ∀ u ∈ r, u.oneCell' = true) :
    Calls Tryz.prog 74 #[v, .int .i64 i, .int .i64 ((i : Int) + 1)] w (DelRPost base v (rows.eraseIdx i) w) := by
  rcases hO.1.2 with ⟨_, hn⟩ | ⟨g, c, cur, rfl, hbg, hB, hcap, hmx, hcs, hct⟩
  · omega
  have hfl : ∀ l : List (List Value), (∀ r ∈ l, r.length = 2) → l.flatten.length = l.length * 2 := by
    intro l hl
    induction l with
    | nil => simp
    | cons x l ih => rw [List.flatten_cons, List.length_append, hl x (by simp), ih (fun r hr => hl r (by simp [hr])), List.length_cons, Nat.succ_mul]; omega
  obtain ⟨n, hn⟩ : ∃ n, n = rows.length := ⟨_, rfl⟩
  have ht : (rows.take i).flatten.length = i * 2 := by rw [hfl _ (fun r hr => hO.2 r (List.mem_of_mem_take hr)), List.length_take, Nat.min_eq_left (by omega)]
  have hd : (rows.drop (i + 1)).flatten.length = (n - (i + 1)) * 2 := by rw [hfl _ (fun r hr => hO.2 r (List.mem_of_mem_drop hr)), List.length_drop, hn]
  have htk : cur.toList.take (i * 2) = (rows.take i).flatten := by
    have h2 : rows.flatten = (rows.take i).flatten ++ (rows.drop i).flatten := by rw [← List.flatten_append, List.take_append_drop]
    have h4 := congrArg (List.take (i * 2)) hct
    rw [List.take_take, Nat.min_eq_left (by omega), h2, List.take_left' ht] at h4
    exact h4
  have hdr : (rows.drop (i + 1)).flatten = (cur.toList.take (n * 2)).drop ((i + 1) * 2) := by
    have h2 : rows.flatten = (rows.take (i + 1)).flatten ++ (rows.drop (i + 1)).flatten := by rw [← List.flatten_append, List.take_append_drop]
    have h3 : (rows.take (i + 1)).flatten.length = (i + 1) * 2 := by rw [hfl _ (fun r hr => hO.2 r (List.mem_of_mem_take hr)), List.length_take, Nat.min_eq_left (by omega)]
    rw [hn, hct, h2, List.drop_left' h3]
  have hcell : ∀ j, j < c * 2 → w.cell? ⟨g, j, none⟩ = some (cur[j]!) := fun j hj => by rw [Blk.cell hB, Array.getElem?_eq_getElem (by omega), getElem!_pos cur j (by omega)]
  have hnc := Nat.mul_le_mul_right 2 hcap
  obtain ⟨i0, hi0, hzz⟩ := Option.map_eq_some_iff.1 (show (Tryz.prog.info? 61).map (fun i => (i.zero, i.size, i.bytes)) = some (some (.agg #[.string ByteArray.empty, .int .i64 0] : Value), 2, 24) from by kernel_rfl)
  simp only [Prod.mk.injEq] at hzz
  obtain ⟨hz0, hzs, hzb⟩ := hzz
  obtain ⟨AD, hAD, hsrc⟩ : ∃ AD : Addr, (if c = i + 1 then some (⟨g, 0, none⟩ : Addr) else some ⟨g, (i + 1) * 2, none⟩) = some AD ∧ Hid (∀ j u, (rows.drop (i + 1)).flatten[j]? = some u → w.drew.cell? (AD.add j) = some u) := by
    by_cases h : c = i + 1
    · refine ⟨⟨g, 0, none⟩, by simp [h], fun j u hu => ?_⟩
      have h0 : (rows.drop (i + 1)).flatten.length = 0 := by rw [hd]; omega
      rw [List.length_eq_zero_iff.1 h0] at hu
      simp at hu
    · refine ⟨⟨g, (i + 1) * 2, none⟩, by simp [h], fun j u hu => ?_⟩
      rw [Addr.add_lit]
      rw [hdr, List.getElem?_drop, List.getElem?_take] at hu
      split at hu
      · rw [Array.getElem?_toList] at hu
        exact (Blk.cell hB _).trans hu
      · cases hu
  have s1 : Hid ((rows.drop (i + 1)).flatten.length = (n - (i + 1)) * 2) := hd
  have s2 : Hid (∀ u ∈ (rows.drop (i + 1)).flatten, u.oneCell' = true) := fun v hv => by obtain ⟨r, hr, hu⟩ := List.mem_flatten.1 hv; exact h1 r (List.mem_of_mem_drop hr) v hu
  have s3 : Hid (∀ j, j < (rows.drop (i + 1)).flatten.length → (w.drew.cell? ⟨g, 0 + i * 2 + j, none⟩).isSome = true ∧ w.drew.frozen? ⟨g, 0 + i * 2 + j, none⟩ = false) := by
    intro j hj
    rw [hd] at hj
    refine ⟨?_, Blk.free hB _⟩
    show (w.cell? _).isSome = true
    rw [hcell _ (by omega)]
    rfl
  have s4 : Hid (i0.size = 2) := hzs
  obtain ⟨W1, hW1⟩ : ∃ W1, W1 = w.drew.setCells g (0 + i * 2) (rows.drop (i + 1)).flatten := ⟨_, rfl⟩
  have hB1 : Blk W1 g (layA cur (i * 2) (rows.drop (i + 1)).flatten) 61 := by rw [hW1, Nat.zero_add]; exact setCells_blk _ _ _ w.drew hB
  have hcl : ∀ ty, (Builtin.clear_ #[68] ty #[.slice (some ⟨g, (i + (n - (i + 1))) * 2, none⟩) (n - (i + (n - (i + 1)))) (c - (i + (n - (i + 1))))]).run Tryz.prog W1 = .ok (.tuple #[]) (W1.setCells g ((i + (n - (i + 1))) * 2) (List.replicate (n - (i + (n - (i + 1)))) ((.agg #[.string ByteArray.empty, .int .i64 0] : Value)).cells.toList).flatten) := fun ty =>
    run_clear_k W1 68 61 ty (.agg #[.string ByteArray.empty, .int .i64 0] : Value) Tryz.underlying68 (fun w => Tryz.zeroValue61 w) (by decide) (by decide) g _ _ _ (by omega)
      (fun j hj => by
        have hj' : j < (n - (i + (n - (i + 1)))) * 2 := hj
        rw [hB1.cell, Array.getElem?_eq_getElem (by rw [layA_size]; omega)]; rfl) (fun j hj => hB1.free _)
  have HCL := Lib.hid hcl
  have HW := Lib.hid hW1
  have HB1 := Lib.hid hB1
  have HFIN : Hid (DelRPost base (.slice (some ⟨g, 0, none⟩) n c) (rows.eraseIdx i) w (.returned (.slice (some ⟨g, 0, none⟩) (i + (n - (i + 1))) c)) (W1.setCells g ((i + (n - (i + 1))) * 2) (List.replicate (n - (i + (n - (i + 1)))) ((.agg #[.string ByteArray.empty, .int .i64 0] : Value)).cells.toList).flatten)) := by
    have hB2 := setCells_blk (List.replicate (n - (i + (n - (i + 1)))) ((.agg #[.string ByteArray.empty, .int .i64 0] : Value)).cells.toList).flatten _ ((i + (n - (i + 1))) * 2) W1 hB1
    have hel : (rows.eraseIdx i).length = i + (n - (i + 1)) := by rw [List.length_eraseIdx, if_pos hi]; omega
    have hsz : ∀ r, r ∈ rows.eraseIdx i → r.length = 2 := fun r hr => hO.2 r (List.mem_of_mem_eraseIdx hr)
    refine ⟨_, rfl, ⟨⟨by rw [hfl _ hsz], .inr ⟨g, c, _, by rw [hel], hbg, hB2, by rw [hel]; omega, hmx, by rw [layA_size, layA_size, hcs], ?_⟩⟩, hsz⟩, ?_, rfl⟩
    · have hzl : (List.replicate (n - (i + (n - (i + 1)))) ((.agg #[.string ByteArray.empty, .int .i64 0] : Value)).cells.toList).flatten.length = (n - (i + (n - (i + 1)))) * 2 := by simp [Value.cells]
      rw [hel, layA_list _ _ _ (by rw [layA_size, hzl]; omega), layA_list _ _ _ (by rw [hd]; omega), htk, hd]
      have he : rows.eraseIdx i = rows.take i ++ rows.drop (i + 1) := List.eraseIdx_eq_take_drop_succ _ _
      rw [he, List.flatten_append]
      have hlen : ((rows.take i).flatten ++ (rows.drop (i + 1)).flatten).length = (i + (n - (i + 1))) * 2 := by rw [List.length_append, ht, hd]; omega
      rw [List.take_left' hlen, List.append_assoc, List.take_left' hlen]
    · rw [hW1]
      exact (((Fr.refl _ w).drew).trans (setCells_fr (S := fun k => (Value.slice (some ⟨g, 0, none⟩) n c).ownBlock = some k) rfl _ _ _) (fun _ _ h => h)).trans (setCells_fr (S := fun k => (Value.slice (some ⟨g, 0, none⟩) n c).ownBlock = some k) rfl _ _ _) (fun _ _ h => h)
  rw [← hn] at hi hcap ⊢
  have mixed : Tryz.prog.follows Departure.mixedOrders = true := by kernel_rfl
  have hne : ((i : Int) == (i : Int) + 1) = false := by simp; omega
  have htn : ((i : Int) + 1).toNat = i + 1 := by omega
  have hb1 : (0 : Int) ≤ (i : Int) + 1 := by omega
  have hb2 : (i : Int) + 1 ≤ (n : Int) := by omega
  have hb3 : (i : Int) ≤ (i : Int) + 1 := by omega
  have hic : i ≤ c := by omega
  have hjc : i + 1 ≤ c := by omega
  clear hW1 hB1 hcl hcell hdr htk hd ht hfl hct hcs hB hO h1 hzs hzb hz0 hn
  refine via fun Q hQ => ?_
  go_enter Tryz.func74, Tryz.ntmps74
  go_wp2_with fail
  go_region_law_o (refine step_append_room rfl (.tmp 22) (.tmp 25) 68 rfl 61 i0 2 Tryz.underlying68 hi0 s4.out g 0 i c (by simp [Act.eval, Act.put]) AD (n - (i + 1)) (c - (i + 1)) (rows.drop (i + 1)).flatten (by simp [Act.eval, Act.put]; try exact hAD) s1.out hsrc.out s2.out (by omega) s3.out ?_; rw [← HW.out])
  go_wp2_with fail
  rw [HCL.out _, Result.andThen_ok]
  go_wp2
  exact HFIN.out

end Go.Proofs.YtigffdmpofcdgaaGreatDoor
end

section
set_option linter.unusedVariables false
set_option maxRecDepth 100000
namespace Go.Proofs.YtigffdmpofcdgaaGreatDoor
open Go.Proofs.BL Go.Proofs.Peel Go.RowKit
/-- slices.Clone of a row of one's own: a new row. -/
def ClRPost (rows : List (List Value)) (w : World) (e : Ending) (w' : World) : Prop := ∃ v', e = .returned v' ∧ Own w' w.heap.size 61 2 v' rows ∧ Below w.heap.size w w'
set_option maxHeartbeats 1000000 in
theorem clR_own (v : Value) (rows : List (List Value)) (w : World) (hO : Own w 0 61 2 v rows) (h1 : ∀ r ∈ rows, ∀ u ∈ r, u.oneCell' = true) (hbig : rows.length * 24 ≤ 140737488355328) :
    Calls Tryz.prog 53 #[v] w (ClRPost rows w) := by
  rcases hO.1.2 with ⟨rfl, hn⟩ | ⟨g, c, cur, rfl, _, _, hcap, hmx, _, _⟩
  · obtain rfl := List.eq_nil_of_length_eq_zero hn
    clear hO hn h1 hbig
    have hne := fun W (a : Option Addr) n c => Lib.run_eql_slice_nil (P := Tryz.prog) W 68 61 a n c 0 0 Tryz.underlying68
    refine via fun Q hQ => ?_
    go_enter Tryz.func53, Tryz.ntmps53
    go_wp2
    exact ⟨_, rfl, Own.nil _ _ _ _, Below.refl _ _⟩
  · obtain ⟨_, _, e, _, _, hr⟩ := hO.slv'
    injection e with e _ _
    subst e
    have hal : Below w.heap.size w (w.alloc (.cells #[] 61)) := (Below.refl _ _).alloc (Nat.le_refl _) _
    have HRr := Lib.hid (hr.below hal)
    have HO2 := Lib.hid (Own.lit w 61 2 0 [] #[] w.heap.size (Nat.le_refl _) rfl (Nat.zero_le _) rfl (fun r h => by cases h) (by simp))
    have H5 := Lib.hid hO.2
    have H1 := Lib.hid h1
    have hb1 : w.heap.size ≤ (w.alloc (.cells #[] 61)).heap.size := hal.size
    have HBs := Lib.hid hb1
    have HA := Lib.hid hal
    have HBig := Lib.hid (show (([] : List (List Value)).length + rows.length) * 24 ≤ 140737488355328 from by simpa using hbig)
    have Hsn := Lib.hid (show (some ⟨g, 0, none⟩ : Option Addr) = none → c = 0 from fun h => by cases h)
    have HInfo := Lib.hid (show (Tryz.prog.info? 61).map (fun i => (i.zero, i.size, i.bytes)) = some (some (.agg #[.string ByteArray.empty, .int .i64 0] : Value), 2, 24) from by kernel_rfl)
    have HZc := Lib.hid (show ((.agg #[.string ByteArray.empty, .int .i64 0] : Value)).cells.size = 2 from by kernel_rfl)
    clear hO h1 hr hal hbig hb1
    have hne := fun W (a : Option Addr) n c => Lib.run_eql_slice_nil (P := Tryz.prog) W 68 61 a n c 0 0 Tryz.underlying68
    refine via fun Q hQ => ?_
    go_enter Tryz.func53, Tryz.ntmps53
    go_wp2_with (at_builtin; go_loud (refine appendNL (W := w.alloc (.cells #[] 61)) w.heap.size 61 2 24 (.agg #[.string ByteArray.empty, .int .i64 0] : Value) rfl (.tmp 5) (.tmp 6) 68 rfl Tryz.underlying68 HInfo.out HZc.out (by decide) (by decide) (.slice (some ⟨w.heap.size, 0, none⟩) 0 0) [] rows rfl (some ⟨g, 0, none⟩) rows.length c rfl rfl Hsn.out HRr.out H5.out H1.out HO2.out HBs.out HBig.out ?_); intro v1 w1 ho1 hf1 hl1)
    have hbf : Below w.heap.size w w1 := ((Fr.of_below (S := none_) HA.out).trans hf1 (fun i hi h => by
      simp only [Value.ownBlock, Option.some.injEq] at h
      omega)).below
    have HO1 := Lib.hid ho1
    have HB1 := Lib.hid hbf
    clear ho1 hf1 hl1 hbf
    exact ⟨v1, rfl, HO1.out, HB1.out⟩

end Go.Proofs.YtigffdmpofcdgaaGreatDoor
end
