/- Package page: fits, slices.Grow and Concat at rows. -/
import Derived.Test.YtlekfpeonehggaaGreatDoorJ27
import Derived.Lib.AppendZeros
section
set_option linter.unusedVariables false
set_option linter.unusedSimpArgs false
set_option maxRecDepth 100000
namespace Go.Proofs.YtlekfpeonehggaaGreatDoor
open Go.Proofs.BL Go.Proofs.Peel Go.RowKit Go.Proofs.Ky

def fitB (most : Int) (P : List (List Rw)) (a b : Int) : Bool := decide (0 ≤ a ∧ b < P.length ∧ ((P.getD a.toNat []).length : Int) + (P.getD b.toNat []).length ≤ most)
def FitPost (f : Bool) (w : World) (e : Ending) (w' : World) : Prop := e = .returned (.bool f) ∧ Below w.heap.size w w'
theorem stFits (p : Nat) (most n : Int) (L : Value) (vs : List Value) (P : List (List Rw)) (a b : Int) (w : World) (hF : StF w p most n L vs P) (h0 : -1 ≤ a) (h1 : a < P.length) (h2 : 0 ≤ b) (h3 : b ≤ P.length) (hl : P.flatten.length ≤ 1000000) (hpl : P.length ≤ 1000000) :
    Calls Tryz.prog 77 #[.pointer (some ⟨p, 0, none⟩), .int .i64 a, .int .i64 b] w (FitPost (fitB most P a b) w) := by
  refine via fun Q hQ => ?_
  obtain ⟨A, c, rfl, hc, hA, _⟩ := hF.leaves
  have c0 := hF.b.at_ 0 rfl
  have c1 := hF.b.at_ 1 rfl
  simp only [List.getElem_toArray, List.getElem_cons_succ, List.getElem_cons_zero] at c0 c1
  by_cases ha : 0 ≤ a
  · by_cases hb : b < P.length
    · obtain ⟨i, rfl⟩ : ∃ i : Nat, a = i := ⟨a.toNat, by omega⟩
      obtain ⟨j, rfl⟩ : ∃ j : Nat, b = j := ⟨b.toNat, by omega⟩
      have hi : i < P.length := by omega
      have hj : j < P.length := by omega
      have hr : fitB most P i j = decide (((P[i].length : Nat) : Int) + (P[j].length : Nat) ≤ most) := by
        unfold fitB
        rw [show ((i : Int)).toNat = i from rfl, show ((j : Int)).toNat = j from rfl, getD_at _ _ hi, getD_at _ _ hj]
        simp only [ha, hb, true_and]
      rw [hr] at hQ
      have hxi : P[i]? = some P[i] := List.getElem?_eq_getElem hi
      have hxj : P[j]? = some P[j] := List.getElem?_eq_getElem hj
      have hli := page_len (List.getElem_mem hi)
      have hlj := page_len (List.getElem_mem hj)
      generalize P[i] = r at *
      generalize P[j] = s at *
      obtain ⟨b, v, rfl, hv, k1, _, hO⟩ := hF.page hxi
      obtain ⟨b', u, e, hu, k2, _, hU⟩ := hF.page hxj
      injection e with e
      injection e with e
      subst e
      obtain ⟨A2, c2, rfl, _, _, _⟩ := hO.slv'
      obtain ⟨A3, c3, rfl, _, _, _⟩ := hU.slv'
      rw [rwR_len] at k1 k2
      clear hF hr hxi hxj hv hu hO hU hA
      generalize r.length = x at *
      generalize s.length = y at *
      generalize P.length = N at *
      have b1 : decide ((0 : Int) ≤ (i : Int)) = true := decide_eq_true ha
      have b2 : decide ((j : Int) < (N : Int)) = true := decide_eq_true hb
      have b3 : decide (j < N) = true := decide_eq_true hj
      have b4 : (i : Int) < (N : Int) := h1
      have b5 : IntKind.i64.wrap ((x : Int) + (y : Int)) = (x : Int) + (y : Int) := IntWalk.i64_in _ (by omega)
      go_enter Tryz.func77, Tryz.ntmps77
      go_wp2_with fail
      go_quiet (fail)
      all_goals
        have HB := Lib.hid (drew_below w nq)
        go_wp2_with fail
        exact ⟨rfl, HB.out⟩
    · have hr : fitB most P a b = false := decide_eq_false (fun h => hb h.2.1)
      rw [hr] at hQ
      obtain ⟨j, rfl⟩ : ∃ j : Nat, b = j := ⟨b.toNat, by omega⟩
      obtain ⟨i, rfl⟩ : ∃ i : Nat, a = i := ⟨a.toNat, by omega⟩
      clear hF hr hA
      generalize P.length = N at *
      have b1 : decide ((0 : Int) ≤ (i : Int)) = true := decide_eq_true ha
      have b2 : decide ((j : Int) < (N : Int)) = false := decide_eq_false hb
      have b3 : decide (j < N) = false := decide_eq_false (by omega)
      go_enter Tryz.func77, Tryz.ntmps77
      go_wp2_with fail
      go_quiet (fail)
      all_goals
        have HB := Lib.hid (drew_below w nq)
        go_wp2_with fail
        exact ⟨rfl, HB.out⟩
  · have hr : fitB most P a b = false := decide_eq_false (fun h => ha h.1)
    rw [hr] at hQ
    obtain ⟨j, rfl⟩ : ∃ j : Nat, b = j := ⟨b.toNat, by omega⟩
    obtain rfl : a = -1 := by omega
    clear hF hr hA ha
    generalize P.length = N at *
    go_enter Tryz.func77, Tryz.ntmps77
    go_wp2_with fail
    go_quiet (fail)
    all_goals
      have HB := Lib.hid (drew_below w nq)
      go_wp2_with fail
      exact ⟨rfl, HB.out⟩
/-- slices.Grow of nothing: room, but no rows. -/
theorem growR (n : Nat) (w : World) (hn : n ≤ 1000000) : Calls Tryz.prog 84 #[.slice none 0 0, .int .i64 n] w (ClRPost [] w) := by
  refine via fun Q hQ => ?_
  by_cases h0 : n = 0
  · subst h0
    go_enter Tryz.func84, Tryz.ntmps84
    go_wp2_with fail
    exact ⟨_, rfl, Own.nil _ _ _ _, Below.refl _ _⟩
  · have hp : (n : Int) > 0 := by omega
    obtain ⟨i0, hi0, hzz⟩ := Option.map_eq_some_iff.1 (show (Tryz.prog.info? 29).map (fun i => (i.zero, i.size, i.bytes)) = some (some (.agg #[.string ByteArray.empty, .int .i64 0]), 2, 24) from by kernel_rfl)
    simp only [Prod.mk.injEq] at hzz
    obtain ⟨hz0, hzs, hzb⟩ := hzz
    have hz : ∀ ty, (Builtin.append_ #[27, 3] ty #[.slice none 0 0, .int .i64 n]).run Tryz.prog w = _ := fun ty => Lib.run_append_nil_zeros (P := Tryz.prog) w 27 3 ty 29 i0 _ .i64 .i64 Tryz.underlying27 Tryz.underlying3 hi0 hz0 n (by omega) (by omega) (by omega) (by rw [hzb]; omega)
    have hge := grownCap_ge w n 0 29
    have hle := grownCap_le_maxLen w n 0 29 (by simp only [maxLen]; omega)
    generalize grownCap w n 0 29 = G at *
    have hsz : (Builtin.zeroCells (Value.agg #[.string ByteArray.empty, .int .i64 0]).cells n ++ Builtin.zeroCells (Value.agg #[.string ByteArray.empty, .int .i64 0]).cells (G - n)).size = G * 2 := by
      rw [Array.size_append]
      have h9 : ∀ k, (Builtin.zeroCells (Value.agg #[.string ByteArray.empty, .int .i64 0]).cells k).size = k * 2 := fun k => by unfold Builtin.zeroCells; simp [Value.cells]
      rw [h9, h9]; omega
    generalize (Builtin.zeroCells (Value.agg #[.string ByteArray.empty, .int .i64 0]).cells n ++ Builtin.zeroCells (Value.agg #[.string ByteArray.empty, .int .i64 0]).cells (G - n)) = CS at *
    have hal : Below w.heap.size w (w.drew.alloc (.cells CS 29)) := below_then (drew_below w 1) ((Below.refl _ _).alloc (Nat.le_refl _) _)
    have hOw : Own (w.drew.alloc (.cells CS 29)) w.heap.size 29 2 (.slice (some ⟨w.heap.size, 0, none⟩) 0 G) [] :=
      ⟨⟨rfl, .inr ⟨w.heap.size, G, CS, rfl, Nat.le_refl _, Blk.new w.drew CS 29, Nat.zero_le _, hle, hsz, by simp⟩⟩, fun r hr => by cases hr⟩
    generalize w.drew.alloc (.cells CS 29) = W1 at *
    have HZ := Lib.hid hz
    have HA := Lib.hid hal
    have HO := Lib.hid hOw
    have g1 : 0 ≤ G := Nat.zero_le _
    clear hz hal hOw hsz hle hzs hzb hz0 hi0
    go_enter Tryz.func84, Tryz.ntmps84
    go_wp2_with (at_builtin; refine Lib.wpList_append_run _ rfl _ _ _ _ rfl _ _ rfl rfl _ _ (HZ.out _) ?_)
    exact ⟨_, rfl, HO.out, HA.out⟩
set_option maxHeartbeats 4000000 in
/-- slices.Concat of two. -/
theorem concR (m : Nat) (A1 A2 : Option Addr) (c1 c2 : Nat) (r1 r2 : List Rw) (T : TypeId) (w : World) (hM : Blk w m #[.slice A1 r1.length c1, .slice A2 r2.length c2] T) (h1 : RowsAt w 2 A1 (rwR r1)) (h2 : RowsAt w 2 A2 (rwR r2)) (k1 : A1 = none → c1 = 0) (k2 : A2 = none → c2 = 0)
    (hl1 : r1.length ≤ 400000) (hl2 : r2.length ≤ 400000) : Calls Tryz.prog 78 #[.slice (some ⟨m, 0, none⟩) 2 2] w (ClRPost (rwR r1 ++ rwR r2) w) := by
  refine via fun Q hQ => ?_
  have m0 := hM.at_ 0 rfl
  have m1 := hM.at_ 1 rfl
  simp only [List.getElem_toArray, List.getElem_cons_succ, List.getElem_cons_zero] at m0 m1
  have HM := Lib.hid hM
  have HR1 := Lib.hid h1
  have HR2 := Lib.hid h2
  have HL1 := Lib.hid (rwR_len r1)
  have HL2 := Lib.hid (rwR_len r2)
  clear hM h1 h2
  generalize r1.length = n1 at *
  generalize r2.length = n2 at *
  have HG := Lib.hid (show Calls Tryz.prog 84 #[.slice none 0 0, .int .i64 ((n1 : Int) + (n2 : Int))] w (ClRPost [] w) from growR (n1 + n2) w (by omega))
  have hs0 : IntKind.i64.wrap ((n1 : Int) + (n2 : Int)) = (n1 : Int) + (n2 : Int) := IntWalk.i64_in _ (by omega)
  go_enter Tryz.func78, Tryz.ntmps78
  go_wp2_with fail
  go_loop [3, 11] (fun x3 x11 => (x11 = .int .i64 0 ∧ x3 = .int .i64 0) ∨ (x11 = .int .i64 1 ∧ x3 = .int .i64 n1) ∨ (x11 = .int .i64 2 ∧ x3 = .int .i64 (n1 + n2))) (fun _ i => 2 - (intOf i).toNat)
  case atStart => exact .inl ⟨rfl, rfl⟩
  case round =>
    rcases hrel with ⟨rfl, rfl⟩ | ⟨rfl, rfl⟩ | ⟨rfl, rfl⟩
    · go_wp2_with fail
      exact ⟨.inr (.inl ⟨rfl, rfl⟩), by simp [intOf]⟩
    · go_wp2_with fail
      exact ⟨.inr (.inr ⟨rfl, rfl⟩), by simp [intOf]⟩
    · go_wp2_with fail
      (with_reducible refine HG.out.mono ?_)
      rintro e w1 ⟨v1, rfl, ho1, hb1⟩
      have HO1 := Lib.hid ho1
      have HB1 := Lib.hid hb1
      have HInfo := Lib.hid (show (Tryz.prog.info? 29).map (fun i => (i.zero, i.size, i.bytes)) = some (some (.agg #[.string ByteArray.empty, .int .i64 0]), 2, 24) from by kernel_rfl)
      have K1 := Lib.hid k1
      have K2 := Lib.hid k2
      clear ho1 hb1 HG k1 k2
      go_wp2_with fail
      go_loopg [6, 27] 2 (fun g x6 x27 wr => ∃ rs : List (List Value), ((g = 2 ∧ x27 = .int .i64 0 ∧ rs = []) ∨ (g = 1 ∧ x27 = .int .i64 1 ∧ rs = rwR r1) ∨ (g = 0 ∧ x27 = .int .i64 2 ∧ rs = rwR r1 ++ rwR r2)) ∧ Hid (Own wr w.heap.size 29 2 x6 rs) ∧ Hid (Below w.heap.size w wr))
      case atStart => exact ⟨[], .inl ⟨rfl, rfl, rfl⟩, HO1, HB1⟩
      case round =>
        obtain ⟨rs, hc, HO, HB⟩ := hrel
        rcases hc with ⟨rfl, rfl, rfl⟩ | ⟨rfl, rfl, rfl⟩ | ⟨rfl, rfl, rfl⟩
        · skip
          have HO1 := Lib.hid (HO.out)
          have hR := HR1.out.below HB.out
          have HRb := Lib.hid hR
          have m0' := (HB.out.cell (World.block_lt_of_cell? w _ m0)).trans m0
          clear hR
          go_wp2_with (at_builtin; go_loud (refine appendNL (W := wr) w.heap.size 29 2 24 (.agg #[.string ByteArray.empty, .int .i64 0]) rfl (.tmp 31) (.tmp 32) 27 rfl Tryz.underlying27 HInfo.out rfl (by decide) (by decide) _ ([]) (rwR r1) rfl A1 n1 c1 rfl HL1.out.symm K1.out HRb.out (rwR_two r1) (rwR_one r1) HO1.out HB.out.size (by simp only [List.length_append, List.length_nil, HL1.out, HL2.out]; omega) ?_); intro v1 w1 ho1 hf1 hl1)
          have HO2 := Lib.hid ho1
          have HB2 := Lib.hid (HO1.out.fr_below HB.out HB.out.size hf1)
          clear ho1 hf1 hl1
          go_roundg 1
          case measure => omega
          case rel => exact ⟨_, .inr (.inl ⟨rfl, rfl, rfl⟩), by simpa using HO2, HB2⟩
        · skip
          have HO1 := Lib.hid (HO.out)
          have hR := HR2.out.below HB.out
          have HRb := Lib.hid hR
          have m0' := (HB.out.cell (World.block_lt_of_cell? w _ m1)).trans m1
          clear hR
          go_wp2_with (at_builtin; go_loud (refine appendNL (W := wr) w.heap.size 29 2 24 (.agg #[.string ByteArray.empty, .int .i64 0]) rfl (.tmp 31) (.tmp 32) 27 rfl Tryz.underlying27 HInfo.out rfl (by decide) (by decide) _ (rwR r1) (rwR r2) rfl A2 n2 c2 rfl HL2.out.symm K2.out HRb.out (rwR_two r2) (rwR_one r2) HO1.out HB.out.size (by simp only [List.length_append, List.length_nil, HL1.out, HL2.out]; omega) ?_); intro v1 w1 ho1 hf1 hl1)
          have HO2 := Lib.hid ho1
          have HB2 := Lib.hid (HO1.out.fr_below HB.out HB.out.size hf1)
          clear ho1 hf1 hl1
          go_roundg 0
          case measure => omega
          case rel => exact ⟨_, .inr (.inr ⟨rfl, rfl, rfl⟩), HO2, HB2⟩
        · go_wp2_with fail
          exact ⟨_, rfl, HO.out, HB.out⟩
end Go.Proofs.YtlekfpeonehggaaGreatDoor
end
