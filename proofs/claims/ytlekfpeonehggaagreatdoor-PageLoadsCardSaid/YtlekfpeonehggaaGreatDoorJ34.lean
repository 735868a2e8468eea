/- Package page: Bytes. -/
import Derived.Test.YtlekfpeonehggaaGreatDoorJ32
import Derived.Test.YtlekfpeonehggaaGreatDoorJ33
section
set_option linter.unusedVariables false
set_option linter.unusedSimpArgs false
set_option maxRecDepth 100000
namespace Go.Proofs.YtlekfpeonehggaaGreatDoor
open Go.Proofs.BL Go.Proofs.Peel Go.RowKit Go.Proofs.Ky

def rowB (x : Rw) : List UInt8 := strB x.1 ++ natB (zig x.2)
def pgB (r : List Rw) : List UInt8 := natB r.length ++ (r.map rowB).flatten
def stBy (P : List (List Rw)) : List UInt8 := natB P.length ++ (P.map pgB).flatten
def pre (P : List (List Rw)) (j : Nat) : List UInt8 := natB P.length ++ ((P.take j).map pgB).flatten
def inn (P : List (List Rw)) (j : Nat) (r : List Rw) (q : Nat) : List UInt8 := pre P j ++ natB r.length ++ ((r.take q).map rowB).flatten
theorem pre_end (P : List (List Rw)) : pre P P.length = stBy P := by rw [pre, List.take_length]; rfl
theorem pre_next {P : List (List Rw)} {j : Nat} {r : List Rw} (h : P[j]? = some r) : pre P (j + 1) = inn P j r r.length := by
  rw [pre, inn, pre, List.take_add_one, h, List.take_length]
  simp [pgB]
theorem inn_zero (P : List (List Rw)) (j : Nat) (r : List Rw) : inn P j r 0 = pre P j ++ natB r.length := by simp [inn]
theorem inn_next {P : List (List Rw)} {j : Nat} {r : List Rw} {q : Nat} {x : Rw} (h : r[q]? = some x) : inn P j r (q + 1) = inn P j r q ++ rowB x := by
  rw [inn, inn, List.take_add_one, h]
  simp
theorem pre_len (P : List (List Rw)) (j : Nat) : (pre P j).length ≤ (stBy P).length := by
  rw [pre, stBy, List.length_append, List.length_append]
  have := flat_take (P.map pgB) j
  rw [← List.map_take] at this
  omega
theorem inn_len {P : List (List Rw)} {j : Nat} {r : List Rw} (h : P[j]? = some r) (q : Nat) : (inn P j r q).length ≤ (stBy P).length := by
  refine Nat.le_trans ?_ (pre_len P (j + 1))
  rw [pre_next h, inn, inn, List.take_length]
  simp only [List.length_append]
  have := flat_take (r.map rowB) q
  rw [← List.map_take] at this
  omega
def RwOk (x : Rw) : Prop := x.1.size ≤ 1000 ∧ -9223372036854775808 ≤ x.2 ∧ x.2 ≤ 9223372036854775807
set_option maxHeartbeats 8000000 in
theorem stBytes (p : Nat) (most n : Int) (L : Value) (vs : List Value) (P : List (List Rw)) (w : World) (hF : StF w p most n L vs P) (hl : (stBy P).length ≤ 1000000000) (hpl : P.length ≤ 100000) (hpp : ∀ r ∈ P, r.length ≤ 100000) (hok : ∀ r ∈ P, ∀ x ∈ r, RwOk x) :
    Calls Tryz.prog 33 #[.pointer (some ⟨p, 0, none⟩)] w (ByAns w (stBy P)) := by
  refine via fun Q hQ => ?_
  obtain ⟨A, c, rfl, hc, _, _⟩ := hF.leaves
  have c1 := hF.b.at_ 1 rfl
  simp only [List.getElem_toArray, List.getElem_cons_succ, List.getElem_cons_zero] at c1
  have HF := Lib.hid hF
  have HL := Lib.hid hl
  have HPP := Lib.hid hpp
  have HOK := Lib.hid hok
  clear hF hl hpp hok
  generalize hN : P.length = N at *
  have HN := Lib.hid hN
  clear hN
  go_enter Tryz.func33, Tryz.ntmps33
  go_wp2_with fail
  (with_reducible refine (onat N w (by omega)).mono ?_)
  rintro e w9 ⟨v9, rfl, ho9, hb9⟩
  have HO9 := Lib.hid (show Own w9 w.heap.size 5 1 v9 (bys (pre P 0)) from by rw [pre, List.take_zero, HN.out]; simpa using ho9)
  have HB9 := Lib.hid hb9
  have c1 := (hb9.cell (World.block_lt_of_cell? w _ c1)).trans c1
  clear ho9 hb9
  go_wp2_with fail
  go_loopg [3, 22] N (fun g u3 x22 wr => ∃ j : Nat, j ≤ N ∧ g = N - j ∧ x22 = .int .i64 j ∧ Hid (Own wr w.heap.size 5 1 u3 (bys (pre P j))) ∧ Hid (Below w.heap.size w wr))
  case atStart => exact ⟨0, Nat.zero_le _, rfl, rfl, HO9, HB9⟩
  case round =>
    obtain ⟨j, hj, rfl, rfl, HO, HB⟩ := hrel
    by_cases hlt : j < N
    · have hx : P[j]? = some (P[j]'(by rw [HN.out]; exact hlt)) := List.getElem?_eq_getElem _
      generalize P[j]'(by rw [HN.out]; exact hlt) = r at hx
      obtain ⟨b, v, rfl, _, k1, _, hOr⟩ := HF.out.page hx
      obtain ⟨A2, c2, rfl, _, _, hR⟩ := hOr.slv'
      rw [rwR_len] at k1
      have k1 := (HB.out.cell (World.block_lt_of_cell? w _ k1)).trans k1
      have hnb := HPP.out r (List.mem_of_getElem? hx)
      have HX := Lib.hid hx
      have hal : Below wr.heap.size wr (wr.alloc (.cells #[.slice A2 r.length c2] 59)) := (Below.refl _ _).alloc (Nat.le_refl _) _
      have HO0 := Lib.hid (HO.out.below hal)
      have HB0 := Lib.hid (below_then HB.out hal)
      have HR0 := Lib.hid hR
      have HI0 := Lib.hid (inn_zero P j r)
      have HIL := Lib.hid (fun q => Nat.le_trans (inn_len hx q) HL.out)
      clear hx hOr hR
      generalize hnr : r.length = nr at *
      have HNr := Lib.hid hnr
      clear hnr
      have k4 : (wr.alloc (.cells #[.slice A2 nr c2] 59)).cell? ⟨wr.heap.size, 0, none⟩ = some (.slice A2 nr c2) := (Blk.new wr _ _).at_ 0 rfl
      generalize hwa : wr.alloc (.cells #[.slice A2 nr c2] 59) = wa at *
      go_wp2_with fail
      (with_reducible refine (onat nr _ (by omega)).mono ?_)
      rintro e wb ⟨vb, rfl, hob, hbb⟩
      obtain ⟨Ab, cb, rfl, _, zb, hRb⟩ := hob.slv'
      rw [bys_len] at hob
      have HRb := Lib.hid hRb
      have Hzb := Lib.hid zb
      have HOb := Lib.hid (HO0.out.below hbb)
      have HBb := Lib.hid (below_then HB0.out hbb)
      have HR1 := Lib.hid (HR0.out.below HBb.out)
      have HLb := Lib.hid (show ((bys (pre P j)).length + (bys (natB nr)).length) * 1 ≤ 140737488355328 from by
        have h1 := HIL.out 0
        rw [HI0.out, List.length_append] at h1
        simp only [bys_len]
        omega)
      have k5 := (hbb.cell (World.block_lt_of_cell? _ _ k4)).trans k4
      rw [bys_len]
      clear hob hbb hRb zb k4
      go_wp2_with (at_builtin; refine Classical.byContradiction fun hcontra => ?_)
      refine hcontra ?_
      clear hcontra
      refine appendN w.heap.size 5 1 1 (.int .u8 0) rfl (.tmp 26) (.tmp 31) 23 rfl Tryz.underlying23 (by kernel_rfl) rfl (by decide) (by decide) u3 (bys (pre P j)) (bys (natB nr)) rfl Ab (natB nr).length cb rfl (bys_len _).symm Hzb.out HRb.out (bys_one _) (bys_cell _) HOb.out HBb.out.size HLb.out ?_
      intro v1 w1 hown1 hfr1
      have HO1 := Lib.hid (show Own w1 w.heap.size 5 1 v1 (bys (inn P j r 0)) from by rw [HI0.out, ← bys_app]; exact hown1)
      have HB1 := Lib.hid (HOb.out.fr_below HBb.out HBb.out.size hfr1)
      have HR2 := Lib.hid (HR0.out.below HB1.out)
      have hne : ∀ k, u3.ownBlock = some k → k ≠ wr.heap.size := fun k hk => Nat.ne_of_lt (HO.out.1.lt k hk).2
      have hws : wr.heap.size < wb.heap.size := World.block_lt_of_cell? _ _ k5
      have k6 := (World.cell?_of_block (hfr1.block _ hws (fun h => hne _ h rfl))).trans k5
      generalize wr.heap.size = t5 at *
      clear k5 hne hws hfr1 hown1 hal
      go_wp2_with fail
      go_loopg [3, 36] nr (fun g u3 x36 ws => ∃ q : Nat, q ≤ nr ∧ g = nr - q ∧ x36 = .int .i64 q ∧ Hid (Own ws w.heap.size 5 1 u3 (bys (inn P j r q))) ∧ Hid (Below w.heap.size w ws))
      case atStart => exact ⟨0, Nat.zero_le _, rfl, rfl, HO1, HB1⟩
      case round =>
        obtain ⟨q, hq, rfl, rfl, HO2, HB2⟩ := hrel
        by_cases hlq : q < nr
        · have hxq : r[q]? = some (r[q]'(by rw [HNr.out]; exact hlq)) := List.getElem?_eq_getElem _
          generalize r[q]'(by rw [HNr.out]; exact hlq) = x at hxq
          have hokx := HOK.out r (List.mem_of_getElem? HX.out) x (List.mem_of_getElem? hxq)
          obtain ⟨kk, nn⟩ := x
          have HK := Lib.hid hokx.1
          have HN1 := Lib.hid hokx.2
          obtain ⟨b3, o3, hA3, e1, e2⟩ := rowAt (HR0.out.below HB2.out) hxq
          subst hA3
          simp only at e1 e2
          have HNX := Lib.hid (show inn P j r (q + 1) = inn P j r q ++ (strB kk ++ natB (zig nn)) from inn_next hxq)
          have HOw := Lib.hid HO2.out
          have hal2 : Below wr.heap.size wr (wr.alloc (.cells #[.string kk, .int .i64 nn] 29)) := (Below.refl _ _).alloc (Nat.le_refl _) _
          have HO9 := Lib.hid (HO2.out.below hal2)
          have HB9 := Lib.hid (below_then HB2.out hal2)
          have d0 : World.cell? (wr.alloc (.cells #[.string kk, .int .i64 nn] 29)).drew ⟨wr.heap.size, 0, none⟩ = some (.string kk) := (Blk.new wr _ _).at_ 0 rfl
          have d1 : World.cell? (wr.alloc (.cells #[.string kk, .int .i64 nn] 29)).drew ⟨wr.heap.size, 1, none⟩ = some (.int .i64 nn) := (Blk.new wr _ _).at_ 1 rfl
          have HLn := Lib.hid (show ((bys (inn P j r q)).length + (bys [strB kk, natB (zig nn)].flatten).length) * 1 ≤ 140737488355328 from by
            have h1 := HIL.out (q + 1)
            rw [HNX.out, List.length_append] at h1
            rw [seq2_flat]
            simp only [bys_len]
            omega)
          clear hokx hxq hal2 HO2 HB2
          generalize hWW : wr.alloc (.cells #[.string kk, .int .i64 nn] 29) = WW at *
          go_wp2_with fail
          refine Rg.begin_ (fun x => x.cell? ⟨wr.heap.size, 0, none⟩ = some (.string kk) ∧ x.cell? ⟨wr.heap.size, 1, none⟩ = some (.int .i64 nn)) 10 (by kernel_rfl) ?_
          have hS0 : (fun x => x.cell? ⟨wr.heap.size, 0, none⟩ = some (.string kk) ∧ x.cell? ⟨wr.heap.size, 1, none⟩ = some (.int .i64 nn)) (World.drew WW) := ⟨d0, d1⟩
          refine Rg.take (i := 0) (v := ?_) rfl (by kernel_rfl) (fun _ _ _ h => h) hS0 (Or.inl ⟨by rfl, ?_⟩) ?_
          rotate_left
          · ((intro w hSw; (try dsimp only at hSw); go_simp) <;> (with_reducible rfl))
          try simp only [Act.put, List.setIfInBounds_toArray, List.set_cons_zero, List.set_cons_succ]
          refine Rg.take (i := 1) (v := ?_) rfl (by kernel_rfl) (fun _ _ _ h => h) hS0 (Or.inl ⟨by rfl, ?_⟩) ?_
          rotate_left
          · ((intro w hSw; (try dsimp only at hSw); go_simp) <;> (with_reducible rfl))
          try simp only [Act.put, List.setIfInBounds_toArray, List.set_cons_zero, List.set_cons_succ]
          refine Rg.take (i := 2) (v := ?_) rfl (by kernel_rfl) (fun _ _ _ h => h) hS0 (Or.inl ⟨by rfl, ?_⟩) ?_
          rotate_left
          · ((intro w hSw; (try dsimp only at hSw); go_simp) <;> (with_reducible rfl))
          try simp only [Act.put, List.setIfInBounds_toArray, List.set_cons_zero, List.set_cons_succ]
          refine Rg.take (i := 4) (v := ?_) rfl (by kernel_rfl) (fun _ _ _ h => h) hS0 (Or.inl ⟨by rfl, ?_⟩) ?_
          rotate_left
          · ((intro w hSw; (try dsimp only at hSw); go_simp) <;> (with_reducible rfl))
          try simp only [Act.put, List.setIfInBounds_toArray, List.set_cons_zero, List.set_cons_succ]
          refine Rg.take (i := 5) (v := ?_) rfl (by kernel_rfl) (fun _ _ _ h => h) hS0 (Or.inl ⟨by rfl, ?_⟩) ?_
          rotate_left
          · ((intro w hSw; (try dsimp only at hSw); go_simp) <;> (with_reducible rfl))
          try simp only [Act.put, List.setIfInBounds_toArray, List.set_cons_zero, List.set_cons_succ]
          refine Rg.one (i := 3) rfl (by kernel_rfl) (fun K hK => ?_)
          go_simp
          (with_reducible refine (ostr kk WW.drew (by have := HK.out; omega)).mono ?_)
          rintro e w1 ⟨v1, rfl, ho1, hb1⟩
          obtain ⟨A1, c1', e8, _, _, _⟩ := ho1.slv'
          rw [bys_len] at e8
          subst e8
          have HL1 := Lib.hid hb1
          have HO1 := Lib.hid ho1
          clear ho1 hb1
          have hS1' := (show World.cell? w1 ⟨wr.heap.size, 0, none⟩ = some (.string kk) ∧ World.cell? w1 ⟨wr.heap.size, 1, none⟩ = some (.int .i64 nn) from ⟨(HL1.out.cell (World.block_lt_of_cell? _ _ hS0.1)).trans hS0.1, (HL1.out.cell (World.block_lt_of_cell? _ _ hS0.2)).trans hS0.2⟩)
          change K _ _
          have hS1 : (fun x => x.cell? ⟨wr.heap.size, 0, none⟩ = some (.string kk) ∧ x.cell? ⟨wr.heap.size, 1, none⟩ = some (.int .i64 nn)) w1 := hS1'
          refine hK.out _ _ (fun _ => hS1) ?_
          clear hK K
          try simp only [Act.put, List.setIfInBounds_toArray, List.set_cons_zero, List.set_cons_succ]
          refine Rg.one (i := 6) rfl (by kernel_rfl) (fun K hK => ?_)
          go_simp
          (with_reducible refine (onum nn w1 HN1.out.1 HN1.out.2).mono ?_)
          rintro e w2 ⟨v2, rfl, ho2, hb2⟩
          obtain ⟨A2', c2', e8, _, _, _⟩ := ho2.slv'
          rw [bys_len] at e8
          subst e8
          have HL2 := Lib.hid hb2
          have HO2 := Lib.hid ho2
          clear ho2 hb2
          have hS2' := (show World.cell? w2 ⟨wr.heap.size, 0, none⟩ = some (.string kk) ∧ World.cell? w2 ⟨wr.heap.size, 1, none⟩ = some (.int .i64 nn) from ⟨(HL2.out.cell (World.block_lt_of_cell? _ _ hS1'.1)).trans hS1'.1, (HL2.out.cell (World.block_lt_of_cell? _ _ hS1'.2)).trans hS1'.2⟩)
          change K _ _
          have hS2 : (fun x => x.cell? ⟨wr.heap.size, 0, none⟩ = some (.string kk) ∧ x.cell? ⟨wr.heap.size, 1, none⟩ = some (.int .i64 nn)) w2 := hS2'
          refine hK.out _ _ (fun _ => hS2) ?_
          clear hK K
          try simp only [Act.put, List.setIfInBounds_toArray, List.set_cons_zero, List.set_cons_succ]
          refine Rg.one (i := 7) rfl (by kernel_rfl) (fun K hK => ?_)
          go_simp
          have HSQ := Lib.hid (seq2 w2 (.slice A1 (strB kk).length c1') (.slice A2' (natB (zig nn)).length c2') (strB kk) (natB (zig nn)) WW.drew.heap.size w1.heap.size (HO1.out.below HL2.out) HO2.out (by have := HK.out; have h1 := strB_len kk (by omega); have h2 := natB_len (zig nn) (zig_lt nn HN1.out.1 HN1.out.2); omega))
          have HL3 := Lib.hid ((Below.refl w2.heap.size w2).alloc (Nat.le_refl _) (.cells #[(.slice A1 (strB kk).length c1'), (.slice A2' (natB (zig nn)).length c2')] 23))
          have hS3 : (fun x => x.cell? ⟨wr.heap.size, 0, none⟩ = some (.string kk) ∧ x.cell? ⟨wr.heap.size, 1, none⟩ = some (.int .i64 nn)) (w2.alloc (.cells #[(.slice A1 (strB kk).length c1'), (.slice A2' (natB (zig nn)).length c2')] 23)) := ⟨upA hS2'.1 _, upA hS2'.2 _⟩
          refine hK.out _ _ (fun _ => hS3) ?_
          clear hK K
          try simp only [Act.put, List.setIfInBounds_toArray, List.set_cons_zero, List.set_cons_succ]
          refine Rg.one (i := 8) rfl (by kernel_rfl) (fun K hK => ?_)
          go_simp
          (with_reducible refine HSQ.out.mono ?_)
          rintro e w4 ⟨v4, rfl, ho4, hb4⟩
          have HL4 := Lib.hid hb4
          have HO4 := Lib.hid ho4
          clear ho4 hb4
          have hS3' := hS3
          have hS4' := (show World.cell? w4 ⟨wr.heap.size, 0, none⟩ = some (.string kk) ∧ World.cell? w4 ⟨wr.heap.size, 1, none⟩ = some (.int .i64 nn) from ⟨(HL4.out.cell (World.block_lt_of_cell? _ _ hS3'.1)).trans hS3'.1, (HL4.out.cell (World.block_lt_of_cell? _ _ hS3'.2)).trans hS3'.2⟩)
          change K _ _
          have hS4 : (fun x => x.cell? ⟨wr.heap.size, 0, none⟩ = some (.string kk) ∧ x.cell? ⟨wr.heap.size, 1, none⟩ = some (.int .i64 nn)) w4 := hS4'
          refine hK.out _ _ (fun _ => hS4) ?_
          clear hK K
          try simp only [Act.put, List.setIfInBounds_toArray, List.set_cons_zero, List.set_cons_succ]
          refine Rg.one (i := 9) rfl (by kernel_rfl) (fun K hK => ?_)
          obtain ⟨g4, c4, e4, _, HR4⟩ := own_bys HO4.out (by rw [seq2_flat]; simp [strB, natB])
          subst e4
          have HB4 := Lib.hid (below_then (below_then (below_then (below_then (below_then HB9.out (drew_below WW 1)) HL1.out) HL2.out) HL3.out) HL4.out)
          have HX4 := Lib.hid (HO9.out.below (below_then (below_then (below_then (below_then (drew_below WW 1) HL1.out) HL2.out) HL3.out) HL4.out))
          refine stepN (W := w4) w.heap.size 5 1 1 (.int .u8 0) rfl (.tmp 40) (.tmp 48) 23 rfl Tryz.underlying23 (by kernel_rfl) rfl (by decide) (by decide) u3 (bys (inn P j r q)) (bys [strB kk, natB (zig nn)].flatten) rfl g4 _ c4 rfl (bys_len _).symm (by rw [seq2_flat]; simp [strB, natB]) HR4 (bys_one _) (bys_cell _) HX4.out HB4.out.size HLn.out ?_
          intro v5 w5 ho5 hf5
          have HO5 := Lib.hid (show Own w5 w.heap.size 5 1 v5 (bys (inn P j r (q + 1))) from by rw [HNX.out, ← bys_app]; rw [seq2_flat] at ho5; exact ho5)
          have HB5 := Lib.hid (HX4.out.fr_below HB4.out HB4.out.size hf5)
          have hg5 : ∀ a : Addr, a.block = wr.heap.size → a.block < w4.heap.size → w5.cell? a = w4.cell? a := fun a ha hlt => World.cell?_of_block (hf5.block _ hlt (fun h => by have := (HOw.out.1.lt _ h).2; omega))
          have hS5' : World.cell? w5 ⟨wr.heap.size, 0, none⟩ = some (.string kk) ∧ World.cell? w5 ⟨wr.heap.size, 1, none⟩ = some (.int .i64 nn) := ⟨(hg5 _ rfl (World.block_lt_of_cell? _ _ hS4.1)).trans hS4.1, (hg5 _ rfl (World.block_lt_of_cell? _ _ hS4.2)).trans hS4.2⟩
          clear ho5 hf5 hg5
          change K _ _
          have hS5 : (fun x => x.cell? ⟨wr.heap.size, 0, none⟩ = some (.string kk) ∧ x.cell? ⟨wr.heap.size, 1, none⟩ = some (.int .i64 nn)) w5 := hS5'
          refine hK.out _ _ (fun _ => hS5) ?_
          clear hK K
          try simp only [Act.put, List.setIfInBounds_toArray, List.set_cons_zero, List.set_cons_succ]
          refine Rg.one (i := 10) rfl (by kernel_rfl) (fun K hK => ?_)
          go_simp
          refine hK.out _ _ (fun _ => hS5) ?_
          clear hK K
          try simp only [Act.put, List.setIfInBounds_toArray, List.set_cons_zero, List.set_cons_succ]
          refine Rg.done (by kernel_rfl) ?_ _
          go_wp2_with fail
          go_roundg (nr - (q + 1))
          case measure => omega
          case rel => exact ⟨q + 1, by omega, rfl, by go_num, HO5, HB5⟩
        · obtain rfl : q = nr := by omega
          have hO := HO2.out
          rw [← HNr.out, ← pre_next HX.out] at hO
          have HO3 := Lib.hid hO
          clear hO
          go_wp2_with fail
          go_roundg (N - (j + 1))
          case measure => omega
          case rel => exact ⟨j + 1, by omega, rfl, rfl, HO3, HB2⟩
    · obtain rfl : j = N := by omega
      have hO := HO.out
      rw [← HN.out, pre_end] at hO
      have HO3 := Lib.hid hO
      clear hO
      go_wp2_with fail
      exact ⟨_, rfl, HO3.out, HB.out⟩
end Go.Proofs.YtlekfpeonehggaaGreatDoor
end
