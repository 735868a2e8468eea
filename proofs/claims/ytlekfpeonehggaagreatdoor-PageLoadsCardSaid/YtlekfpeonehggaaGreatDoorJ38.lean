/- The document's store of pages: what is read of it; Rows. The document's Bytes of a store. -/
import Derived.Test.YtlekfpeonehggaaGreatDoorJ37
section
set_option linter.unusedVariables false
set_option linter.unusedSimpArgs false
set_option maxRecDepth 100000
namespace Go.Proofs.YtlekfpeonehggaaGreatDoor
open Go.Proofs.BL Go.Proofs.Peel Go.RowKit Go.Proofs.Ky

/-- A slice of pages that reads so. -/
def PgR (w : World) (A : Option Addr) (P : List (List Rw)) : Prop :=
  ∀ (i : Nat) (r : List Rw), P[i]? = some r → ∃ b o B cc, A = some ⟨b, o, none⟩ ∧ w.cell? ⟨b, o + i, none⟩ = some (.slice B r.length cc) ∧ r.length ≤ cc ∧ (B = none → cc = 0) ∧ RowsAt w 2 B (rwR r)
theorem PgR.below {w w' : World} {A : Option Addr} {P : List (List Rw)} (h : PgR w A P) (hb : Below w.heap.size w w') : PgR w' A P := fun i r hr => by
  obtain ⟨b, o, B, cc, h1, h2, h3, h4, h5⟩ := h i r hr
  exact ⟨b, o, B, cc, h1, (hb.cell (World.block_lt_of_cell? _ _ h2)).trans h2, h3, h4, h5.below hb⟩
theorem PgR.nil (w : World) (A : Option Addr) : PgR w A [] := fun i r h => by simp at h
theorem flat_le (P : List (List Rw)) (j : Nat) : (P.take j).flatten.length ≤ P.flatten.length := by
  have h1 : P.flatten = (P.take j).flatten ++ (P.drop j).flatten := by rw [← List.flatten_append, List.take_append_drop]
  rw [h1, List.length_append]
  omega
set_option maxHeartbeats 4000000 in
theorem dRows (q : Nat) (most : Int) (A : Option Addr) (c : Nat) (P : List (List Rw)) (w : World) (hB : Blk w q #[.int .i64 most, .slice A P.length c] 26) (hP : PgR w A P) (hl : P.flatten.length ≤ 100000) (hpl : P.length ≤ 100000) :
    Calls Tryz.prog 28 #[.pointer (some ⟨q, 0, none⟩)] w (ScanPost P.flatten w) := by
  refine via fun Q hQ => ?_
  have c1 := hB.at_ 1 rfl
  simp only [List.getElem_toArray, List.getElem_cons_succ, List.getElem_cons_zero] at c1
  have HP := Lib.hid hP
  have HLF := Lib.hid (fun j => Nat.le_trans (flat_le P j) hl)
  clear hP hB hl
  generalize hN : P.length = N at *
  have HN := Lib.hid hN
  clear hN
  go_enter Tryz.func28, Tryz.ntmps28
  go_wp2_with fail
  go_loopg [3, 11] N (fun g u3 x11 wr => ∃ j : Nat, j ≤ N ∧ g = N - j ∧ x11 = .int .i64 j ∧ Hid (Own wr w.heap.size 29 2 u3 (rwR (P.take j).flatten)) ∧ Hid (Below w.heap.size w wr))
  case atStart => exact ⟨0, Nat.zero_le _, rfl, rfl, Lib.hid (Own.nil _ _ _ _), Lib.hid (Below.refl _ _)⟩
  case round =>
    obtain ⟨j, hj, rfl, rfl, HO, HB⟩ := hrel
    by_cases hlt : j < N
    · have hx : P[j]? = some (P[j]'(by rw [HN.out]; exact hlt)) := List.getElem?_eq_getElem _
      generalize P[j]'(by rw [HN.out]; exact hlt) = r at hx
      obtain ⟨b, o, B, cc, rfl, k1, hc, hz, hR⟩ := (HP.out.below HB.out) j r hx
      have hfn := flat_next hx
      have HFN := Lib.hid (show rwR (P.take (j + 1)).flatten = rwR (P.take j).flatten ++ rwR r from by rw [hfn]; simp [rwR])
      have HLn := Lib.hid (show ((rwR (P.take j).flatten).length + (rwR r).length) * 24 ≤ 140737488355328 from by
        have := HLF.out (j + 1)
        rw [hfn, List.length_append] at this
        rw [rwR_len, rwR_len]
        omega)
      have HR := Lib.hid hR
      have HZ := Lib.hid hz
      have HRL := Lib.hid (rwR_len r).symm
      clear hx hfn hR hz
      generalize r.length = nr at *
      go_wp2_with (at_builtin; refine Classical.byContradiction fun hcontra => ?_)
      refine hcontra ?_
      clear hcontra
      refine appendN w.heap.size 29 2 24 (.agg #[.string ⟨#[]⟩, .int .i64 0]) rfl (.tmp 15) (.tmp 16) 27 rfl Tryz.underlying27 (by kernel_rfl) rfl (by decide) (by decide) u3 (rwR (P.take j).flatten) (rwR r) rfl B nr cc rfl HRL.out HZ.out HR.out (rwR_two _) (rwR_one r) HO.out HB.out.size HLn.out ?_
      intro v1 w1 ho1 hf1
      have HO1 := Lib.hid (show Own w1 w.heap.size 29 2 v1 (rwR (P.take (j + 1)).flatten) from by rw [HFN.out]; exact ho1)
      have HB1 := Lib.hid (HO.out.fr_below HB.out HB.out.size hf1)
      clear ho1 hf1
      go_wp2_with fail
      go_roundg (N - (j + 1))
      case measure => omega
      case rel => exact ⟨j + 1, by omega, rfl, by go_num, HO1, HB1⟩
    · obtain rfl : j = N := by omega
      have hO := HO.out
      rw [List.take_of_length_le (by rw [HN.out]; exact Nat.le_refl _)] at hO
      have HO2 := Lib.hid hO
      clear hO
      go_wp2_with fail
      exact ⟨_, rfl, HO2.out, HB.out⟩
end Go.Proofs.YtlekfpeonehggaaGreatDoor
end

section
set_option linter.unusedVariables false
set_option linter.unusedSimpArgs false
set_option maxRecDepth 100000
namespace Go.Proofs.YtlekfpeonehggaaGreatDoor
open Go.Proofs.BL Go.Proofs.Peel Go.RowKit Go.Proofs.Ky

theorem own_far {w : World} {base b : Nat} {E T : TypeId} {sz : Nat} {v : Value} {rows : List (List Value)} {cs : Array Value} (h : Own w base E sz v rows) (hB : Blk w b cs T) (hT : E ≠ T) : ∀ k, v.ownBlock = some k → k ≠ b := h.type_ne hB hT
set_option maxHeartbeats 8000000 in
theorem dBytes (q : Nat) (most : Int) (A : Option Addr) (c : Nat) (P : List (List Rw)) (w : World) (hB : Blk w q #[.int .i64 most, .slice A P.length c] 26) (hP : PgR w A P) (hl : (stBy P).length ≤ 1000000000) (hpl : P.length ≤ 100000) (hpp : ∀ r ∈ P, r.length ≤ 100000) (hok : ∀ r ∈ P, ∀ x ∈ r, RwOk x) :
    Calls Tryz.prog 5 #[.pointer (some ⟨q, 0, none⟩)] w (ByAns w (stBy P)) := by
  refine via fun Q hQ => ?_
  have c1 := hB.at_ 1 rfl
  simp only [List.getElem_toArray, List.getElem_cons_succ, List.getElem_cons_zero] at c1
  have HP := Lib.hid hP
  have HL := Lib.hid hl
  have HPP := Lib.hid hpp
  have HOK := Lib.hid hok
  clear hB hP hl hpp hok
  generalize hN : P.length = N at *
  have HN := Lib.hid hN
  clear hN
  go_enter Tryz.func5, Tryz.ntmps5
  go_wp2_with fail
  (with_reducible refine (rnat N w (by omega)).mono ?_)
  rintro e w9 ⟨v9, rfl, ho9, hb9⟩
  have HO9 := Lib.hid (show Own w9 w.heap.size 5 1 v9 (bys (pre P 0)) from by rw [pre, List.take_zero, HN.out]; simpa using ho9)
  have HB9 := Lib.hid hb9
  have c1 := (hb9.cell (World.block_lt_of_cell? w _ c1)).trans c1
  clear ho9 hb9
  go_wp2_with fail
  go_loopg [3, 20] N (fun g u3 x20 wr => ∃ j : Nat, j ≤ N ∧ g = N - j ∧ x20 = .int .i64 j ∧ Hid (Own wr w.heap.size 5 1 u3 (bys (pre P j))) ∧ Hid (Below w.heap.size w wr))
  case atStart => exact ⟨0, Nat.zero_le _, rfl, rfl, HO9, HB9⟩
  case round =>
    obtain ⟨j, hj, rfl, rfl, HO, HB⟩ := hrel
    by_cases hlt : j < N
    · have hx : P[j]? = some (P[j]'(by rw [HN.out]; exact hlt)) := List.getElem?_eq_getElem _
      generalize P[j]'(by rw [HN.out]; exact hlt) = r at hx
      obtain ⟨b, o, B, cc, rfl, k1', hc, hz, hR'⟩ := HP.out j r hx
      have k1 := (HB.out.cell (World.block_lt_of_cell? _ _ k1')).trans k1'
      have hR := hR'.below HB.out
      have HRB := Lib.hid (fun (w' : World) (h : Below w.heap.size w w') => hR'.below h)
      have hnb := HPP.out r (List.mem_of_getElem? hx)
      have HX := Lib.hid hx
      have HR0 := Lib.hid hR
      have HI0 := Lib.hid (inn_zero P j r)
      have HIL := Lib.hid (fun q => Nat.le_trans (inn_len hx q) HL.out)
      clear hx hR hz hR' k1'
      generalize hnr : r.length = nr at *
      have HNr := Lib.hid hnr
      clear hnr
      have HLb := Lib.hid (show ((bys (pre P j)).length + (bys (natB nr)).length) * 1 ≤ 140737488355328 from by
        have h1 := HIL.out 0
        rw [HI0.out, List.length_append] at h1
        simp only [bys_len]
        omega)
      have HOj := Lib.hid (HO.out)
      have HBj := Lib.hid (HB.out)
      go_wp2_with fail
      (with_reducible refine (rnat nr wr (by omega)).mono ?_)
      rintro e w1 ⟨v1, rfl, ho1, hb1⟩
      obtain ⟨g1, c1, e1, _, hR1⟩ := own_bys ho1 (natB_ne _)
      subst e1
      have HR1 := Lib.hid hR1
      have HO1 := Lib.hid (HO.out.below hb1)
      have HB1 := Lib.hid (below_then HB.out hb1)
      have HR1r := Lib.hid (HR0.out.below hb1)
      clear ho1 hb1 hR1
      go_wp2_with (at_builtin; refine Classical.byContradiction fun hcontra => ?_)
      refine hcontra ?_
      clear hcontra
      refine appendN w.heap.size 5 1 1 (.int .u8 0) rfl (.tmp 24) (.tmp 28) 23 rfl Tryz.underlying23 (by kernel_rfl) rfl (by decide) (by decide) u3 (bys (pre P j)) (bys (natB nr)) rfl (some ⟨g1, 0, none⟩) (natB nr).length c1 rfl (bys_len _).symm (fun h => by cases h) HR1.out (bys_one _) (bys_cell _) HO1.out HB1.out.size HLb.out ?_
      intro v2 w2 ho2 hf2
      have HO2 := Lib.hid (show Own w2 w.heap.size 5 1 v2 (bys (pre P j ++ natB nr)) from by rw [← bys_app]; exact ho2)
      have HB2 := Lib.hid (HO1.out.fr_below HB1.out HB1.out.size hf2)
      have HO2 := Lib.hid (show Own w2 w.heap.size 5 1 v2 (bys (inn P j r 0)) from by rw [HI0.out]; exact HO2.out)
      clear ho2 hf2
      go_wp2_with fail
      go_loopg [3, 32] nr (fun g u3 x32 ws => ∃ q : Nat, q ≤ nr ∧ g = nr - q ∧ x32 = .int .i64 q ∧ Hid (Own ws w.heap.size 5 1 u3 (bys (inn P j r q))) ∧ Hid (Below w.heap.size w ws))
      case atStart => exact ⟨0, Nat.zero_le _, rfl, rfl, HO2, HB2⟩
      case round =>
        obtain ⟨q, hq, rfl, rfl, HO3, HB3⟩ := hrel
        by_cases hlq : q < nr
        · have hxq : r[q]? = some (r[q]'(by rw [HNr.out]; exact hlq)) := List.getElem?_eq_getElem _
          generalize r[q]'(by rw [HNr.out]; exact hlq) = x at hxq
          have hokx := HOK.out r (List.mem_of_getElem? HX.out) x (List.mem_of_getElem? hxq)
          obtain ⟨kk, nn⟩ := x
          have HK := Lib.hid hokx.1
          have HN1 := Lib.hid hokx.2
          have hRw : RowsAt wr 2 B (rwR r) := HRB.out wr HB3.out
          obtain ⟨b3, o3, hA3, e1, e2⟩ := rowAt hRw hxq
          subst hA3
          simp only at e1 e2
          have HNX := Lib.hid (show inn P j r (q + 1) = inn P j r q ++ strB kk ++ natB (zig nn) from by rw [inn_next hxq, rowB]; simp)
          have hal2 : Below wr.heap.size wr (wr.alloc (.cells #[.string kk, .int .i64 nn] 29)) := (Below.refl _ _).alloc (Nat.le_refl _) _
          have HO9 := Lib.hid (HO3.out.below hal2)
          have HB9 := Lib.hid (below_then HB3.out hal2)
          have hD0 := Blk.new wr #[.string kk, .int .i64 nn] 29
          have HD0 := Lib.hid hD0
          have d0 := hD0.at_ 0 rfl
          have d1 := hD0.at_ 1 rfl
          simp only [List.getElem_toArray, List.getElem_cons_succ, List.getElem_cons_zero] at d0 d1
          have HLx := Lib.hid (show (inn P j r q ++ strB kk ++ natB (zig nn)).length ≤ 1000000000 from by rw [← HNX.out]; exact HIL.out (q + 1))
          have HL1 := Lib.hid (show ((bys (inn P j r q)).length + (bys (strB kk)).length) * 1 ≤ 140737488355328 from by have h1 := HLx.out; simp only [List.length_append] at h1; simp only [bys_len]; omega)
          have HL2 := Lib.hid (show ((bys (inn P j r q ++ strB kk)).length + (bys (natB (zig nn))).length) * 1 ≤ 140737488355328 from by have h1 := HLx.out; simp only [List.length_append] at h1; simp only [bys_len, List.length_append]; omega)
          clear hokx hxq hal2 HO3 HB3 hD0 hRw
          generalize hWW : wr.alloc (.cells #[.string kk, .int .i64 nn] 29) = WW at *
          go_wp2_with fail
          generalize wr.heap.size = t7 at *
          (with_reducible refine (rstr kk WW (by have := HK.out; omega)).mono ?_)
          rintro e w5 ⟨v5, rfl, ho5, hb5⟩
          obtain ⟨g5, c5, e5, _, hR5⟩ := own_bys ho5 (by simp [strB, natB])
          subst e5
          have HR5 := Lib.hid hR5
          have HO5 := Lib.hid (HO9.out.below hb5)
          have HB5 := Lib.hid (below_then HB9.out hb5)
          clear d0 d1
          have hD1 := HD0.out.fr (Fr.of_below (S := none_) hb5) (fun h => h.elim)
          have d0 := hD1.at_ 0 rfl
          have d1 := hD1.at_ 1 rfl
          simp only [List.getElem_toArray, List.getElem_cons_succ, List.getElem_cons_zero] at d0 d1
          have HD1 := Lib.hid hD1
          clear ho5 hb5 hR5 hD1
          go_wp2_with (at_builtin; refine Classical.byContradiction fun hcontra => ?_)
          refine hcontra ?_
          clear hcontra
          refine appendN w.heap.size 5 1 1 (.int .u8 0) rfl (.tmp 36) (.tmp 39) 23 rfl Tryz.underlying23 (by kernel_rfl) rfl (by decide) (by decide) u3 (bys (inn P j r q)) (bys (strB kk)) rfl (some ⟨g5, 0, none⟩) (strB kk).length c5 rfl (bys_len _).symm (fun h => by cases h) HR5.out (bys_one _) (bys_cell _) HO5.out HB5.out.size HL1.out ?_
          intro v6 w6 ho6 hf6
          have HO6 := Lib.hid (show Own w6 w.heap.size 5 1 v6 (bys (inn P j r q ++ strB kk)) from by rw [← bys_app]; exact ho6)
          have HB6 := Lib.hid (HO5.out.fr_below HB5.out HB5.out.size hf6)
          clear d0 d1
          have hD2 := HD1.out.fr hf6 (fun h => own_far HO5.out HD1.out (by decide) _ h rfl)
          have d0 := hD2.at_ 0 rfl
          have d1 := hD2.at_ 1 rfl
          simp only [List.getElem_toArray, List.getElem_cons_succ, List.getElem_cons_zero] at d0 d1
          have HD2 := Lib.hid hD2
          clear ho6 hf6 hD2
          go_wp2_with fail
          (with_reducible refine (rnum nn w6 HN1.out.1 HN1.out.2).mono ?_)
          rintro e w7 ⟨v7, rfl, ho7, hb7⟩
          obtain ⟨g7, c7, e7, _, hR7⟩ := own_bys ho7 (natB_ne _)
          subst e7
          have HR7 := Lib.hid hR7
          have HO7 := Lib.hid (HO6.out.below hb7)
          have HB7 := Lib.hid (below_then HB6.out hb7)
          clear ho7 hb7 hR7 d0 d1
          go_wp2_with (at_builtin; refine Classical.byContradiction fun hcontra => ?_)
          refine hcontra ?_
          clear hcontra
          refine appendN w.heap.size 5 1 1 (.int .u8 0) rfl (.tmp 41) (.tmp 44) 23 rfl Tryz.underlying23 (by kernel_rfl) rfl (by decide) (by decide) v6 (bys (inn P j r q ++ strB kk)) (bys (natB (zig nn))) rfl (some ⟨g7, 0, none⟩) (natB (zig nn)).length c7 rfl (bys_len _).symm (fun h => by cases h) HR7.out (bys_one _) (bys_cell _) HO7.out HB7.out.size HL2.out ?_
          intro v8 w8 ho8 hf8
          have HO8 := Lib.hid (show Own w8 w.heap.size 5 1 v8 (bys (inn P j r q ++ strB kk ++ natB (zig nn))) from by rw [← bys_app]; exact ho8)
          have HB8 := Lib.hid (HO7.out.fr_below HB7.out HB7.out.size hf8)
          clear ho8 hf8
          go_wp2_with fail
          go_roundg (nr - (q + 1))
          case measure => omega
          case rel => exact ⟨q + 1, by omega, rfl, by go_num, Lib.hid (by rw [HNX.out]; exact HO8.out), HB8⟩
        · obtain rfl : q = nr := by omega
          have hO := HO3.out
          rw [← HNr.out, ← pre_next HX.out] at hO
          have HO4 := Lib.hid hO
          clear hO
          go_wp2_with fail
          go_roundg (N - (j + 1))
          case measure => omega
          case rel => exact ⟨j + 1, by omega, rfl, by go_num, HO4, HB3⟩
    · obtain rfl : j = N := by omega
      have hO := HO.out
      rw [← HN.out, pre_end] at hO
      have HO3 := Lib.hid hO
      clear hO
      go_wp2_with fail
      exact ⟨_, rfl, HO3.out, HB.out⟩
end Go.Proofs.YtlekfpeonehggaaGreatDoor
end
