/- The document's Holds. -/
import Derived.Test.YtlekfpeonehggaaGreatDoorJ41
section
set_option linter.unusedVariables false
set_option linter.unusedSimpArgs false
set_option maxRecDepth 100000
namespace Go.Proofs.YtlekfpeonehggaaGreatDoor
open Go.Proofs.BL Go.Proofs.Peel Go.RowKit Go.Proofs.Ky

def hldR (l : List Rw) : Bool := upB l && l.all (fun r => decide (r.1.size ≤ 16))
def hldP (most : Int) (P : List (List Rw)) : Bool := P.all (fun p => !(p.length == 0) && decide ((p.length : Int) ≤ most))
def hldB (most : Int) (P : List (List Rw)) : Bool := hldR P.flatten && hldP most P && decide (P.flatten.length ≤ 256)
theorem lastK_take {l : List Rw} {m : Nat} {z : Rw} (h : l[m]? = some z) : lastK (l.take (m + 1)) = z.1 := by
  obtain ⟨hm, e⟩ := List.getElem?_eq_some_iff.1 h
  rw [List.take_succ_eq_append_getElem hm, e, lastK_snoc]
theorem upB_take {l : List Rw} {i : Nat} {x : Rw} (h : l[i]? = some x) (hu : upB (l.take i) = true) (hx : i = 0 ∨ tx.lt (lastK (l.take i)) x.1 = true) : upB (l.take (i + 1)) = true := by
  obtain ⟨hi, e⟩ := List.getElem?_eq_some_iff.1 h
  rw [List.take_succ_eq_append_getElem hi, e]
  refine (upB_iff _).2 (up_snoc ((upB_iff _).1 hu) ?_)
  rcases hx with rfl | hx
  · exact .inl rfl
  · exact .inr hx
theorem upB_no {l : List Rw} {m : Nat} {x : Rw} (h : l[m + 1]? = some x) (hx : tx.lt (lastK (l.take (m + 1))) x.1 = false) : upB l = false := by
  obtain ⟨hi, e⟩ := List.getElem?_eq_some_iff.1 h
  have h1 : l = l.take (m + 1) ++ x :: l.drop (m + 2) := by
    rw [← e, ← List.drop_eq_getElem_cons hi, List.take_append_drop]
  rw [h1]
  refine up_bad (fun e => ?_) hx
  have := congrArg List.length e
  rw [List.length_take, List.length_nil] at this
  omega
theorem all_no {α : Type _} {l : List α} {f : α → Bool} {i : Nat} {x : α} (h : l[i]? = some x) (hx : f x = false) : l.all f = false := by
  rw [List.all_eq_false]
  exact ⟨x, List.mem_of_getElem? h, by rw [hx]; simp⟩
theorem all_next {α : Type _} {l : List α} {f : α → Bool} {i : Nat} {x : α} (h : l[i]? = some x) (h0 : (l.take i).all f = true) (hx : f x = true) : (l.take (i + 1)).all f = true := by
  obtain ⟨hi, e⟩ := List.getElem?_eq_some_iff.1 h
  rw [List.take_succ_eq_append_getElem hi, e, List.all_append, h0]
  simp [hx]
theorem hldB_no1 {most : Int} {P : List (List Rw)} (h : hldR P.flatten = false) : hldB most P = false := by rw [hldB, h]; rfl
theorem hldB_no2 {most : Int} {P : List (List Rw)} (h : hldP most P = false) : hldB most P = false := by rw [hldB, h]; simp
theorem hldB_yes {most : Int} {P : List (List Rw)} (h1 : hldR P.flatten = true) (h2 : hldP most P = true) : hldB most P = decide (P.flatten.length ≤ 256) := by rw [hldB, h1, h2]; rfl
set_option maxHeartbeats 8000000 in
theorem dHolds (q : Nat) (most : Int) (A : Option Addr) (c : Nat) (P : List (List Rw)) (w : World) (hB : Blk w q #[.int .i64 most, .slice A P.length c] 26) (hP : PgR w A P) (hl : P.flatten.length ≤ 100000) (hpl : P.length ≤ 100000) (hpp : ∀ r ∈ P, r.length ≤ 100000) :
    Calls Tryz.prog 13 #[.pointer (some ⟨q, 0, none⟩)] w (Ans w (.bool (hldB most P))) := by
  refine via fun Q hQ => ?_
  have HQ := Lib.hid hQ
  have HRo := Lib.hid (dRows q most A c P w hB hP hl hpl)
  have HBq := Lib.hid hB
  have HP := Lib.hid hP
  have HPP := Lib.hid hpp
  have HN1 := Lib.hid (hldB_no1 (most := most) (P := P))
  have HN2 := Lib.hid (hldB_no2 (most := most) (P := P))
  have HYs := Lib.hid (hldB_yes (most := most) (P := P))
  clear hQ hB hP hpp
  generalize hD : hldB most P = D at *
  clear hD
  generalize hfl : P.flatten = fl at *
  have HFL := Lib.hid hfl
  clear hfl
  generalize hF : fl.length = F at *
  have HF := Lib.hid hF
  clear hF
  generalize hN : P.length = N at *
  have HN := Lib.hid hN
  clear hN
  go_enter Tryz.func13, Tryz.ntmps13
  go_wp2_with fail
  (with_reducible refine HRo.out.mono ?_)
  rintro e w1 ⟨v1, rfl, ho1, hb1⟩
  obtain ⟨B1, d1, ev1, hd1, _, hr1⟩ := ho1.slv'
  rw [rwR_len, HF.out] at ev1
  rw [rwR_len, HF.out] at hd1
  subst ev1
  have HR1 := Lib.hid hr1
  have HB1 := Lib.hid hb1
  clear ho1 hb1 hr1 HRo
  go_wp2_with fail
  go_loopg [12] F (fun g x12 wr => ∃ i : Nat, i ≤ F ∧ g = F - i ∧ x12 = .int .i64 i ∧ Hid (upB (fl.take i) = true) ∧ Hid ((fl.take i).all (fun r => decide (r.1.size ≤ 16)) = true) ∧ Hid (Below w1.heap.size w1 wr))
  case atStart => exact ⟨0, Nat.zero_le _, rfl, rfl, Lib.hid rfl, Lib.hid rfl, Lib.hid (Below.refl _ _)⟩
  case round =>
    obtain ⟨i, hi, rfl, rfl, HU, HA, HB⟩ := hrel
    by_cases hlt : i < F
    · have hltI : (i : Int) < (F : Int) := by omega
      have hx : fl[i]? = some (fl[i]'(by rw [HF.out]; exact hlt)) := List.getElem?_eq_getElem _
      generalize fl[i]'(by rw [HF.out]; exact hlt) = x at hx
      have hrr := HR1.out.below HB.out
      obtain ⟨b, o, rfl, k0, k1⟩ := rowAt hrr hx
      have hal := (Below.refl wr.heap.size wr).alloc (Nat.le_refl _) (.cells #[.string x.1, .int .i64 x.2] 29)
      have HB2 := Lib.hid (below_then HB.out hal)
      have HBW := Lib.hid (below_then HB1.out (below_then HB.out hal))
      by_cases hs : x.1.size ≤ 16
      · have hsI : (x.1.size : Int) ≤ 16 := by omega
        have hsN : decide ((16 : Int) < (x.1.size : Int)) = false := decide_eq_false (by omega)
        have hsM : decide (16 < x.1.size) = false := decide_eq_false (by omega)
        have HA2 := Lib.hid (all_next hx HA.out (decide_eq_true hs))
        rcases Nat.eq_zero_or_pos i with h0 | h0
        · subst h0
          have HU2 := Lib.hid (upB_take hx HU.out (.inl rfl))
          clear hx hrr hal hs HU HA
          obtain ⟨kk, nn⟩ := x
          simp only [Nat.zero_mul, Nat.add_zero] at k0 k1 hsI hsN hsM
          have m0 : World.cell? (wr.alloc (.cells #[.string kk, .int .i64 nn] 29)).drew ⟨wr.heap.size, 0, none⟩ = some (.string kk) := (Blk.new wr _ _).at_ 0 rfl
          generalize hWW : wr.alloc (.cells #[.string kk, .int .i64 nn] 29) = WW at *
          go_wp2_with fail
          refine Rg.beginH (fun x => x.cell? ⟨wr.heap.size, 0, none⟩ = some (.string kk)) (by kernel_rfl) ?_
          have hS0 : (fun x => x.cell? ⟨wr.heap.size, 0, none⟩ = some (.string kk)) (World.drew WW) := m0
          refine Rg.takeH (i := 0) (v := ?_) rfl (by kernel_rfl) (fun _ _ _ h => h) hS0 (Or.inl ⟨by rfl, ?_⟩) ?_
          rotate_left
          · ((intro w hSw; (try dsimp only at hSw); go_simp) <;> (with_reducible rfl))
          try simp only [Act.put, List.setIfInBounds_toArray, List.set_cons_zero, List.set_cons_succ]
          refine Rg.takeH (i := 1) (v := ?_) rfl (by kernel_rfl) (fun _ _ _ h => h) hS0 (Or.inl ⟨by rfl, ?_⟩) ?_
          rotate_left
          · ((intro w hSw; (try dsimp only at hSw); go_simp) <;> (with_reducible rfl))
          try simp only [Act.put, List.setIfInBounds_toArray, List.set_cons_zero, List.set_cons_succ]
          refine Rg.takeH (i := 2) (v := ?_) rfl (by kernel_rfl) (fun _ _ _ h => h) hS0 (Or.inl ⟨by rfl, ?_⟩) ?_
          rotate_left
          · ((intro w hSw; (try dsimp only at hSw); go_simp) <;> (with_reducible rfl))
          try simp only [Act.put, List.setIfInBounds_toArray, List.set_cons_zero, List.set_cons_succ]
          refine Rg.takeH (i := 3) (v := ?_) rfl (by kernel_rfl) (fun _ _ _ h => h) hS0 (Or.inl ⟨by rfl, ?_⟩) ?_
          rotate_left
          · ((intro w hSw; (try dsimp only at hSw); go_simp) <;> (with_reducible rfl))
          try simp only [Act.put, List.setIfInBounds_toArray, List.set_cons_zero, List.set_cons_succ]
          refine Rg.takeH (i := 4) (v := ?_) rfl (by kernel_rfl) (fun _ _ _ h => h) hS0 (Or.inl ⟨by rfl, ?_⟩) ?_
          rotate_left
          · ((intro w hSw; (try dsimp only at hSw); go_simp) <;> (with_reducible rfl))
          try simp only [Act.put, List.setIfInBounds_toArray, List.set_cons_zero, List.set_cons_succ]
          refine Rg.takeH (i := 5) (v := ?_) rfl (by kernel_rfl) (fun _ _ _ h => h) hS0 (Or.inl ⟨by rfl, ?_⟩) ?_
          rotate_left
          · ((intro w hSw; (try dsimp only at hSw); go_simp) <;> (with_reducible rfl))
          try simp only [Act.put, List.setIfInBounds_toArray, List.set_cons_zero, List.set_cons_succ]
          refine Rg.takeH (i := 6) (v := ?_) rfl (by kernel_rfl) (fun _ _ _ h => h) hS0 (Or.inl ⟨by rfl, ?_⟩) ?_
          rotate_left
          · ((intro w hSw; (try dsimp only at hSw); go_simp) <;> (with_reducible rfl))
          try simp only [Act.put, List.setIfInBounds_toArray, List.set_cons_zero, List.set_cons_succ]
          refine Rg.takeH (i := 7) (v := ?_) rfl (by kernel_rfl) (fun _ _ _ h => h) hS0 (Or.inl ⟨by rfl, ?_⟩) ?_
          rotate_left
          · ((intro w hSw; (try dsimp only at hSw); go_simp) <;> (with_reducible rfl))
          try simp only [Act.put, List.setIfInBounds_toArray, List.set_cons_zero, List.set_cons_succ]
          refine Rg.takeH (i := 8) (v := undef) rfl (by kernel_rfl) (fun _ _ _ h => h) hS0 (Or.inr ⟨by rfl, rfl⟩) ?_
          try simp only [Act.put, List.setIfInBounds_toArray, List.set_cons_zero, List.set_cons_succ]
          refine Rg.takeH (i := 9) (v := undef) rfl (by kernel_rfl) (fun _ _ _ h => h) hS0 (Or.inr ⟨by rfl, rfl⟩) ?_
          try simp only [Act.put, List.setIfInBounds_toArray, List.set_cons_zero, List.set_cons_succ]
          refine Rg.takeH (i := 10) (v := undef) rfl (by kernel_rfl) (fun _ _ _ h => h) hS0 (Or.inr ⟨by rfl, rfl⟩) ?_
          try simp only [Act.put, List.setIfInBounds_toArray, List.set_cons_zero, List.set_cons_succ]
          refine Rg.takeH (i := 11) (v := undef) rfl (by kernel_rfl) (fun _ _ _ h => h) hS0 (Or.inr ⟨by rfl, rfl⟩) ?_
          try simp only [Act.put, List.setIfInBounds_toArray, List.set_cons_zero, List.set_cons_succ]
          refine Rg.takeH (i := 12) (v := undef) rfl (by kernel_rfl) (fun _ _ _ h => h) hS0 (Or.inr ⟨by rfl, rfl⟩) ?_
          try simp only [Act.put, List.setIfInBounds_toArray, List.set_cons_zero, List.set_cons_succ]
          refine Rg.takeH (i := 13) (v := undef) rfl (by kernel_rfl) (fun _ _ _ h => h) hS0 (Or.inr ⟨by rfl, rfl⟩) ?_
          try simp only [Act.put, List.setIfInBounds_toArray, List.set_cons_zero, List.set_cons_succ]
          refine Rg.takeH (i := 14) (v := undef) rfl (by kernel_rfl) (fun _ _ _ h => h) hS0 (Or.inr ⟨by rfl, rfl⟩) ?_
          try simp only [Act.put, List.setIfInBounds_toArray, List.set_cons_zero, List.set_cons_succ]
          refine Rg.takeH (i := 15) (v := undef) rfl (by kernel_rfl) (fun _ _ _ h => h) hS0 (Or.inr ⟨by rfl, rfl⟩) ?_
          try simp only [Act.put, List.setIfInBounds_toArray, List.set_cons_zero, List.set_cons_succ]
          refine Rg.takeH (i := 16) (v := undef) rfl (by kernel_rfl) (fun _ _ _ h => h) hS0 (Or.inr ⟨by rfl, rfl⟩) ?_
          try simp only [Act.put, List.setIfInBounds_toArray, List.set_cons_zero, List.set_cons_succ]
          refine Rg.takeH (i := 17) (v := ?_) rfl (by kernel_rfl) (fun _ _ _ h => h) hS0 (Or.inl ⟨by rfl, ?_⟩) ?_
          rotate_left
          · ((intro w hSw; (try dsimp only at hSw); go_simp) <;> (with_reducible rfl))
          try simp only [Act.put, List.setIfInBounds_toArray, List.set_cons_zero, List.set_cons_succ]
          refine Rg.takeH (i := 18) (v := ?_) rfl (by kernel_rfl) (fun _ _ _ h => h) hS0 (Or.inl ⟨by rfl, ?_⟩) ?_
          rotate_left
          · ((intro w hSw; (try dsimp only at hSw); go_simp) <;> (with_reducible rfl))
          try simp only [Act.put, List.setIfInBounds_toArray, List.set_cons_zero, List.set_cons_succ]
          refine wpAnyH_done (by kernel_rfl) ?_ _
          go_wp2_with fail
          go_roundg (F - 1)
          case measure => omega
          case rel => exact ⟨1, by omega, rfl, by go_num, HU2, HA2, Lib.hid (below_then HB2.out (show Below WW.heap.size WW WW.drew from drew_below WW 1))⟩
        · obtain ⟨m, rfl⟩ : ∃ m, i = m + 1 := ⟨i - 1, by omega⟩
          have hz : fl[m]? = some (fl[m]'(by rw [HF.out]; omega)) := List.getElem?_eq_getElem _
          generalize fl[m]'(by rw [HF.out]; omega) = z at hz
          obtain ⟨b', o', e', j0, _⟩ := rowAt hrr hz
          injection e' with e'
          injection e' with e1 e2 _
          subst e1 e2
          have hlk := lastK_take hz
          have hle := less_tx x.1 z.1
          have j1 := (hal.cell (World.block_lt_of_cell? _ _ j0)).trans j0
          cases hX : tx.lt z.1 x.1 with
          | true =>
            have hb1 := hle.trans (tx_as hX)
            have hb2 := str_diff (tx_ne hX).symm
            have HU2 := Lib.hid (upB_take hx HU.out (.inr (by rw [hlk]; exact hX)))
            clear hx hrr hal hs HU HA hz hlk hle hX
            obtain ⟨kk, nn⟩ := x
            obtain ⟨zk, zn⟩ := z
            simp only at k0 k1 hsI hsN hsM j0 j1 hb1 hb2
            have hm0 : decide ((0 : Int) < (m : Int) + 1) = true := decide_eq_true (by omega)
            have hm1 : (m : Int) + 1 - 1 = (m : Int) := by omega
            have hmF : (m : Int) < (F : Int) := by omega
            have hmz : (0 : Int) ≤ (m : Int) := by omega
            have hmw : IntKind.i64.wrap (m : Int) = (m : Int) := by rw [IntKind.wrap_i64]; omega
            have m0 : World.cell? (wr.alloc (.cells #[.string kk, .int .i64 nn] 29)).drew ⟨wr.heap.size, 0, none⟩ = some (.string kk) := (Blk.new wr _ _).at_ 0 rfl
            have j1 : World.cell? (wr.alloc (.cells #[.string kk, .int .i64 nn] 29)).drew ⟨b, o + m * 2, none⟩ = some (.string zk) := j1
            generalize hWW : wr.alloc (.cells #[.string kk, .int .i64 nn] 29) = WW at *
            go_wp2_with fail
            refine Rg.beginH (fun x => x.cell? ⟨wr.heap.size, 0, none⟩ = some (.string kk) ∧ x.cell? ⟨b, o + m * 2, none⟩ = some (.string zk)) (by kernel_rfl) ?_
            have hS0 : (fun x => x.cell? ⟨wr.heap.size, 0, none⟩ = some (.string kk) ∧ x.cell? ⟨b, o + m * 2, none⟩ = some (.string zk)) (World.drew WW) := ⟨m0, j1⟩
            refine Rg.takeH (i := 0) (v := ?_) rfl (by kernel_rfl) (fun _ _ _ h => h) hS0 (Or.inl ⟨by rfl, ?_⟩) ?_
            rotate_left
            · ((intro w hSw; (try dsimp only at hSw); go_simp) <;> (with_reducible rfl))
            try simp only [Act.put, List.setIfInBounds_toArray, List.set_cons_zero, List.set_cons_succ]
            refine Rg.takeH (i := 1) (v := ?_) rfl (by kernel_rfl) (fun _ _ _ h => h) hS0 (Or.inl ⟨by rfl, ?_⟩) ?_
            rotate_left
            · ((intro w hSw; (try dsimp only at hSw); go_simp) <;> (with_reducible rfl))
            try simp only [Act.put, List.setIfInBounds_toArray, List.set_cons_zero, List.set_cons_succ]
            refine Rg.takeH (i := 2) (v := ?_) rfl (by kernel_rfl) (fun _ _ _ h => h) hS0 (Or.inl ⟨by rfl, ?_⟩) ?_
            rotate_left
            · ((intro w hSw; (try dsimp only at hSw); go_simp) <;> (with_reducible rfl))
            try simp only [Act.put, List.setIfInBounds_toArray, List.set_cons_zero, List.set_cons_succ]
            refine Rg.takeH (i := 3) (v := ?_) rfl (by kernel_rfl) (fun _ _ _ h => h) hS0 (Or.inl ⟨by rfl, ?_⟩) ?_
            rotate_left
            · ((intro w hSw; (try dsimp only at hSw); go_simp) <;> (with_reducible rfl))
            try simp only [Act.put, List.setIfInBounds_toArray, List.set_cons_zero, List.set_cons_succ]
            refine Rg.takeH (i := 4) (v := ?_) rfl (by kernel_rfl) (fun _ _ _ h => h) hS0 (Or.inl ⟨by rfl, ?_⟩) ?_
            rotate_left
            · ((intro w hSw; (try dsimp only at hSw); go_simp) <;> (with_reducible rfl))
            try simp only [Act.put, List.setIfInBounds_toArray, List.set_cons_zero, List.set_cons_succ]
            refine Rg.takeH (i := 5) (v := ?_) rfl (by kernel_rfl) (fun _ _ _ h => h) hS0 (Or.inl ⟨by rfl, ?_⟩) ?_
            rotate_left
            · ((intro w hSw; (try dsimp only at hSw); go_simp) <;> (with_reducible rfl))
            try simp only [Act.put, List.setIfInBounds_toArray, List.set_cons_zero, List.set_cons_succ]
            refine Rg.takeH (i := 6) (v := ?_) rfl (by kernel_rfl) (fun _ _ _ h => h) hS0 (Or.inl ⟨by rfl, ?_⟩) ?_
            rotate_left
            · ((intro w hSw; (try dsimp only at hSw); go_simp) <;> (with_reducible rfl))
            try simp only [Act.put, List.setIfInBounds_toArray, List.set_cons_zero, List.set_cons_succ]
            refine Rg.takeH (i := 7) (v := ?_) rfl (by kernel_rfl) (fun _ _ _ h => h) hS0 (Or.inl ⟨by rfl, ?_⟩) ?_
            rotate_left
            · ((intro w hSw; (try dsimp only at hSw); go_simp) <;> (with_reducible rfl))
            try simp only [Act.put, List.setIfInBounds_toArray, List.set_cons_zero, List.set_cons_succ]
            refine Rg.takeH (i := 8) (v := ?_) rfl (by kernel_rfl) (fun _ _ _ h => h) hS0 (Or.inl ⟨by rfl, ?_⟩) ?_
            rotate_left
            · ((intro w hSw; (try dsimp only at hSw); go_simp) <;> (with_reducible rfl))
            try simp only [Act.put, List.setIfInBounds_toArray, List.set_cons_zero, List.set_cons_succ]
            refine Rg.takeH (i := 9) (v := ?_) rfl (by kernel_rfl) (fun _ _ _ h => h) hS0 (Or.inl ⟨by rfl, ?_⟩) ?_
            rotate_left
            · ((intro w hSw; (try dsimp only at hSw); go_simp) <;> (with_reducible rfl))
            try simp only [Act.put, List.setIfInBounds_toArray, List.set_cons_zero, List.set_cons_succ]
            refine Rg.takeH (i := 10) (v := ?_) rfl (by kernel_rfl) (fun _ _ _ h => h) hS0 (Or.inl ⟨by rfl, ?_⟩) ?_
            rotate_left
            · ((intro w hSw; (try dsimp only at hSw); go_simp) <;> (with_reducible rfl))
            try simp only [Act.put, List.setIfInBounds_toArray, List.set_cons_zero, List.set_cons_succ]
            refine Rg.takeH (i := 11) (v := ?_) rfl (by kernel_rfl) (fun _ _ _ h => h) hS0 (Or.inl ⟨by rfl, ?_⟩) ?_
            rotate_left
            · ((intro w hSw; (try dsimp only at hSw); go_simp) <;> (with_reducible rfl))
            try simp only [Act.put, List.setIfInBounds_toArray, List.set_cons_zero, List.set_cons_succ]
            refine Rg.takeH (i := 12) (v := ?_) rfl (by kernel_rfl) (fun _ _ _ h => h) hS0 (Or.inl ⟨by rfl, ?_⟩) ?_
            rotate_left
            · ((intro w hSw; (try dsimp only at hSw); go_simp) <;> (with_reducible rfl))
            try simp only [Act.put, List.setIfInBounds_toArray, List.set_cons_zero, List.set_cons_succ]
            refine Rg.takeH (i := 13) (v := ?_) rfl (by kernel_rfl) (fun _ _ _ h => h) hS0 (Or.inl ⟨by rfl, ?_⟩) ?_
            rotate_left
            · ((intro w hSw; (try dsimp only at hSw); go_simp) <;> (with_reducible rfl))
            try simp only [Act.put, List.setIfInBounds_toArray, List.set_cons_zero, List.set_cons_succ]
            refine Rg.takeH (i := 14) (v := ?_) rfl (by kernel_rfl) (fun _ _ _ h => h) hS0 (Or.inl ⟨by rfl, ?_⟩) ?_
            rotate_left
            · ((intro w hSw; (try dsimp only at hSw); go_simp) <;> (with_reducible rfl))
            try simp only [Act.put, List.setIfInBounds_toArray, List.set_cons_zero, List.set_cons_succ]
            refine Rg.takeH (i := 15) (v := ?_) rfl (by kernel_rfl) (fun _ _ _ h => h) hS0 (Or.inl ⟨by rfl, ?_⟩) ?_
            rotate_left
            · ((intro w hSw; (try dsimp only at hSw); go_simp) <;> (with_reducible rfl))
            try simp only [Act.put, List.setIfInBounds_toArray, List.set_cons_zero, List.set_cons_succ]
            refine Rg.takeH (i := 16) (v := ?_) rfl (by kernel_rfl) (fun _ _ _ h => h) hS0 (Or.inl ⟨by rfl, ?_⟩) ?_
            rotate_left
            · ((intro w hSw; (try dsimp only at hSw); go_simp) <;> (with_reducible rfl))
            try simp only [Act.put, List.setIfInBounds_toArray, List.set_cons_zero, List.set_cons_succ]
            refine Rg.takeH (i := 17) (v := ?_) rfl (by kernel_rfl) (fun _ _ _ h => h) hS0 (Or.inl ⟨by rfl, ?_⟩) ?_
            rotate_left
            · ((intro w hSw; (try dsimp only at hSw); go_simp) <;> (with_reducible rfl))
            try simp only [Act.put, List.setIfInBounds_toArray, List.set_cons_zero, List.set_cons_succ]
            refine Rg.takeH (i := 18) (v := ?_) rfl (by kernel_rfl) (fun _ _ _ h => h) hS0 (Or.inl ⟨by rfl, ?_⟩) ?_
            rotate_left
            · ((intro w hSw; (try dsimp only at hSw); go_simp) <;> (with_reducible rfl))
            try simp only [Act.put, List.setIfInBounds_toArray, List.set_cons_zero, List.set_cons_succ]
            refine wpAnyH_done (by kernel_rfl) ?_ _
            go_wp2_with fail
            go_roundg (F - (m + 1 + 1))
            case measure => omega
            case rel => exact ⟨m + 1 + 1, by omega, rfl, by go_num, HU2, HA2, Lib.hid (below_then HB2.out (show Below WW.heap.size WW WW.drew from drew_below WW 1))⟩
          | false =>
            have HD := Lib.hid (HN1.out (by rw [hldR, upB_no hx (by rw [hlk]; exact hX)]; rfl))
            have hcase : Op.bytesLess x.1.toList z.1.toList = true ∨ (Op.bytesLess x.1.toList z.1.toList = false ∧ (x.1.toList == z.1.toList) = true) := by
              cases hY : tx.lt x.1 z.1 with
              | true => exact .inl (hle.trans hY)
              | false => exact .inr ⟨hle.trans hY, str_same (tx.tot _ _ hY hX)⟩
            clear hx hrr hal hs HU HA hz hlk hle hX
            obtain ⟨kk, nn⟩ := x
            obtain ⟨zk, zn⟩ := z
            simp only at k0 k1 hsI hsN hsM j0 j1 hcase
            have hm0 : decide ((0 : Int) < (m : Int) + 1) = true := decide_eq_true (by omega)
            have hm1 : (m : Int) + 1 - 1 = (m : Int) := by omega
            have hmF : (m : Int) < (F : Int) := by omega
            have hmz : (0 : Int) ≤ (m : Int) := by omega
            have hmw : IntKind.i64.wrap (m : Int) = (m : Int) := by rw [IntKind.wrap_i64]; omega
            have m0 : World.cell? (wr.alloc (.cells #[.string kk, .int .i64 nn] 29)).drew ⟨wr.heap.size, 0, none⟩ = some (.string kk) := (Blk.new wr _ _).at_ 0 rfl
            have j1 : World.cell? (wr.alloc (.cells #[.string kk, .int .i64 nn] 29)).drew ⟨b, o + m * 2, none⟩ = some (.string zk) := j1
            generalize hWW : wr.alloc (.cells #[.string kk, .int .i64 nn] 29) = WW at *
            rcases hcase with hb1 | ⟨hb1, hb2⟩
            · go_wp2_with fail
              refine Rg.beginH (fun x => x.cell? ⟨wr.heap.size, 0, none⟩ = some (.string kk) ∧ x.cell? ⟨b, o + m * 2, none⟩ = some (.string zk)) (by kernel_rfl) ?_
              have hS0 : (fun x => x.cell? ⟨wr.heap.size, 0, none⟩ = some (.string kk) ∧ x.cell? ⟨b, o + m * 2, none⟩ = some (.string zk)) (World.drew WW) := ⟨m0, j1⟩
              refine Rg.takeH (i := 0) (v := ?_) rfl (by kernel_rfl) (fun _ _ _ h => h) hS0 (Or.inl ⟨by rfl, ?_⟩) ?_
              rotate_left
              · ((intro w hSw; (try dsimp only at hSw); go_simp) <;> (with_reducible rfl))
              try simp only [Act.put, List.setIfInBounds_toArray, List.set_cons_zero, List.set_cons_succ]
              refine Rg.takeH (i := 1) (v := ?_) rfl (by kernel_rfl) (fun _ _ _ h => h) hS0 (Or.inl ⟨by rfl, ?_⟩) ?_
              rotate_left
              · ((intro w hSw; (try dsimp only at hSw); go_simp) <;> (with_reducible rfl))
              try simp only [Act.put, List.setIfInBounds_toArray, List.set_cons_zero, List.set_cons_succ]
              refine Rg.takeH (i := 2) (v := ?_) rfl (by kernel_rfl) (fun _ _ _ h => h) hS0 (Or.inl ⟨by rfl, ?_⟩) ?_
              rotate_left
              · ((intro w hSw; (try dsimp only at hSw); go_simp) <;> (with_reducible rfl))
              try simp only [Act.put, List.setIfInBounds_toArray, List.set_cons_zero, List.set_cons_succ]
              refine Rg.takeH (i := 3) (v := ?_) rfl (by kernel_rfl) (fun _ _ _ h => h) hS0 (Or.inl ⟨by rfl, ?_⟩) ?_
              rotate_left
              · ((intro w hSw; (try dsimp only at hSw); go_simp) <;> (with_reducible rfl))
              try simp only [Act.put, List.setIfInBounds_toArray, List.set_cons_zero, List.set_cons_succ]
              refine Rg.takeH (i := 4) (v := ?_) rfl (by kernel_rfl) (fun _ _ _ h => h) hS0 (Or.inl ⟨by rfl, ?_⟩) ?_
              rotate_left
              · ((intro w hSw; (try dsimp only at hSw); go_simp) <;> (with_reducible rfl))
              try simp only [Act.put, List.setIfInBounds_toArray, List.set_cons_zero, List.set_cons_succ]
              refine Rg.takeH (i := 5) (v := ?_) rfl (by kernel_rfl) (fun _ _ _ h => h) hS0 (Or.inl ⟨by rfl, ?_⟩) ?_
              rotate_left
              · ((intro w hSw; (try dsimp only at hSw); go_simp) <;> (with_reducible rfl))
              try simp only [Act.put, List.setIfInBounds_toArray, List.set_cons_zero, List.set_cons_succ]
              refine Rg.takeH (i := 6) (v := ?_) rfl (by kernel_rfl) (fun _ _ _ h => h) hS0 (Or.inl ⟨by rfl, ?_⟩) ?_
              rotate_left
              · ((intro w hSw; (try dsimp only at hSw); go_simp) <;> (with_reducible rfl))
              try simp only [Act.put, List.setIfInBounds_toArray, List.set_cons_zero, List.set_cons_succ]
              refine Rg.takeH (i := 7) (v := ?_) rfl (by kernel_rfl) (fun _ _ _ h => h) hS0 (Or.inl ⟨by rfl, ?_⟩) ?_
              rotate_left
              · ((intro w hSw; (try dsimp only at hSw); go_simp) <;> (with_reducible rfl))
              try simp only [Act.put, List.setIfInBounds_toArray, List.set_cons_zero, List.set_cons_succ]
              refine Rg.takeH (i := 8) (v := ?_) rfl (by kernel_rfl) (fun _ _ _ h => h) hS0 (Or.inl ⟨by rfl, ?_⟩) ?_
              rotate_left
              · ((intro w hSw; (try dsimp only at hSw); go_simp) <;> (with_reducible rfl))
              try simp only [Act.put, List.setIfInBounds_toArray, List.set_cons_zero, List.set_cons_succ]
              refine Rg.takeH (i := 9) (v := ?_) rfl (by kernel_rfl) (fun _ _ _ h => h) hS0 (Or.inl ⟨by rfl, ?_⟩) ?_
              rotate_left
              · ((intro w hSw; (try dsimp only at hSw); go_simp) <;> (with_reducible rfl))
              try simp only [Act.put, List.setIfInBounds_toArray, List.set_cons_zero, List.set_cons_succ]
              refine Rg.takeH (i := 10) (v := ?_) rfl (by kernel_rfl) (fun _ _ _ h => h) hS0 (Or.inl ⟨by rfl, ?_⟩) ?_
              rotate_left
              · ((intro w hSw; (try dsimp only at hSw); go_simp) <;> (with_reducible rfl))
              try simp only [Act.put, List.setIfInBounds_toArray, List.set_cons_zero, List.set_cons_succ]
              refine Rg.takeH (i := 11) (v := ?_) rfl (by kernel_rfl) (fun _ _ _ h => h) hS0 (Or.inl ⟨by rfl, ?_⟩) ?_
              rotate_left
              · ((intro w hSw; (try dsimp only at hSw); go_simp) <;> (with_reducible rfl))
              try simp only [Act.put, List.setIfInBounds_toArray, List.set_cons_zero, List.set_cons_succ]
              refine Rg.takeH (i := 12) (v := ?_) rfl (by kernel_rfl) (fun _ _ _ h => h) hS0 (Or.inl ⟨by rfl, ?_⟩) ?_
              rotate_left
              · ((intro w hSw; (try dsimp only at hSw); go_simp) <;> (with_reducible rfl))
              try simp only [Act.put, List.setIfInBounds_toArray, List.set_cons_zero, List.set_cons_succ]
              refine Rg.takeH (i := 13) (v := ?_) rfl (by kernel_rfl) (fun _ _ _ h => h) hS0 (Or.inl ⟨by rfl, ?_⟩) ?_
              rotate_left
              · ((intro w hSw; (try dsimp only at hSw); go_simp) <;> (with_reducible rfl))
              try simp only [Act.put, List.setIfInBounds_toArray, List.set_cons_zero, List.set_cons_succ]
              refine Rg.takeH (i := 14) (v := ?_) rfl (by kernel_rfl) (fun _ _ _ h => h) hS0 (Or.inl ⟨by rfl, ?_⟩) ?_
              rotate_left
              · ((intro w hSw; (try dsimp only at hSw); go_simp) <;> (with_reducible rfl))
              try simp only [Act.put, List.setIfInBounds_toArray, List.set_cons_zero, List.set_cons_succ]
              refine Rg.takeH (i := 15) (v := ?_) rfl (by kernel_rfl) (fun _ _ _ h => h) hS0 (Or.inl ⟨by rfl, ?_⟩) ?_
              rotate_left
              · ((intro w hSw; (try dsimp only at hSw); go_simp) <;> (with_reducible rfl))
              try simp only [Act.put, List.setIfInBounds_toArray, List.set_cons_zero, List.set_cons_succ]
              refine Rg.takeH (i := 16) (v := ?_) rfl (by kernel_rfl) (fun _ _ _ h => h) hS0 (Or.inl ⟨by rfl, ?_⟩) ?_
              rotate_left
              · ((intro w hSw; (try dsimp only at hSw); go_simp) <;> (with_reducible rfl))
              try simp only [Act.put, List.setIfInBounds_toArray, List.set_cons_zero, List.set_cons_succ]
              refine Rg.takeH (i := 17) (v := ?_) rfl (by kernel_rfl) (fun _ _ _ h => h) hS0 (Or.inl ⟨by rfl, ?_⟩) ?_
              rotate_left
              · ((intro w hSw; (try dsimp only at hSw); go_simp) <;> (with_reducible rfl))
              try simp only [Act.put, List.setIfInBounds_toArray, List.set_cons_zero, List.set_cons_succ]
              refine Rg.takeH (i := 18) (v := ?_) rfl (by kernel_rfl) (fun _ _ _ h => h) hS0 (Or.inl ⟨by rfl, ?_⟩) ?_
              rotate_left
              · ((intro w hSw; (try dsimp only at hSw); go_simp) <;> (with_reducible rfl))
              try simp only [Act.put, List.setIfInBounds_toArray, List.set_cons_zero, List.set_cons_succ]
              refine wpAnyH_done (by kernel_rfl) ?_ _
              go_wp2_with fail
              exact HQ.out _ _ ⟨by rw [HD.out], below_then HBW.out (show Below WW.heap.size WW WW.drew from drew_below WW 1)⟩
            · go_wp2_with fail
              refine Rg.beginH (fun x => x.cell? ⟨wr.heap.size, 0, none⟩ = some (.string kk) ∧ x.cell? ⟨b, o + m * 2, none⟩ = some (.string zk)) (by kernel_rfl) ?_
              have hS0 : (fun x => x.cell? ⟨wr.heap.size, 0, none⟩ = some (.string kk) ∧ x.cell? ⟨b, o + m * 2, none⟩ = some (.string zk)) (World.drew WW) := ⟨m0, j1⟩
              refine Rg.takeH (i := 0) (v := ?_) rfl (by kernel_rfl) (fun _ _ _ h => h) hS0 (Or.inl ⟨by rfl, ?_⟩) ?_
              rotate_left
              · ((intro w hSw; (try dsimp only at hSw); go_simp) <;> (with_reducible rfl))
              try simp only [Act.put, List.setIfInBounds_toArray, List.set_cons_zero, List.set_cons_succ]
              refine Rg.takeH (i := 1) (v := ?_) rfl (by kernel_rfl) (fun _ _ _ h => h) hS0 (Or.inl ⟨by rfl, ?_⟩) ?_
              rotate_left
              · ((intro w hSw; (try dsimp only at hSw); go_simp) <;> (with_reducible rfl))
              try simp only [Act.put, List.setIfInBounds_toArray, List.set_cons_zero, List.set_cons_succ]
              refine Rg.takeH (i := 2) (v := ?_) rfl (by kernel_rfl) (fun _ _ _ h => h) hS0 (Or.inl ⟨by rfl, ?_⟩) ?_
              rotate_left
              · ((intro w hSw; (try dsimp only at hSw); go_simp) <;> (with_reducible rfl))
              try simp only [Act.put, List.setIfInBounds_toArray, List.set_cons_zero, List.set_cons_succ]
              refine Rg.takeH (i := 3) (v := ?_) rfl (by kernel_rfl) (fun _ _ _ h => h) hS0 (Or.inl ⟨by rfl, ?_⟩) ?_
              rotate_left
              · ((intro w hSw; (try dsimp only at hSw); go_simp) <;> (with_reducible rfl))
              try simp only [Act.put, List.setIfInBounds_toArray, List.set_cons_zero, List.set_cons_succ]
              refine Rg.takeH (i := 4) (v := ?_) rfl (by kernel_rfl) (fun _ _ _ h => h) hS0 (Or.inl ⟨by rfl, ?_⟩) ?_
              rotate_left
              · ((intro w hSw; (try dsimp only at hSw); go_simp) <;> (with_reducible rfl))
              try simp only [Act.put, List.setIfInBounds_toArray, List.set_cons_zero, List.set_cons_succ]
              refine Rg.takeH (i := 5) (v := ?_) rfl (by kernel_rfl) (fun _ _ _ h => h) hS0 (Or.inl ⟨by rfl, ?_⟩) ?_
              rotate_left
              · ((intro w hSw; (try dsimp only at hSw); go_simp) <;> (with_reducible rfl))
              try simp only [Act.put, List.setIfInBounds_toArray, List.set_cons_zero, List.set_cons_succ]
              refine Rg.takeH (i := 6) (v := ?_) rfl (by kernel_rfl) (fun _ _ _ h => h) hS0 (Or.inl ⟨by rfl, ?_⟩) ?_
              rotate_left
              · ((intro w hSw; (try dsimp only at hSw); go_simp) <;> (with_reducible rfl))
              try simp only [Act.put, List.setIfInBounds_toArray, List.set_cons_zero, List.set_cons_succ]
              refine Rg.takeH (i := 7) (v := ?_) rfl (by kernel_rfl) (fun _ _ _ h => h) hS0 (Or.inl ⟨by rfl, ?_⟩) ?_
              rotate_left
              · ((intro w hSw; (try dsimp only at hSw); go_simp) <;> (with_reducible rfl))
              try simp only [Act.put, List.setIfInBounds_toArray, List.set_cons_zero, List.set_cons_succ]
              refine Rg.takeH (i := 8) (v := ?_) rfl (by kernel_rfl) (fun _ _ _ h => h) hS0 (Or.inl ⟨by rfl, ?_⟩) ?_
              rotate_left
              · ((intro w hSw; (try dsimp only at hSw); go_simp) <;> (with_reducible rfl))
              try simp only [Act.put, List.setIfInBounds_toArray, List.set_cons_zero, List.set_cons_succ]
              refine Rg.takeH (i := 9) (v := ?_) rfl (by kernel_rfl) (fun _ _ _ h => h) hS0 (Or.inl ⟨by rfl, ?_⟩) ?_
              rotate_left
              · ((intro w hSw; (try dsimp only at hSw); go_simp) <;> (with_reducible rfl))
              try simp only [Act.put, List.setIfInBounds_toArray, List.set_cons_zero, List.set_cons_succ]
              refine Rg.takeH (i := 10) (v := ?_) rfl (by kernel_rfl) (fun _ _ _ h => h) hS0 (Or.inl ⟨by rfl, ?_⟩) ?_
              rotate_left
              · ((intro w hSw; (try dsimp only at hSw); go_simp) <;> (with_reducible rfl))
              try simp only [Act.put, List.setIfInBounds_toArray, List.set_cons_zero, List.set_cons_succ]
              refine Rg.takeH (i := 11) (v := ?_) rfl (by kernel_rfl) (fun _ _ _ h => h) hS0 (Or.inl ⟨by rfl, ?_⟩) ?_
              rotate_left
              · ((intro w hSw; (try dsimp only at hSw); go_simp) <;> (with_reducible rfl))
              try simp only [Act.put, List.setIfInBounds_toArray, List.set_cons_zero, List.set_cons_succ]
              refine Rg.takeH (i := 12) (v := ?_) rfl (by kernel_rfl) (fun _ _ _ h => h) hS0 (Or.inl ⟨by rfl, ?_⟩) ?_
              rotate_left
              · ((intro w hSw; (try dsimp only at hSw); go_simp) <;> (with_reducible rfl))
              try simp only [Act.put, List.setIfInBounds_toArray, List.set_cons_zero, List.set_cons_succ]
              refine Rg.takeH (i := 13) (v := ?_) rfl (by kernel_rfl) (fun _ _ _ h => h) hS0 (Or.inl ⟨by rfl, ?_⟩) ?_
              rotate_left
              · ((intro w hSw; (try dsimp only at hSw); go_simp) <;> (with_reducible rfl))
              try simp only [Act.put, List.setIfInBounds_toArray, List.set_cons_zero, List.set_cons_succ]
              refine Rg.takeH (i := 14) (v := ?_) rfl (by kernel_rfl) (fun _ _ _ h => h) hS0 (Or.inl ⟨by rfl, ?_⟩) ?_
              rotate_left
              · ((intro w hSw; (try dsimp only at hSw); go_simp) <;> (with_reducible rfl))
              try simp only [Act.put, List.setIfInBounds_toArray, List.set_cons_zero, List.set_cons_succ]
              refine Rg.takeH (i := 15) (v := ?_) rfl (by kernel_rfl) (fun _ _ _ h => h) hS0 (Or.inl ⟨by rfl, ?_⟩) ?_
              rotate_left
              · ((intro w hSw; (try dsimp only at hSw); go_simp) <;> (with_reducible rfl))
              try simp only [Act.put, List.setIfInBounds_toArray, List.set_cons_zero, List.set_cons_succ]
              refine Rg.takeH (i := 16) (v := ?_) rfl (by kernel_rfl) (fun _ _ _ h => h) hS0 (Or.inl ⟨by rfl, ?_⟩) ?_
              rotate_left
              · ((intro w hSw; (try dsimp only at hSw); go_simp) <;> (with_reducible rfl))
              try simp only [Act.put, List.setIfInBounds_toArray, List.set_cons_zero, List.set_cons_succ]
              refine Rg.takeH (i := 17) (v := ?_) rfl (by kernel_rfl) (fun _ _ _ h => h) hS0 (Or.inl ⟨by rfl, ?_⟩) ?_
              rotate_left
              · ((intro w hSw; (try dsimp only at hSw); go_simp) <;> (with_reducible rfl))
              try simp only [Act.put, List.setIfInBounds_toArray, List.set_cons_zero, List.set_cons_succ]
              refine Rg.takeH (i := 18) (v := ?_) rfl (by kernel_rfl) (fun _ _ _ h => h) hS0 (Or.inl ⟨by rfl, ?_⟩) ?_
              rotate_left
              · ((intro w hSw; (try dsimp only at hSw); go_simp) <;> (with_reducible rfl))
              try simp only [Act.put, List.setIfInBounds_toArray, List.set_cons_zero, List.set_cons_succ]
              refine wpAnyH_done (by kernel_rfl) ?_ _
              go_wp2_with fail
              exact HQ.out _ _ ⟨by rw [HD.out], below_then HBW.out (show Below WW.heap.size WW WW.drew from drew_below WW 1)⟩
      · have hsN : decide ((16 : Int) < (x.1.size : Int)) = true := decide_eq_true (by omega)
        have hsM : decide (16 < x.1.size) = true := decide_eq_true (by omega)
        have HD := Lib.hid (HN1.out (by rw [hldR, all_no hx (decide_eq_false hs)]; simp))
        clear hx hrr hal hs HU HA
        obtain ⟨kk, nn⟩ := x
        simp only at k0 k1 hsN hsM
        have m0 : World.cell? (wr.alloc (.cells #[.string kk, .int .i64 nn] 29)).drew ⟨wr.heap.size, 0, none⟩ = some (.string kk) := (Blk.new wr _ _).at_ 0 rfl
        generalize hWW : wr.alloc (.cells #[.string kk, .int .i64 nn] 29) = WW at *
        go_wp2_with fail
        refine Rg.beginH (fun x => x.cell? ⟨wr.heap.size, 0, none⟩ = some (.string kk)) (by kernel_rfl) ?_
        have hS0 : (fun x => x.cell? ⟨wr.heap.size, 0, none⟩ = some (.string kk)) (World.drew WW) := m0
        refine Rg.takeH (i := 0) (v := ?_) rfl (by kernel_rfl) (fun _ _ _ h => h) hS0 (Or.inl ⟨by rfl, ?_⟩) ?_
        rotate_left
        · ((intro w hSw; (try dsimp only at hSw); go_simp) <;> (with_reducible rfl))
        try simp only [Act.put, List.setIfInBounds_toArray, List.set_cons_zero, List.set_cons_succ]
        refine Rg.takeH (i := 1) (v := ?_) rfl (by kernel_rfl) (fun _ _ _ h => h) hS0 (Or.inl ⟨by rfl, ?_⟩) ?_
        rotate_left
        · ((intro w hSw; (try dsimp only at hSw); go_simp) <;> (with_reducible rfl))
        try simp only [Act.put, List.setIfInBounds_toArray, List.set_cons_zero, List.set_cons_succ]
        refine Rg.takeH (i := 2) (v := ?_) rfl (by kernel_rfl) (fun _ _ _ h => h) hS0 (Or.inl ⟨by rfl, ?_⟩) ?_
        rotate_left
        · ((intro w hSw; (try dsimp only at hSw); go_simp) <;> (with_reducible rfl))
        try simp only [Act.put, List.setIfInBounds_toArray, List.set_cons_zero, List.set_cons_succ]
        refine Rg.takeH (i := 3) (v := ?_) rfl (by kernel_rfl) (fun _ _ _ h => h) hS0 (Or.inl ⟨by rfl, ?_⟩) ?_
        rotate_left
        · ((intro w hSw; (try dsimp only at hSw); go_simp) <;> (with_reducible rfl))
        try simp only [Act.put, List.setIfInBounds_toArray, List.set_cons_zero, List.set_cons_succ]
        refine Rg.takeH (i := 4) (v := ?_) rfl (by kernel_rfl) (fun _ _ _ h => h) hS0 (Or.inl ⟨by rfl, ?_⟩) ?_
        rotate_left
        · ((intro w hSw; (try dsimp only at hSw); go_simp) <;> (with_reducible rfl))
        try simp only [Act.put, List.setIfInBounds_toArray, List.set_cons_zero, List.set_cons_succ]
        refine Rg.takeH (i := 5) (v := undef) rfl (by kernel_rfl) (fun _ _ _ h => h) hS0 (Or.inr ⟨by rfl, rfl⟩) ?_
        try simp only [Act.put, List.setIfInBounds_toArray, List.set_cons_zero, List.set_cons_succ]
        refine Rg.takeH (i := 6) (v := undef) rfl (by kernel_rfl) (fun _ _ _ h => h) hS0 (Or.inr ⟨by rfl, rfl⟩) ?_
        try simp only [Act.put, List.setIfInBounds_toArray, List.set_cons_zero, List.set_cons_succ]
        refine Rg.takeH (i := 7) (v := undef) rfl (by kernel_rfl) (fun _ _ _ h => h) hS0 (Or.inr ⟨by rfl, rfl⟩) ?_
        try simp only [Act.put, List.setIfInBounds_toArray, List.set_cons_zero, List.set_cons_succ]
        refine Rg.takeH (i := 8) (v := undef) rfl (by kernel_rfl) (fun _ _ _ h => h) hS0 (Or.inr ⟨by rfl, rfl⟩) ?_
        try simp only [Act.put, List.setIfInBounds_toArray, List.set_cons_zero, List.set_cons_succ]
        refine Rg.takeH (i := 9) (v := undef) rfl (by kernel_rfl) (fun _ _ _ h => h) hS0 (Or.inr ⟨by rfl, rfl⟩) ?_
        try simp only [Act.put, List.setIfInBounds_toArray, List.set_cons_zero, List.set_cons_succ]
        refine Rg.takeH (i := 10) (v := undef) rfl (by kernel_rfl) (fun _ _ _ h => h) hS0 (Or.inr ⟨by rfl, rfl⟩) ?_
        try simp only [Act.put, List.setIfInBounds_toArray, List.set_cons_zero, List.set_cons_succ]
        refine Rg.takeH (i := 11) (v := undef) rfl (by kernel_rfl) (fun _ _ _ h => h) hS0 (Or.inr ⟨by rfl, rfl⟩) ?_
        try simp only [Act.put, List.setIfInBounds_toArray, List.set_cons_zero, List.set_cons_succ]
        refine Rg.takeH (i := 12) (v := undef) rfl (by kernel_rfl) (fun _ _ _ h => h) hS0 (Or.inr ⟨by rfl, rfl⟩) ?_
        try simp only [Act.put, List.setIfInBounds_toArray, List.set_cons_zero, List.set_cons_succ]
        refine Rg.takeH (i := 13) (v := undef) rfl (by kernel_rfl) (fun _ _ _ h => h) hS0 (Or.inr ⟨by rfl, rfl⟩) ?_
        try simp only [Act.put, List.setIfInBounds_toArray, List.set_cons_zero, List.set_cons_succ]
        refine Rg.takeH (i := 14) (v := undef) rfl (by kernel_rfl) (fun _ _ _ h => h) hS0 (Or.inr ⟨by rfl, rfl⟩) ?_
        try simp only [Act.put, List.setIfInBounds_toArray, List.set_cons_zero, List.set_cons_succ]
        refine Rg.takeH (i := 15) (v := undef) rfl (by kernel_rfl) (fun _ _ _ h => h) hS0 (Or.inr ⟨by rfl, rfl⟩) ?_
        try simp only [Act.put, List.setIfInBounds_toArray, List.set_cons_zero, List.set_cons_succ]
        refine Rg.takeH (i := 16) (v := undef) rfl (by kernel_rfl) (fun _ _ _ h => h) hS0 (Or.inr ⟨by rfl, rfl⟩) ?_
        try simp only [Act.put, List.setIfInBounds_toArray, List.set_cons_zero, List.set_cons_succ]
        refine Rg.takeH (i := 17) (v := undef) rfl (by kernel_rfl) (fun _ _ _ h => h) hS0 (Or.inr ⟨by rfl, rfl⟩) ?_
        try simp only [Act.put, List.setIfInBounds_toArray, List.set_cons_zero, List.set_cons_succ]
        refine Rg.takeH (i := 18) (v := ?_) rfl (by kernel_rfl) (fun _ _ _ h => h) hS0 (Or.inl ⟨by rfl, ?_⟩) ?_
        rotate_left
        · ((intro w hSw; (try dsimp only at hSw); go_simp) <;> (with_reducible rfl))
        try simp only [Act.put, List.setIfInBounds_toArray, List.set_cons_zero, List.set_cons_succ]
        refine wpAnyH_done (by kernel_rfl) ?_ _
        go_wp2_with fail
        exact HQ.out _ _ ⟨by rw [HD.out], below_then HBW.out (show Below WW.heap.size WW WW.drew from drew_below WW 1)⟩
    · obtain rfl : F = i := by omega
      have hU := HU.out
      have hA := HA.out
      rw [List.take_of_length_le (by rw [HF.out]; exact Nat.le_refl _)] at hU hA
      have HR := Lib.hid (show hldR fl = true from by rw [hldR, hU, hA]; rfl)
      have HW := Lib.hid (below_then HB1.out HB.out)
      have hbq := HBq.out.below HW.out
      have c0 := hbq.at_ 0 rfl
      have c1 := hbq.at_ 1 rfl
      simp only [List.getElem_toArray, List.getElem_cons_succ, List.getElem_cons_zero] at c0 c1
      have HPw := Lib.hid (HP.out.below HW.out)
      clear hU hA HU HA hbq HR1 HB HB1
      generalize wr = wz at *
      go_wp2_with fail
      go_loopg [42] N (fun g x42 wr => ∃ j : Nat, j ≤ N ∧ g = N - j ∧ x42 = .int .i64 j ∧ wr = wz ∧ Hid ((P.take j).all (fun p => !(p.length == 0) && decide ((p.length : Int) ≤ most)) = true))
      case atStart => exact ⟨0, Nat.zero_le _, rfl, rfl, rfl, Lib.hid rfl⟩
      case round =>
        obtain ⟨j, hj, rfl, rfl, rfl, HA⟩ := hrel
        by_cases hlt : j < N
        · have hltI : (j : Int) < (N : Int) := by omega
          have hx : P[j]? = some (P[j]'(by rw [HN.out]; exact hlt)) := List.getElem?_eq_getElem _
          generalize P[j]'(by rw [HN.out]; exact hlt) = r at hx
          obtain ⟨b, o, B, cc, rfl, k1, _, _, _⟩ := HPw.out j r hx
          have hnb := HPP.out r (List.mem_of_getElem? hx)
          by_cases h0 : r.length = 0
          · have HD := Lib.hid (HN2.out (all_no hx (by rw [h0]; rfl)))
            rw [h0] at k1
            clear hx h0
            go_wp2_with fail
            exact HQ.out _ _ ⟨by rw [HD.out]; rfl, HW.out⟩
          · have h0b : ((r.length : Int) == 0) = false := int_diff (by omega)
            by_cases hm : (r.length : Int) ≤ most
            · have HA2 := Lib.hid (all_next hx HA.out (by rw [decide_eq_true hm]; simp [h0]))
              have hmb : ¬ most < (r.length : Int) := by omega
              clear hx h0
              generalize r.length = nr at *
              go_wp2_with fail
              go_roundg (N - (j + 1))
              case measure => omega
              case rel => exact ⟨j + 1, by omega, rfl, by go_num, rfl, HA2⟩
            · have HD := Lib.hid (HN2.out (all_no hx (by rw [decide_eq_false hm]; simp)))
              have hmb : most < (r.length : Int) := by omega
              clear hx h0
              generalize r.length = nr at *
              go_wp2_with fail
              exact HQ.out _ _ ⟨by rw [HD.out], HW.out⟩
        · obtain rfl : N = j := by omega
          have hA := HA.out
          rw [List.take_of_length_le (by rw [HN.out]; exact Nat.le_refl _)] at hA
          have HD := Lib.hid (show D = decide (F ≤ 256) from HYs.out HR.out hA)
          clear hA
          by_cases h256 : F ≤ 256
          · have h2 : (F : Int) ≤ 256 := by omega
            have h3 := decide_eq_true h256
            go_wp2_with fail
            exact HQ.out _ _ ⟨by rw [HD.out, h3] <;> (first | rfl | simp), HW.out⟩
          · have h2 : ¬ (F : Int) ≤ 256 := by omega
            have h3 := decide_eq_false h256
            go_wp2_with fail
            exact HQ.out _ _ ⟨by rw [HD.out, h3] <;> (first | rfl | simp), HW.out⟩
end Go.Proofs.YtlekfpeonehggaaGreatDoor
end
