/- The document's Get, Rows, Nums of chapter 7; the law's Cut. The document's Same of two lists of pages. -/
import Derived.Test.YtlekfpeonehggaaGreatDoorJ22
import Derived.Test.YtlekfpeonehggaaGreatDoorJ10
import Derived.Test.YtlekfpeonehggaaGreatDoorJ38
section
set_option linter.unusedVariables false
set_option maxRecDepth 100000
namespace Go.Proofs.YtlekfpeonehggaaGreatDoor
open Go.Proofs.BL Go.Proofs.Peel Go.RowKit Go.Proofs.Ky

theorem take_get {k : ByteArray} {l : List Rw} {j : Nat} {r : Rw} (hx : l[j]? = some r) (h : get k (l.take j) = none) : get k (l.take (j + 1)) = (if r.1 = k then some r.2 else none) ∧ (r.1 = k → get k l = some r.2) := by
  have hj := (List.getElem?_eq_some_iff.1 hx).1
  have e : l[j] = r := (List.getElem?_eq_some_iff.1 hx).2
  have h1 : get k (l.take (j + 1)) = if r.1 = k then some r.2 else none := by
    rw [List.take_succ_eq_append_getElem hj, get_app, h, e, get_cons]
    rfl
  refine ⟨h1, fun hk => ?_⟩
  rw [if_pos hk] at h1
  have := get_app k (l.take (j + 1)) (l.drop (j + 1))
  rw [List.take_append_drop, h1] at this
  exact this
def RGetPost (g : Option Int) (w : World) (e : Ending) (w' : World) : Prop := e = .returned (.tuple #[.int .i64 (g.getD 0), .bool g.isSome]) ∧ Below w.heap.size w w'
set_option maxHeartbeats 2000000 in
theorem rget (A : Option Addr) (c : Nat) (l : List Rw) (key : ByteArray) (w : World) (hr : RowsAt w 2 A (rwR l)) (hl : l.length ≤ 1000000) (hc : l.length ≤ c) :
    Calls Tryz.prog 40 #[.slice A l.length c, .string key] w (RGetPost (get key l) w) := by
  refine via fun Q hQ => ?_
  have HR := Lib.hid hr
  clear hr
  generalize hn : l.length = n at *
  have HNL := Lib.hid hn
  clear hn
  go_enter Tryz.func40, Tryz.ntmps40
  go_wp2_with fail
  go_loopg [10] n (fun g x wr => ∃ j : Nat, j ≤ n ∧ g = n - j ∧ x = .int .i64 j ∧ Hid (get key (l.take j) = none) ∧ Hid (Below w.heap.size w wr))
  case atStart => exact ⟨0, Nat.zero_le _, rfl, rfl, Lib.hid rfl, Lib.hid (Below.refl _ _)⟩
  case round =>
    obtain ⟨j, hj, rfl, rfl, HG, HB⟩ := hrel
    by_cases hlt : j < n
    · have hx : l[j]? = some (l[j]'(by rw [HNL.out]; exact hlt)) := List.getElem?_eq_getElem _
      generalize l[j]'(by rw [HNL.out]; exact hlt) = r at hx
      have htg := take_get hx HG.out
      obtain ⟨b, o, hA, c1, c2⟩ := rowAt (HR.out.below HB.out) hx
      subst hA
      obtain ⟨kk, nn⟩ := r
      simp only at c1 c2 htg
      have HB1 := Lib.hid (below_then HB.out ((Below.refl wr.heap.size wr).alloc (Nat.le_refl _) (.cells #[.string kk, .int .i64 nn] 29)))
      have HT := Lib.hid htg
      clear htg hx
      by_cases hk : kk = key
      · have HG2 := Lib.hid (HT.out.2 hk)
        have hst := str_same hk
        clear hk
        go_wp2_with fail
        exact ⟨by rw [HG2.out]; rfl, HB1.out⟩
      · have HG2 := Lib.hid (HT.out.1.trans (if_neg hk))
        have hst := str_diff hk
        clear hk
        go_wp2_with fail
        go_roundg (n - (j + 1))
        case measure => omega
        case rel => exact ⟨j + 1, by omega, rfl, rfl, HG2, HB1⟩
    · obtain rfl : j = n := by omega
      have hG := HG.out
      rw [List.take_of_length_le (by rw [HNL.out]; exact Nat.le_refl _)] at hG
      have HG2 := Lib.hid hG
      clear hG
      go_wp2
      exact ⟨by rw [HG2.out]; rfl, HB.out⟩

def YesPost (w : World) (e : Ending) (w' : World) : Prop := e = .returned (.bool true) ∧ Below w.heap.size w w'
set_option maxHeartbeats 2000000 in
theorem rrows (A B : Option Addr) (c d : Nat) (l : List Rw) (w : World) (hr : RowsAt w 2 A (rwR l)) (hs : RowsAt w 2 B (rwR l)) (hl : l.length ≤ 1000000) (hc : l.length ≤ c) (hd : l.length ≤ d) :
    Calls Tryz.prog 31 #[.slice A l.length c, .slice B l.length d] w (YesPost w) := by
  refine via fun Q hQ => ?_
  have HR := Lib.hid hr
  have HS := Lib.hid hs
  clear hr hs
  generalize hn : l.length = n at *
  have HNL := Lib.hid hn
  clear hn
  go_enter Tryz.func31, Tryz.ntmps31
  go_wp2_with fail
  go_loopg [13] n (fun g x wr => ∃ j : Nat, j ≤ n ∧ g = n - j ∧ x = .int .i64 j ∧ Hid (Below w.heap.size w wr))
  case atStart => exact ⟨0, Nat.zero_le _, rfl, rfl, Lib.hid (Below.refl _ _)⟩
  case round =>
    obtain ⟨j, hj, rfl, rfl, HB⟩ := hrel
    by_cases hlt : j < n
    · have hx : l[j]? = some (l[j]'(by rw [HNL.out]; exact hlt)) := List.getElem?_eq_getElem _
      generalize l[j]'(by rw [HNL.out]; exact hlt) = r at hx
      obtain ⟨b, o, hA, c1, c2⟩ := rowAt (HR.out.below HB.out) hx
      obtain ⟨b', o', hA', d1, d2⟩ := rowAt (HS.out.below HB.out) hx
      subst hA hA'
      obtain ⟨kk, nn⟩ := r
      simp only at c1 c2 d1 d2
      clear hx
      have hst := str_same (rfl : kk = kk)
      have h0 : (0 : Int) ≤ (j : Int) := by omega
      have h1 : (j : Int) < (n : Int) := by omega
      go_wp2_with fail
      go_quiet (fail)
      have HB1 := Lib.hid (below_then HB.out (drew_below wr nq))
      go_wp2_with fail
      go_roundg (n - (j + 1))
      case measure => omega
      case rel => exact ⟨j + 1, by omega, rfl, rfl, HB1⟩
    · obtain rfl : j = n := by omega
      go_wp2
      exact ⟨rfl, HB.out⟩
end Go.Proofs.YtlekfpeonehggaaGreatDoor
end

section
set_option linter.unusedVariables false
set_option linter.unusedSimpArgs false
set_option maxRecDepth 100000
namespace Go.Proofs.YtlekfpeonehggaaGreatDoor
open Go.Proofs.BL Go.Proofs.Peel Go.RowKit Go.Proofs.Ky

set_option maxHeartbeats 4000000 in
theorem dSame (A B : Option Addr) (c d : Nat) (P : List (List Rw)) (w : World) (hA : PgR w A P) (hB : PgR w B P) (hpl : P.length ≤ 100000) (hpp : ∀ r ∈ P, r.length ≤ 100000) :
    Calls Tryz.prog 30 #[.slice A P.length c, .slice B P.length d] w (YesPost w) := by
  refine via fun Q hQ => ?_
  have HA := Lib.hid hA
  have HBp := Lib.hid hB
  have HPP := Lib.hid hpp
  clear hA hB hpp
  generalize hN : P.length = N at *
  have HN := Lib.hid hN
  clear hN
  go_enter Tryz.func30, Tryz.ntmps30
  go_wp2_with fail
  go_loopg [13] N (fun g x13 wr => ∃ j : Nat, j ≤ N ∧ g = N - j ∧ x13 = .int .i64 j ∧ Hid (Below w.heap.size w wr))
  case atStart => exact ⟨0, Nat.zero_le _, rfl, rfl, Lib.hid (Below.refl _ _)⟩
  case round =>
    obtain ⟨j, hj, rfl, rfl, HB⟩ := hrel
    by_cases hlt : j < N
    · have hx : P[j]? = some (P[j]'(by rw [HN.out]; exact hlt)) := List.getElem?_eq_getElem _
      generalize P[j]'(by rw [HN.out]; exact hlt) = r at hx
      obtain ⟨ba, oa, Ba, ca, rfl, ka, hca, hza, hRa⟩ := (HA.out.below HB.out) j r hx
      obtain ⟨bb, ob, Bb, cb, rfl, kb, hcb, hzb, hRb⟩ := (HBp.out.below HB.out) j r hx
      have hnb := HPP.out r (List.mem_of_getElem? hx)
      have HRR := Lib.hid (rrows Ba Bb ca cb r wr.drew (hRa.below (drew_below wr 1)) (hRb.below (drew_below wr 1)) (by omega) hca hcb)
      have ka : wr.drew.cell? ⟨ba, oa + j, none⟩ = _ := ka
      have kb : wr.drew.cell? ⟨bb, ob + j, none⟩ = _ := kb
      clear hx hRa hRb hza hzb
      generalize r.length = nr at *
      have hjI : (j : Int) < (N : Int) := by omega
      go_wp2_with fail
      refine Rg.beginH (fun x => x.cell? ⟨ba, oa + j, none⟩ = some (.slice Ba nr ca) ∧ x.cell? ⟨bb, ob + j, none⟩ = some (.slice Bb nr cb)) (by kernel_rfl) ?_
      have hS0 : (fun x => x.cell? ⟨ba, oa + j, none⟩ = some (.slice Ba nr ca) ∧ x.cell? ⟨bb, ob + j, none⟩ = some (.slice Bb nr cb)) (World.drew wr) := ⟨ka, kb⟩
      refine Rg.takeH (i := 0) (v := ?_) rfl (by kernel_rfl) (fun _ _ _ h => h) hS0 (Or.inl ⟨by rfl, ?_⟩) ?_
      rotate_left
      · ((intro w hSw; (try dsimp only at hSw); go_simp) <;> (with_reducible rfl))
      try simp only [Act.put, List.setIfInBounds_toArray, List.set_cons_zero, List.set_cons_succ]
      refine Rg.takeH (i := 1) (v := ?_) rfl (by kernel_rfl) (fun _ _ _ h => h) hS0 (Or.inl ⟨by rfl, ?_⟩) ?_
      rotate_left
      · ((intro w hSw; (try dsimp only at hSw); go_simp) <;> (with_reducible rfl))
      try simp only [Act.put, List.setIfInBounds_toArray, List.set_cons_zero, List.set_cons_succ]
      refine Rg.takeH (i := 2) (v := ?_) rfl (by kernel_rfl) (fun _ _ _ h => h) hS0 (Or.inl ⟨by rfl, ?_⟩) ?_
      rotate_left
      · ((intro w hSw; (try dsimp only at hSw); go_simp) <;> (with_reducible rfl))
      try simp only [Act.put, List.setIfInBounds_toArray, List.set_cons_zero, List.set_cons_succ]
      refine Rg.takeH (i := 3) (v := ?_) rfl (by kernel_rfl) (fun _ _ _ h => h) hS0 (Or.inl ⟨by rfl, ?_⟩) ?_
      rotate_left
      · ((intro w hSw; (try dsimp only at hSw); go_simp) <;> (with_reducible rfl))
      try simp only [Act.put, List.setIfInBounds_toArray, List.set_cons_zero, List.set_cons_succ]
      refine Rg.takeH (i := 4) (v := ?_) rfl (by kernel_rfl) (fun _ _ _ h => h) hS0 (Or.inl ⟨by rfl, ?_⟩) ?_
      rotate_left
      · ((intro w hSw; (try dsimp only at hSw); go_simp) <;> (with_reducible rfl))
      try simp only [Act.put, List.setIfInBounds_toArray, List.set_cons_zero, List.set_cons_succ]
      refine Rg.takeH (i := 5) (v := ?_) rfl (by kernel_rfl) (fun _ _ _ h => h) hS0 (Or.inl ⟨by rfl, ?_⟩) ?_
      rotate_left
      · ((intro w hSw; (try dsimp only at hSw); go_simp) <;> (with_reducible rfl))
      try simp only [Act.put, List.setIfInBounds_toArray, List.set_cons_zero, List.set_cons_succ]
      refine Rg.takeH (i := 6) (v := ?_) rfl (by kernel_rfl) (fun _ _ _ h => h) hS0 (Or.inl ⟨by rfl, ?_⟩) ?_
      rotate_left
      · ((intro w hSw; (try dsimp only at hSw); go_simp) <;> (with_reducible rfl))
      try simp only [Act.put, List.setIfInBounds_toArray, List.set_cons_zero, List.set_cons_succ]
      refine Rg.takeH (i := 7) (v := ?_) rfl (by kernel_rfl) (fun _ _ _ h => h) hS0 (Or.inl ⟨by rfl, ?_⟩) ?_
      rotate_left
      · ((intro w hSw; (try dsimp only at hSw); go_simp) <;> (with_reducible rfl))
      try simp only [Act.put, List.setIfInBounds_toArray, List.set_cons_zero, List.set_cons_succ]
      refine Rg.oneH (i := 8) rfl (by kernel_rfl) (fun K hK => ?_)
      go_simp
      (with_reducible refine HRR.out.mono ?_)
      rintro e w1 ⟨rfl, hb1⟩
      have HB1 := Lib.hid (below_then HB.out (below_then (drew_below wr 1) hb1))
      have ka' := (hb1.cell (World.block_lt_of_cell? _ _ hS0.1)).trans hS0.1
      have kb' := (hb1.cell (World.block_lt_of_cell? _ _ hS0.2)).trans hS0.2
      change K _ _
      have hS1 : (fun x => x.cell? ⟨ba, oa + j, none⟩ = some (.slice Ba nr ca) ∧ x.cell? ⟨bb, ob + j, none⟩ = some (.slice Bb nr cb)) w1 := ⟨ka', kb'⟩
      refine hK.out _ _ hS1 ?_
      clear hK K
      try simp only [Act.put, List.setIfInBounds_toArray, List.set_cons_zero, List.set_cons_succ]
      refine Rg.oneH (i := 9) rfl (by kernel_rfl) (fun K hK => ?_)
      go_simp
      refine hK.out _ _ hS1 ?_
      clear hK K
      try simp only [Act.put, List.setIfInBounds_toArray, List.set_cons_zero, List.set_cons_succ]
      refine wpAnyH_done (by kernel_rfl) ?_ _
      go_wp2_with fail
      go_roundg (N - (j + 1))
      case measure => omega
      case rel => exact ⟨j + 1, by omega, rfl, by go_num, HB1⟩
    · obtain rfl : j = N := by omega
      go_wp2_with fail
      exact ⟨rfl, HB.out⟩
end Go.Proofs.YtlekfpeonehggaaGreatDoor
end
