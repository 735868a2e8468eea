/- Chapter 16: the document's Check, Forget; the law's texts. -/
import Derived.Test.YtkfciofpbnlmeaaDoorVk
set_option linter.unusedVariables false
set_option linter.unusedSimpArgs false
set_option maxRecDepth 100000
namespace Go.Proofs.YtkfciofpbnlmeaaDoor
open Go.Proofs.BL Go.Proofs.Peel Go.RowKit Go.Proofs.Ky Go.Proofs.Vl

set_option maxHeartbeats 8000000 in
theorem dChk (q f : Nat) (all : List (List Str)) (n : Int) (A : Option Addr) (nr cr : Nat) (reads : List Str) (w : World) (h : DhF w q f all) (hfew : all.length ≤ 1000) (hsh : ∀ s ∈ all, s.length ≤ 1000)
    (hr : RowsAt w 1 A (rwS reads)) (hn : reads.length = nr) (hl : nr ≤ 1000) :
    Calls Tryd.prog 26 #[.pointer (some ⟨q, 0, none⟩), .int .i64 n, .slice A nr cr] w (Tells_ (.int .i64 (checkV f all n reads)) w) := by
  refine via fun Q hQ => ?_
  have HQ := Lib.hid hQ
  have HD := Lib.hid h
  obtain ⟨Ad, cd, vs, hB, _, _, _⟩ := h
  have c0 := hB.at_ 0 rfl
  have c1 := hB.at_ 1 rfl
  simp only [List.getElem_toArray, List.getElem_cons_succ, List.getElem_cons_zero] at c0 c1
  have hc : (n < 0 ∧ checkV f all n reads = 2) ∨ (¬ n < 0 ∧ (all.length : Int) < n ∧ checkV f all n reads = 2) ∨ (¬ n < 0 ∧ ¬ (all.length : Int) < n ∧ n < f ∧ checkV f all n reads = 22) ∨ (¬ n < 0 ∧ ¬ (all.length : Int) < n ∧ ¬ n < f ∧ checkV f all n reads = if firstV all n.toNat reads > 0 then 23 else 0) := by
    by_cases h1 : n < 0
    · exact .inl ⟨h1, if_pos (.inl h1)⟩
    · by_cases h2 : (all.length : Int) < n
      · exact .inr (.inl ⟨h1, h2, if_pos (.inr h2)⟩)
      · have e : checkV f all n reads = if n < f then 22 else if firstV all n.toNat reads > 0 then 23 else 0 := if_neg (fun h => h.elim h1 h2)
        rw [e]
        by_cases h3 : n < f
        · exact .inr (.inr (.inl ⟨h1, h2, h3, if_pos h3⟩))
        · exact .inr (.inr (.inr ⟨h1, h2, h3, if_neg h3⟩))
  have HFt := Lib.hid (fun (s : Nat) (h1 : s ≤ all.length) => dFst q f all s A nr cr reads w HD.out h1 hfew hsh hr hn hl)
  clear hQ hB hr hn hsh
  generalize checkV f all n reads = cv at *
  generalize hN : all.length = N at *
  rcases hc with ⟨h1, rfl⟩ | ⟨h1, h2, rfl⟩ | ⟨h1, h2, h3, rfl⟩ | ⟨h1, h2, h3, hcv⟩
  · go_enter Tryd.func26, Tryd.ntmps26
    go_wp2_with fail
    exact HQ.out _ _ ⟨rfl, Below.refl _ _⟩
  · go_enter Tryd.func26, Tryd.ntmps26
    go_wp2_with fail
    exact HQ.out _ _ ⟨rfl, Below.refl _ _⟩
  · go_enter Tryd.func26, Tryd.ntmps26
    go_wp2_with fail
    exact HQ.out _ _ ⟨rfl, Below.refl _ _⟩
  · obtain ⟨s, rfl⟩ : ∃ s : Nat, n = s := ⟨n.toNat, by omega⟩
    have HF := Lib.hid (HFt.out s (by omega))
    rw [Int.toNat_natCast] at hcv
    have HCV := Lib.hid hcv
    clear HFt hcv
    generalize firstV all s reads = fv at *
    go_enter Tryd.func26, Tryd.ntmps26
    go_wp2_with fail
    (with_reducible refine HF.out.mono ?_)
    rintro e w1 ⟨rfl, hb1⟩
    have HB1 := Lib.hid hb1
    by_cases h0 : fv > 0
    · have h0i : (0 : Int) < (fv : Int) := by omega
      have e23 : cv = 23 := by rw [HCV.out, if_pos h0]
      subst e23
      go_wp2_with fail
      exact HQ.out _ _ ⟨rfl, HB1.out⟩
    · have h0i : ¬ (0 : Int) < (fv : Int) := by omega
      have e0 : cv = 0 := by rw [HCV.out, if_neg h0]
      subst e0
      go_wp2_with fail
      exact HQ.out _ _ ⟨rfl, HB1.out⟩
def DFgtPost (q f k : Nat) (all : List (List Str)) (ls : List Part) (e : Ending) (w' : World) : Prop := e = .returned (.int .i64 (k : Nat)) ∧ DhS q (f + k) all ls w'
set_option maxHeartbeats 8000000 in
theorem dFgt (q f : Nat) (all : List (List Str)) (below : Int) (ls : List Part) (w : World) (h : DhS q f all ls w) (hf : f ≤ all.length) (hfew : all.length ≤ 1000) :
    Calls Tryd.prog 28 #[.pointer (some ⟨q, 0, none⟩), .int .i64 below] w (DFgtPost q f (fgtV f all.length below) all ls) := by
  refine via fun Q hQ => ?_
  have HQ := Lib.hid hQ
  obtain ⟨A, c, vs, hz, hc, hS⟩ := h
  have HS0 := Lib.hid hS
  have HZ := Lib.hid hz
  have HC := Lib.hid hc
  have hfv : fgtV f all.length below = (min (below - 1) (all.length : Int) - (f : Int)).toNat := rfl
  generalize hK : fgtV f all.length below = K at *
  clear hQ hz hc hS hK
  generalize hN : all.length = N at *
  have HN := Lib.hid hN
  clear hN
  go_enter Tryd.func28, Tryd.ntmps28
  go_wp2_with fail
  go_loopg [5] K (fun g x5 wr => ∃ j : Nat, j ≤ K ∧ g = K - j ∧ x5 = .int .i64 j ∧ Hid (Sat (dhB q (f + j) (.slice A N c) :: roR 1 A (lfR vs) :: roL vs all :: ls) wr))
  case atStart => exact ⟨0, Nat.zero_le _, rfl, rfl, HS0⟩
  case round =>
    obtain ⟨j, hj, rfl, rfl, HS⟩ := hrel
    clear HS0
    have c0 := HS.out.blk_.at_ 0 rfl
    have c1 := HS.out.blk_.at_ 1 rfl
    have f1 := HS.out.blk_.free 1
    simp only [List.getElem_toArray, List.getElem_cons_succ, List.getElem_cons_zero] at c0 c1
    have hw1 : IntKind.i64.wrap (((f + j : Nat) : Int) + 1) = ((f + j + 1 : Nat) : Int) := by rw [IntKind.wrap_i64]; omega
    by_cases hlt : j < K
    · have t1 : ((f + j : Nat) : Int) < (N : Int) := by omega
      have t2 : ((f + j : Nat) : Int) < below := by omega
      have t3 : ((f + j + 1 : Nat) : Int) < below := by omega
      have HS2 := Lib.hid (fun (n : Nat) => show Sat (dhB q (f + (j + 1)) (.slice A N c) :: roR 1 A (lfR vs) :: roL vs all :: ls) ((wr.drewN n).setCell ⟨q, 1, none⟩ (.int .i64 ((f + j + 1 : Nat) : Int))) from (HS.out.drewN n).set 1 (.int .i64 ((f + j + 1 : Nat) : Int)))
      generalize hfj : f + j = fj at *
      clear hfj
      go_wp2_with fail
      go_quiet (fail)
      go_wp2_with fail
      go_roundg (K - (j + 1))
      case measure => omega
      case rel => exact ⟨j + 1, by omega, rfl, by go_num, Lib.hid (HS2.out _)⟩
    · obtain rfl : j = K := by omega
      have ht : ¬ (((f + j : Nat) : Int) < (N : Int)) ∨ ((((f + j : Nat) : Int) < (N : Int)) ∧ ¬ (((f + j : Nat) : Int) < below)) ∨ ((((f + j : Nat) : Int) < (N : Int)) ∧ (((f + j : Nat) : Int) < below) ∧ ¬ (((f + j + 1 : Nat) : Int) < below)) := by omega
      have HD := Lib.hid (fun (n : Nat) => show DhS q (f + j) all ls (wr.drewN n) from ⟨A, c, vs, HZ.out, by rw [HN.out]; exact HC.out, by rw [HN.out]; exact HS.out.drewN n⟩)
      have HCn := Lib.hid hfv
      clear hfv
      generalize ((f + j + 1 : Nat) : Int) = z1 at *
      generalize ((f + j : Nat) : Int) = z at *
      rcases ht with t1 | ⟨t1, t2⟩ | ⟨t1, t2, t3⟩
      · have hd1 : decide (z < (N : Int)) = false := decide_eq_false t1
        go_wp2_with fail
        go_quiet (fail)
        go_wp2_with fail
        exact HQ.out _ _ ⟨rfl, HD.out _⟩
      · have hd1 : decide (z < below) = false := decide_eq_false t2
        go_wp2_with fail
        go_quiet (fail)
        go_wp2_with fail
        exact HQ.out _ _ ⟨rfl, HD.out _⟩
      · go_wp2_with fail
        go_quiet (fail)
        go_wp2_with fail
        exact HQ.out _ _ ⟨rfl, HD.out _⟩
set_option maxHeartbeats 8000000 in
/-- The law's texts at two lists of which the second is the first: true. -/
theorem lTexts (A B : Option Addr) (n c d : Nat) (l : List Str) (w : World) (hA : RowsAt w 1 A (rwS l)) (hB : RowsAt w 1 B (rwS l)) (hn : l.length = n) (hl : n ≤ 1000) :
    Calls Tryd.prog 29 #[.slice A n c, .slice B n d] w (Tells_ (.bool true) w) := by
  refine via fun Q hQ => ?_
  have HQ := Lib.hid hQ
  have HA := Lib.hid hA
  have HB := Lib.hid hB
  have HNL := Lib.hid hn
  clear hQ hA hB hn
  go_enter Tryd.func29, Tryd.ntmps29
  go_wp2_with fail
  go_loopg [13] n (fun g x13 wr => ∃ j : Nat, j ≤ n ∧ g = n - j ∧ x13 = .int .i64 j ∧ Hid (Below w.heap.size w wr))
  case atStart => exact ⟨0, Nat.zero_le _, rfl, rfl, Lib.hid (Below.refl _ _)⟩
  case round =>
    obtain ⟨j, hj, rfl, rfl, HW⟩ := hrel
    by_cases hlt : j < n
    · have hx : l[j]? = some (l[j]'(by rw [HNL.out]; exact hlt)) := List.getElem?_eq_getElem _
      generalize l[j]'(by rw [HNL.out]; exact hlt) = s at hx
      obtain ⟨b1, o1, e1, k1⟩ := txtAt (HA.out.below HW.out) hx
      obtain ⟨b2, o2, e2, k2⟩ := txtAt (HB.out.below HW.out) hx
      subst e1 e2
      have hst := str_same (rfl : s = s)
      have HW2 := Lib.hid (fun n => below_then HW.out (drew_below wr n))
      clear hx
      go_wp2_with fail
      go_quiet (fail)
      go_wp2_with fail
      go_roundg (n - (j + 1))
      case measure => omega
      case rel => exact ⟨j + 1, by omega, rfl, by go_num, Lib.hid (HW2.out _)⟩
    · obtain rfl : j = n := by omega
      go_wp2_with fail
      exact HQ.out _ _ ⟨rfl, HW.out⟩
end Go.Proofs.YtkfciofpbnlmeaaDoor
