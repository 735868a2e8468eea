/- Package page: New, Len, Scan, Pages, Copy and Bytes at nil. Package page: Pages; what Put and Del keep; chapter 8's example. -/
import Derived.Test.YtlekfpeonehggaaGreatDoorJ30
section
set_option linter.unusedVariables false
set_option linter.unusedSimpArgs false
set_option maxRecDepth 100000
namespace Go.Proofs.YtlekfpeonehggaaGreatDoor
open Go.Proofs.BL Go.Proofs.Peel Go.RowKit Go.Proofs.Ky

theorem pgNilScan (a b : ByteArray) (w : World) : Calls Tryz.prog 32 #[.pointer none, .string a, .string b] w (fun e w' => e = .returned (.slice none 0 0) ∧ w' = w) := by
  refine via fun Q hQ => ?_
  go_enter Tryz.func32, Tryz.ntmps32
  go_wp2
theorem pgNilPages (w : World) : Calls Tryz.prog 29 #[.pointer none] w (fun e w' => e = .returned (.slice none 0 0) ∧ w' = w) := by
  refine via fun Q hQ => ?_
  go_enter Tryz.func29, Tryz.ntmps29
  go_wp2
theorem pgNilLen (w : World) : Calls Tryz.prog 27 #[.pointer none] w (fun e w' => e = .returned (.int .i64 0) ∧ w' = w) := by
  refine via fun Q hQ => ?_
  go_enter Tryz.func27, Tryz.ntmps27
  go_wp2
theorem pgNilBytes (w : World) : Calls Tryz.prog 33 #[.pointer none] w (fun e w' => e = .returned (.slice none 0 0) ∧ w' = w) := by
  refine via fun Q hQ => ?_
  go_enter Tryz.func33, Tryz.ntmps33
  go_wp2
theorem pgNilCopy (w : World) : Calls Tryz.prog 11 #[.pointer none] w (fun e w' => e = .returned (.pointer none) ∧ w' = w) := by
  refine via fun Q hQ => ?_
  go_enter Tryz.func11, Tryz.ntmps11
  go_wp2
theorem stLen (p : Nat) (most n : Int) (L : Value) (vs : List Value) (P : List (List Rw)) (w : World) (hF : StF w p most n L vs P) : Calls Tryz.prog 27 #[.pointer (some ⟨p, 0, none⟩)] w (fun e w' => e = .returned (.int .i64 n) ∧ w' = w) := by
  refine via fun Q hQ => ?_
  have c2 := hF.b.at_ 2 rfl
  simp only [List.getElem_toArray, List.getElem_cons_succ, List.getElem_cons_zero] at c2
  clear hF
  go_enter Tryz.func27, Tryz.ntmps27
  go_wp2
def NewPPost (most : Int) (ls : List Part) (e : Ending) (w' : World) : Prop := ∃ p : Nat, e = .returned (.tuple #[.pointer (some ⟨p, 0, none⟩), .int .i64 0]) ∧ Sat (stP p most [] :: ls) w'
theorem stNew (most : Int) (ls : List Part) (w : World) (h : Sat ls w) (h1 : 2 ≤ most) (h2 : most ≤ 64) : Calls Tryz.prog 10 #[.int .i64 most] w (NewPPost most ls) := by
  refine via fun Q hQ => ?_
  have hS : Sat (stB w.heap.size most 0 (.slice none 0 0) :: ls) (w.alloc (.cells #[.int .i64 most, .slice none 0 0, .int .i64 0] 57)) := h.alloc _ _
  have hS2 := ((hS.nilR 59 1).toW.put (B := pagesP [] []) (fun G => trivial))
  have HS := Lib.hid (hS2.s2.s2.s1.shutSt (vs := []) (P := []) rfl)
  clear hS hS2 h
  go_enter Tryz.func10, Tryz.ntmps10
  go_wp2_with fail
  exact ⟨_, rfl, HS.out⟩
/-- What Scan tells of a row. -/
def scB (fr tt : ByteArray) (r : Rw) : Bool := !(tx.lt r.1 fr) && (decide (tt = ⟨#[]⟩) || tx.lt r.1 tt)
theorem scan_next (f : Rw → Bool) {l : List Rw} {q : Nat} {x : Rw} (h : l[q]? = some x) : (l.take (q + 1)).filter f = (l.take q).filter f ++ if f x then [x] else [] := by
  obtain ⟨hq, e⟩ := List.getElem?_eq_some_iff.1 h
  rw [List.take_succ_eq_append_getElem hq, List.filter_append, e]
  cases hf : f x <;> simp [hf]
theorem flat_next {P : List (List Rw)} {j : Nat} {r : List Rw} (h : P[j]? = some r) : (P.take (j + 1)).flatten = (P.take j).flatten ++ r := by
  obtain ⟨hq, e⟩ := List.getElem?_eq_some_iff.1 h
  rw [List.take_succ_eq_append_getElem hq, List.flatten_append, e]
  simp
theorem nil_tx (a : ByteArray) : tx.lt a ⟨#[]⟩ = false := by
  cases h : tx.lt a ⟨#[]⟩ with
  | false => rfl
  | true =>
    have := (less_tx a ⟨#[]⟩).trans h
    exfalso
    revert this
    rw [ByteArray.toList_eq (⟨#[]⟩ : ByteArray)]
    show Op.bytesLess a.toList [] = true → False
    cases a.toList <;> simp [Op.bytesLess]
def ScanPost (l : List Rw) (w : World) (e : Ending) (w' : World) : Prop := ∃ v, e = .returned v ∧ Own w' w.heap.size 29 2 v (rwR l) ∧ Below w.heap.size w w'
set_option maxHeartbeats 8000000 in
theorem stScan (p : Nat) (most n : Int) (L : Value) (vs : List Value) (P : List (List Rw)) (fr tt : ByteArray) (w : World) (hF : StF w p most n L vs P) (hl : P.flatten.length ≤ 100000) (hpl : P.length ≤ 100000) :
    Calls Tryz.prog 32 #[.pointer (some ⟨p, 0, none⟩), .string fr, .string tt] w (ScanPost (P.flatten.filter (scB fr tt)) w) := by
  refine via fun Q hQ => ?_
  obtain ⟨A, c, rfl, hc, _, _⟩ := hF.leaves
  have c1 := hF.b.at_ 1 rfl
  simp only [List.getElem_toArray, List.getElem_cons_succ, List.getElem_cons_zero] at c1
  have HF := Lib.hid hF
  have HInfo := Lib.hid (show (Tryz.prog.info? 29).map (fun i => (i.zero, i.size, i.bytes)) = some (some (.agg #[.string ⟨#[]⟩, .int .i64 0]), 2, 24) from by kernel_rfl)
  have hsf : ∀ r, scB fr tt r = (!(tx.lt r.1 fr) && (decide (tt = ⟨#[]⟩) || tx.lt r.1 tt)) := fun _ => rfl
  generalize scB fr tt = scanF at *
  have HSF := Lib.hid hsf
  have HLF := Lib.hid (show ∀ j, (P.take j).flatten.length ≤ 100000 from fun j => by
    have h1 : P.flatten = (P.take j).flatten ++ (P.drop j).flatten := by rw [← List.flatten_append, List.take_append_drop]
    rw [h1, List.length_append] at hl
    omega)
  clear hF hsf
  generalize hN : P.length = N at *
  have HN := Lib.hid hN
  clear hN
  go_enter Tryz.func32, Tryz.ntmps32
  go_wp2_with fail
  go_loopg [7, 19] N (fun g x7 x19 wr => ∃ j : Nat, j ≤ N ∧ g = N - j ∧ x19 = .int .i64 j ∧ Hid (Own wr w.heap.size 29 2 x7 (rwR ((P.take j).flatten.filter scanF))) ∧ Hid (Below w.heap.size w wr))
  case atStart => exact ⟨0, Nat.zero_le _, rfl, rfl, Lib.hid (Own.nil _ _ _ _), Lib.hid (Below.refl _ _)⟩
  case round =>
    obtain ⟨j, hj, rfl, rfl, HO, HB⟩ := hrel
    by_cases hlt : j < N
    · have hx : P[j]? = some (P[j]'(by rw [HN.out]; exact hlt)) := List.getElem?_eq_getElem _
      generalize P[j]'(by rw [HN.out]; exact hlt) = r at hx
      obtain ⟨b, v, rfl, _, k1, _, hOr⟩ := HF.out.page hx
      obtain ⟨A2, c2, rfl, _, _, hR⟩ := hOr.slv'
      rw [rwR_len] at k1
      have k1 := (HB.out.cell (World.block_lt_of_cell? w _ k1)).trans k1
      have hfn := flat_next hx
      have HFN := Lib.hid (show (P.take (j + 1)).flatten.filter scanF = (P.take j).flatten.filter scanF ++ r.filter scanF from by rw [hfn, List.filter_append])
      have HLn := Lib.hid (show (P.take j).flatten.length + r.length ≤ 100000 from by have := HLF.out (j + 1); rw [hfn, List.length_append] at this; exact this)
      have hal : Below wr.heap.size wr (wr.alloc (.cells #[.slice A2 r.length c2] 59)) := (Below.refl _ _).alloc (Nat.le_refl _) _
      have HO0 := Lib.hid (HO.out.below hal)
      have HB0 := Lib.hid (below_then HB.out hal)
      have HR0 := Lib.hid hR
      clear hx hfn hOr hR
      generalize hnr : r.length = nr at *
      have HNr := Lib.hid hnr
      clear hnr
      have hnb : nr ≤ 100000 := by have := HLn.out; omega
      go_wp2_with fail
      generalize hwa : wr.alloc (.cells #[.slice A2 nr c2] 59) = wa at *
      go_loopg [7, 26] nr (fun g x7 x26 ws => ∃ (q : Nat) (out : List Rw), q ≤ nr ∧ g = nr - q ∧ x26 = .int .i64 q ∧ Hid (((P.take j).flatten.filter scanF) ++ (r.take q).filter scanF = out) ∧ Hid (Own ws w.heap.size 29 2 x7 (rwR out)) ∧ Hid (Below w.heap.size w ws))
      case atStart => exact ⟨0, _, Nat.zero_le _, rfl, rfl, Lib.hid (by simp), HO0, HB0⟩
      case round =>
        obtain ⟨q, out, hq, rfl, rfl, HE, HO1, HB1⟩ := hrel
        by_cases hlq : q < nr
        · have hxq : r[q]? = some (r[q]'(by rw [HNr.out]; exact hlq)) := List.getElem?_eq_getElem _
          generalize r[q]'(by rw [HNr.out]; exact hlq) = x at hxq
          obtain ⟨kk, nn⟩ := x
          obtain ⟨b3, o3, hA3, d1, d2⟩ := rowAt (HR0.out.below HB1.out) hxq
          subst hA3
          simp only at d1 d2
          have hal2 : Below wr.heap.size wr (wr.alloc (.cells #[.string kk, .int .i64 nn] 29)) := (Below.refl _ _).alloc (Nat.le_refl _) _
          have HO9 := Lib.hid (HO1.out.below hal2)
          have HB9 := Lib.hid (below_then HB1.out hal2)
          have hsn := scan_next scanF hxq
          have hol : out.length ≤ 100000 := by
            rw [← HE.out, List.length_append]
            have h1 := List.length_filter_le scanF (P.take j).flatten
            have h2 := List.length_filter_le scanF (r.take q)
            have h3 := HLn.out
            rw [List.length_take] at h2
            omega
          have HBig := Lib.hid (show ((rwR out).length + 1) * 24 ≤ 140737488355328 from by rw [rwR_len]; omega)
          have hF1 := HSF.out (kk, nn)
          simp only at hF1
          have m1 : World.cell? (wr.alloc (.cells #[.string kk, .int .i64 nn] 29)) ⟨wr.heap.size, 0, none⟩ = some (.string kk) := (Blk.new wr _ _).at_ 0 rfl
          have m2 : World.cell? (wr.alloc (.cells #[.string kk, .int .i64 nn] 29)) ⟨wr.heap.size, 1, none⟩ = some (.int .i64 nn) := (Blk.new wr _ _).at_ 1 rfl
          have HSN := Lib.hid hsn
          clear hsn hxq hal2
          have hl1 := less_tx kk fr
          have hl2 := less_tx kk tt
          cases hL : tx.lt kk fr with
          | true =>
            have hb1 := hl1.trans hL
            have HF1 : Hid (scanF (kk, nn) = false) := Lib.hid (by rw [hF1, hL]; simp)
            clear hl1 hl2 hL hF1 m1 m2
            go_wp2_with fail
            go_roundg (nr - (q + 1))
            case measure => omega
            case rel => exact ⟨q + 1, out, by omega, rfl, rfl, Lib.hid (by rw [HSN.out, HF1.out, if_neg (by simp), List.append_nil]; exact HE.out), HO9, HB9⟩
          | false =>
            have hb1 := hl1.trans hL
            rcases Classical.em (tt = ⟨#[]⟩) with ht | ht
            · have HF1 : Hid (scanF (kk, nn) = true) := Lib.hid (by rw [hF1, hL, decide_eq_true ht]; simp)
              subst ht
              clear hl1 hl2 hL hF1
              generalize hWW : wr.alloc (.cells #[.string kk, .int .i64 nn] 29) = WW at *
              go_wp2_with (at_builtin; (refine append1 (W := WW) w.heap.size 29 2 24 (.agg #[.string ⟨#[]⟩, .int .i64 0]) rfl (.tmp 44) (.tmp 46) 27 rfl Tryz.underlying27 HInfo.out rfl (by decide) (by decide) _ (rwR out) (enR (kk, nn)) rfl _ rfl rfl rfl (enR_one _) HO9.out HB9.out.size HBig.out ?_); intro v1 w1 hown1 hfr1; have HO2 := Lib.hid hown1; have HB2 := Lib.hid (HO9.out.fr_below HB9.out HB9.out.size hfr1); clear hown1 hfr1)
              go_roundg (nr - (q + 1))
              case measure => omega
              case rel => exact ⟨q + 1, out ++ [(kk, nn)], by omega, rfl, rfl, Lib.hid (by rw [HSN.out, HF1.out, if_pos rfl, ← List.append_assoc, HE.out]), Lib.hid (by have := HO2.out; rwa [show rwR out ++ [enR (kk, nn)] = rwR (out ++ [(kk, nn)]) from by simp [rwR]] at this), HB2⟩
            · have hd1 := str_diff ht
              have hd2 : ¬ (tt.toList = []) := fun e => ht (bytes_ext (by rw [e, ByteArray.toList_eq (⟨#[]⟩ : ByteArray)]))
              have hd3 : tt.toList.isEmpty = false := by cases e : tt.toList with | nil => exact absurd e hd2 | cons _ _ => rfl
              cases hM : tx.lt kk tt with
              | true =>
                have hb2 := hl2.trans hM
                have HF1 : Hid (scanF (kk, nn) = true) := Lib.hid (by rw [hF1, hL, hM]; simp)
                clear hl1 hl2 hL hF1 hM
                generalize hWW : wr.alloc (.cells #[.string kk, .int .i64 nn] 29) = WW at *
                go_wp2_with (at_builtin; (refine append1 (W := WW) w.heap.size 29 2 24 (.agg #[.string ⟨#[]⟩, .int .i64 0]) rfl (.tmp 44) (.tmp 46) 27 rfl Tryz.underlying27 HInfo.out rfl (by decide) (by decide) _ (rwR out) (enR (kk, nn)) rfl _ rfl rfl rfl (enR_one _) HO9.out HB9.out.size HBig.out ?_); intro v1 w1 hown1 hfr1; have HO2 := Lib.hid hown1; have HB2 := Lib.hid (HO9.out.fr_below HB9.out HB9.out.size hfr1); clear hown1 hfr1)
                go_roundg (nr - (q + 1))
                case measure => omega
                case rel => exact ⟨q + 1, out ++ [(kk, nn)], by omega, rfl, rfl, Lib.hid (by rw [HSN.out, HF1.out, if_pos rfl, ← List.append_assoc, HE.out]), Lib.hid (by have := HO2.out; rwa [show rwR out ++ [enR (kk, nn)] = rwR (out ++ [(kk, nn)]) from by simp [rwR]] at this), HB2⟩
              | false =>
                have hb2 := hl2.trans hM
                have HF1 : Hid (scanF (kk, nn) = false) := Lib.hid (by rw [hF1, hL, hM, decide_eq_false ht]; simp)
                clear hl1 hl2 hL hF1 hM m1 m2
                go_wp2_with fail
                go_roundg (nr - (q + 1))
                case measure => omega
                case rel => exact ⟨q + 1, out, by omega, rfl, rfl, Lib.hid (by rw [HSN.out, HF1.out, if_neg (by simp), List.append_nil]; exact HE.out), HO9, HB9⟩
        · obtain rfl : q = nr := by omega
          have he := HE.out
          have htk : r.take q = r := List.take_of_length_le (by rw [HNr.out]; exact Nat.le_refl _)
          rw [htk, ← HFN.out] at he
          subst he
          go_wp2_with fail
          go_roundg (N - (j + 1))
          case measure => omega
          case rel => exact ⟨j + 1, by omega, rfl, rfl, HO1, HB1⟩
    · obtain rfl : j = N := by omega
      have hO := HO.out
      rw [List.take_of_length_le (by rw [HN.out]; exact Nat.le_refl _)] at hO
      have HO2 := Lib.hid hO
      clear hO
      go_wp2_with fail
      exact ⟨_, rfl, HO2.out, HB.out⟩
end Go.Proofs.YtlekfpeonehggaaGreatDoor
end

section
set_option linter.unusedVariables false
set_option linter.unusedSimpArgs false
set_option maxRecDepth 100000
namespace Go.Proofs.YtlekfpeonehggaaGreatDoor
open Go.Proofs.BL Go.Proofs.Peel Go.RowKit Go.Proofs.Ky

theorem Sat.pageEnd {v : Value} {r : List Rw} {us : List Value} {P : List (List Rw)} {l : List Part} {w : World} (h : Sat (ownW v 29 2 (rwR r) :: pagesP us P :: l) w) : Sat (pagesP (us ++ [v]) (P ++ [r]) :: l) w := by
  have hl := h.drop.pagesLen
  have h2 := h.pageIn P.length (Nat.le_refl _)
  rwa [ins_take (by omega), ins_take (Nat.le_refl _), List.take_of_length_le (by omega), List.drop_of_length_le (by omega), List.take_of_length_le (Nat.le_refl _), List.drop_of_length_le (Nat.le_refl _)] at h2
theorem own_addr {w : World} {v : Value} {E : TypeId} {sz : Nat} {rows : List (List Value)} (h : OwnW w 0 E sz v rows) : ∃ A c, v = .slice A rows.length c ∧ rows.length ≤ c ∧ (A = none → c = 0) ∧ RowsAt w sz A rows ∧ ∀ a, A = some a → a.spot = none := by
  obtain ⟨A, c, e, h1, h2, h3⟩ := h.slv'
  refine ⟨A, c, e, h1, h2, h3, ?_⟩
  rintro a rfl
  rcases h.1.2 with ⟨h4, _⟩ | ⟨g, cap, cur, h4, _⟩
  · rw [e] at h4; cases h4
  · rw [e] at h4; injection h4 with h4; injection h4 with h4; subst h4; rfl
def PagesPost (P : List (List Rw)) (ls : List Part) (e : Ending) (w' : World) : Prop := ∃ v us, e = .returned v ∧ Sat (ownR v 27 1 (lfR us) :: pagesP us P :: ls) w'
set_option maxHeartbeats 4000000 in
theorem stPages (p : Nat) (most : Int) (P : List (List Rw)) (ls : List Part) (w : World) (h : Sat (stP p most P :: ls) w) (hl : P.flatten.length ≤ 100000) (hpl : P.length ≤ 100000) :
    Calls Tryz.prog 29 #[.pointer (some ⟨p, 0, none⟩)] w (PagesPost P (stP p most P :: ls)) := by
  refine via fun Q hQ => ?_
  obtain ⟨L, vs, hF, h2⟩ := h.stF
  obtain ⟨A, c, rfl, hc, _, _⟩ := hF.leaves
  have c1 := hF.b.at_ 1 rfl
  simp only [List.getElem_toArray, List.getElem_cons_succ, List.getElem_cons_zero] at c1
  have HS0 := Lib.hid ((h2.put (B := pagesP [] []) (fun G => trivial)).nilR 27 1)
  have HLp := Lib.hid (fun r (hr : r ∈ P) => page_len hr)
  clear hF h h2
  generalize hN : P.length = N at *
  have HN := Lib.hid hN
  clear hN
  go_enter Tryz.func29, Tryz.ntmps29
  go_wp2_with fail
  go_loopg [3, 13] N (fun g x3 x13 wr => ∃ (j : Nat) (us : List Value), j ≤ N ∧ g = N - j ∧ x13 = .int .i64 j ∧ Hid (Sat (ownR x3 27 1 (lfR us) :: pagesP us (P.take j) :: stB p most P.flatten.length (.slice A N c) :: ownW (.slice A N c) 59 1 (lfR vs) :: pagesP vs P :: ls) wr))
  case atStart => exact ⟨0, [], Nat.zero_le _, rfl, rfl, HS0⟩
  case round =>
    obtain ⟨j, us, hj, rfl, rfl, HSr⟩ := hrel
    by_cases hlt : j < N
    · have hx : P[j]? = some (P[j]'(by rw [HN.out]; exact hlt)) := List.getElem?_eq_getElem _
      generalize P[j]'(by rw [HN.out]; exact hlt) = r at hx
      have hnx : P.take (j + 1) = P.take j ++ [r] := by
        obtain ⟨hq, e⟩ := List.getElem?_eq_some_iff.1 hx
        rw [List.take_succ_eq_append_getElem hq, e]
      have hF := HSr.out.drop.drop.stF0
      obtain ⟨b, v, rfl, _, k1, _, hO⟩ := hF.page hx
      obtain ⟨A2, c2, rfl, hc2, z2, hR, hsp⟩ := own_addr hO
      have hrl := HLp.out r (List.mem_of_getElem? hx)
      have hus := HSr.out.drop.pagesLen
      have hal : Below wr.heap.size wr (wr.alloc (.cells #[.slice A2 r.length c2] 59)) := (Below.refl _ _).alloc (Nat.le_refl _) _
      have hcl := clR_ro A2 c2 (rwR r) (wr.alloc (.cells #[.slice A2 r.length c2] 59)) hc2 z2 (hR.below hal) hsp hO.2 (rwR_one r) (by rw [rwR_len]; omega)
      rw [rwR_len] at hcl k1
      have HCl := Lib.hid hcl
      have HS1 := Lib.hid (HSr.out.below hal)
      have HNX := Lib.hid hnx
      have HLu := Lib.hid (show ((lfR us).length + 1) * 24 ≤ 140737488355328 from by rw [lfR_len, hus, List.length_take]; omega)
      clear hx hnx hF hO hR hcl hal hus HSr hsp z2 hc2
      generalize r.length = nr at *
      go_wp2_with fail
      (with_reducible refine HCl.out.mono ?_)
      rintro e w2 ⟨v2, rfl, ho2, hb2⟩
      obtain ⟨A3, c3, e3, _⟩ := ho2.slv'
      have HS2 := Lib.hid (HS1.out.made hb2 ho2).s1
      clear ho2 hb2 HS1 HCl
      subst e3
      go_wp2_with (at_builtin; (refine satApp (W := w2) 27 1 24 (.slice none 0 0) rfl (.tmp 17) (.tmp 21) 22 rfl Tryz.underlying22 (by kernel_rfl) rfl (by decide) (by decide) _ (lfR us) [.slice A3 (rwR r).length c3] rfl _ rfl rfl rfl (by simp [Value.oneCell']) HS2.out rfl HLu.out ?_); intro v4 w4 hS4; have HS4 := Lib.hid hS4; clear hS4)
      go_roundg (N - (j + 1))
      case measure => omega
      case rel => exact ⟨j + 1, us ++ [.slice A3 (rwR r).length c3], by omega, rfl, rfl, Lib.hid (by rw [HNX.out]; have h9 := HS4.out.s1.toW.s1.s2.s1; have h8 := (HS4.out.s1.toW.s2.s1).pageEnd; rw [show lfR (us ++ [Value.slice A3 (rwR r).length c3]) = lfR us ++ [[Value.slice A3 (rwR r).length c3]] from by simp [lfR]]; exact h8.s1)⟩
    · obtain rfl : j = N := by omega
      have hS := HSr.out
      rw [List.take_of_length_le (by rw [HN.out]; exact Nat.le_refl _)] at hS
      have HS := Lib.hid (hS.s4.s4.s4.shutSt rfl).s2.s2
      clear hS
      go_wp2_with fail
      exact ⟨_, us, rfl, HS.out⟩
end Go.Proofs.YtlekfpeonehggaaGreatDoor
end
