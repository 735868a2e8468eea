/- The document's chain: New, Copy, find, put, Latest. -/
import Derived.Test.YtaaijjgaeppmkaaDoorCi
import Derived.Deep.DeepCutAuto
import Derived.Great.Walk
set_option linter.unusedVariables false
set_option maxRecDepth 100000
namespace Go.Proofs.YtaaijjgaeppmkaaDoor
open Go.Proofs.BL Go.Proofs.Peel Go.RowKit Go.Proofs.Cn

/-- What an object of the document's chain is. -/
def RcF (w : World) (p : Nat) (v : Value) (vs : Vs) : Prop := Blk w p #[v] 71 ∧ Go.Proofs.BL.Own w 0 68 5 v (rwV vs)
theorem RcF.below {w w' : World} {p : Nat} {v : Value} {vs : Vs} (h : RcF w p v vs) (hb : Below w.heap.size w w') : RcF w' p v vs := ⟨h.1.below hb, h.2.below hb⟩
theorem Sat.rcF {p : Nat} {vs : Vs} {l : List Part} {w : World} (h : Sat (rcP p vs :: l) w) : ∃ v, RcF w p v vs ∧ Sat (blk p #[v] 71 :: ownR v 68 5 (rwV vs) :: l) w := by
  obtain ⟨v, h⟩ := h.openO
  exact ⟨v, ⟨h.blk_, h.s1.own_⟩, h⟩
theorem RcF.form {w : World} {p : Nat} {v : Value} {vs : Vs} (h : RcF w p v vs) : ∃ A c, v = .slice A vs.length c ∧ vs.length ≤ c ∧ (A = none → c = 0) ∧ RowsAt w 5 A (rwV vs) ∧ w.cell? ⟨p, 0, none⟩ = some (.slice A vs.length c) := by
  obtain ⟨A, c, rfl, h1, h2, h3⟩ := h.2.slv'
  rw [rwV_len] at h1
  refine ⟨A, c, by rw [rwV_len], h1, h2, h3, ?_⟩
  have := h.1.at_ 0 rfl
  rw [rwV_len] at this
  exact this

def RNewPost (l : List Part) (vs : Vs) (e : Ending) (w' : World) : Prop := ∃ p : Nat, e = .returned (.pointer (some ⟨p, 0, none⟩)) ∧ Sat (rcP p vs :: l) w'
set_option maxHeartbeats 1000000 in
theorem rNew (n : Int) (th : Bool) (l : List Part) (w : World) (h : Sat l w) : Calls Tryd.prog 16 #[.int .i64 n, .bool th] w (RNewPost l [mk 0 n th false]) := by
  refine via fun Q hQ => ?_
  cases th
  · have hS := (h.lit 68 5 1 (rwV [mk 0 n false false]) #[.int .i64 0, .int .i64 0, .bool false, .int .i64 0, .bool false] rfl (by decide) rfl (rwV_five _) rfl).alloc #[.slice (some ⟨w.heap.size, 0, none⟩) 1 1] 71
    rw [alloc_sz] at hS
    have HS := Lib.hid hS.shutO
    clear h hS
    go_enter Tryd.func16, Tryd.ntmps16
    go_wp2_with fail
    exact ⟨_, rfl, HS.out⟩
  · have hS := (h.lit 68 5 1 (rwV [mk 0 n true false]) #[.int .i64 0, .int .i64 n, .bool true, .int .i64 0, .bool false] rfl (by decide) rfl (rwV_five _) rfl).alloc #[.slice (some ⟨w.heap.size, 0, none⟩) 1 1] 71
    rw [alloc_sz] at hS
    have HS := Lib.hid hS.shutO
    clear h hS
    go_enter Tryd.func16, Tryd.ntmps16
    go_wp2_with fail
    exact ⟨_, rfl, HS.out⟩

theorem infoR : (Tryd.prog.info? 68).map (fun i => (i.zero, i.size, i.bytes)) = some (some (.agg #[.int .i64 0, .int .i64 0, .bool false, .int .i64 0, .bool false]), 5, 40) := by kernel_rfl
theorem zeroR : ((.agg #[.int .i64 0, .int .i64 0, .bool false, .int .i64 0, .bool false]) : Value).cells.size = 5 := by kernel_rfl

set_option maxHeartbeats 1000000 in
theorem rCopy (p : Nat) (vs : Vs) (l : List Part) (w : World) (h : Sat (rcP p vs :: l) w) (hl : vs.length ≤ 1000000) : Calls Tryd.prog 21 #[.pointer (some ⟨p, 0, none⟩)] w (RNewPost (rcP p vs :: l) vs) := by
  obtain ⟨v, hF, h2⟩ := h.rcF
  have hal : Below w.heap.size w (w.alloc (.cells #[] 68)) := (Below.refl _ _).alloc (Nat.le_refl _) _
  obtain ⟨A, c, rfl, hc, hA, hr, c0⟩ := (hF.below hal).form
  have HRr := Lib.hid hr
  have HO2 := Lib.hid (Go.Proofs.BL.Own.lit w 68 5 0 [] #[] w.heap.size (Nat.le_refl _) rfl (Nat.zero_le _) rfl (fun r h => by cases h) (by simp))
  have HBs := Lib.hid hal.size
  have HAl := Lib.hid hal
  have Hsn := Lib.hid hA
  have HBig := Lib.hid (show (([] : List (List Value)).length + (rwV vs).length) * 40 ≤ 140737488355328 from by rw [rwV_len]; simp; omega)
  have H := Lib.hid h
  clear h h2 hF hal hr hA
  refine via fun Q hQ => ?_
  go_enter Tryd.func21, Tryd.ntmps21
  go_wp2_with (at_builtin; go_loud (refine appendNL (W := w.alloc (.cells #[] 68)) w.heap.size 68 5 40 _ rfl (.tmp 3) (.tmp 7) 69 rfl Tryd.underlying69 infoR zeroR (by decide) (by decide) (.slice (some ⟨w.heap.size, 0, none⟩) 0 0) [] (rwV vs) rfl A vs.length c rfl (rwV_len vs).symm Hsn.out HRr.out (rwV_five vs) (rwV_one vs) HO2.out HBs.out HBig.out ?_); intro v1 w1 ho1 hf1 hl1; obtain ⟨A1, c1, rfl, _, _, _⟩ := ho1.slv')
  have hbf : Below w.heap.size w w1 := ((Fr.of_below (S := none_) HAl.out).trans hf1 (fun i hi h => by
    simp only [Value.ownBlock, Option.some.injEq] at h
    omega)).below
  have hS := H.out.made hbf ho1
  rw [List.nil_append, rwV_len] at hS
  have HS := Lib.hid (hS.alloc #[.slice A1 vs.length c1] 71).shutO
  clear ho1 hf1 hl1 hbf hS
  exact ⟨_, rfl, HS.out⟩

/-- Of rising ones: how many of the first j stand at a time or below. -/
theorem cnt_take {vs : Vs} (h : vs.Pairwise (fun a b => a.at_ < b.at_)) (t : Int) (j : Nat) (hj : j ≤ vs.length) : cnt (vs.take j) t = min j (cnt vs t) := by
  have ht : (vs.take j).Pairwise (fun a b => a.at_ < b.at_) := h.sublist (List.take_sublist _ _)
  have hl : (vs.take j).length = j := by rw [List.length_take]; omega
  have h1 := cnt_le (vs.take j) t
  have h2 := cnt_le vs t
  have hi : ∀ i, i < j → (i < cnt (vs.take j) t ↔ i < cnt vs t) := fun i hij => by
    have e : (vs.take j)[i]? = some (vs[i]'(by omega)) := by rw [List.getElem?_take, if_pos hij, List.getElem?_eq_getElem (by omega)]
    rw [← cnt_lt ht t e, ← cnt_lt h t (List.getElem?_eq_getElem (show i < vs.length by omega))]
  rcases Nat.lt_trichotomy (cnt (vs.take j) t) (min j (cnt vs t)) with h3 | h3 | h3
  · have := (hi (cnt (vs.take j) t) (by omega)).2 (by omega)
    omega
  · exact h3
  · have := (hi (min j (cnt vs t)) (by omega)).1 (by omega)
    omega

set_option maxHeartbeats 1000000 in
theorem rfind (p : Nat) (v : Value) (vs : Vs) (t : Int) (w : World) (hF : RcF w p v vs) (hs : Ok vs) (hl : vs.length ≤ 1000000) : Calls Tryd.prog 46 #[.pointer (some ⟨p, 0, none⟩), .int .i64 t] w (Ans w (.int .i64 ((cnt vs t : Int) - 1))) := by
  obtain ⟨A, c, rfl, hc, hA, hr, c0⟩ := hF.form
  have HR := Lib.hid hr
  have hcl : ∀ (j : Nat) (x : Ver), vs[j]? = some x → (x.at_ ≤ t ↔ j < cnt vs t) := fun j x h => cnt_lt hs.1 t h
  have hkl := cnt_le vs t
  have HCL := Lib.hid hcl
  generalize cnt vs t = k at HCL hkl ⊢
  clear hF hr hs hcl
  refine via fun Q hQ => ?_
  go_enter Tryd.func46, Tryd.ntmps46
  go_wp2_with fail
  go_loopg [5, 13] vs.length (fun g x5 x13 wr => ∃ j m : Nat, j ≤ vs.length ∧ g = vs.length - j ∧ x5 = .int .i64 ((m : Int) - 1) ∧ m = min j k ∧ x13 = .int .i64 j ∧ Below w.heap.size w wr)
  case atStart => exact ⟨0, 0, Nat.zero_le _, rfl, rfl, by omega, rfl, Below.refl _ _⟩
  case round =>
    obtain ⟨j, m, hj, rfl, rfl, hm, rfl, hb⟩ := hrel
    have HB := Lib.hid hb
    have HM := Lib.hid hm
    clear hb hm
    by_cases hlt : j < vs.length
    · obtain ⟨bb, o, rfl, d1, d2, d3, d4, d5⟩ := rows_ver (HR.out.below HB.out) hlt
      have hclj := HCL.out j _ (List.getElem?_eq_getElem hlt)
      generalize vs[j] = x at d1 d2 d3 d4 d5 hclj
      obtain ⟨xa, xn, xt, xr, xo⟩ := x
      simp only at hclj
      have HCJ := Lib.hid hclj
      clear hclj
      by_cases hle : xa ≤ t
      · have hjk := Lib.hid (HCJ.out.1 hle)
        go_wp2_with fail
        go_roundg (vs.length - (j + 1))
        case measure => omega
        case rel => exact ⟨j + 1, j + 1, hlt, rfl, by go_num, by have := hjk.out; omega, by go_num, HB.out.alloc HB.out.size _⟩
      · have hjk := Lib.hid (show ¬ j < k from fun h => hle (HCJ.out.2 h))
        go_wp2_with fail
        go_roundg (vs.length - (j + 1))
        case measure => omega
        case rel => exact ⟨j + 1, m, hlt, rfl, rfl, by have := hjk.out; have := HM.out; omega, by go_num, HB.out.alloc HB.out.size _⟩
    · obtain rfl : j = vs.length := by omega
      have hmk : m = k := by have := HM.out; omega
      subst hmk
      go_wp2_with fail
      exact ⟨rfl, HB.out⟩

theorem lt_snoc (l : Vs) (v : Ver) : ltV (l ++ [v]) = if v.open_ then ltV l else (v.n, v.there) := by
  unfold ltV
  rw [List.reverse_append, List.reverse_singleton, List.singleton_append, List.find?_cons]
  cases v.open_ <;> simp
set_option maxHeartbeats 1000000 in
theorem rLatest (p : Nat) (v : Value) (vs : Vs) (w : World) (hF : RcF w p v vs) (hl : vs.length ≤ 1000000) : Calls Tryd.prog 34 #[.pointer (some ⟨p, 0, none⟩)] w (Ans w (.tuple #[.int .i64 (ltV vs).1, .bool (ltV vs).2])) := by
  obtain ⟨A, c, rfl, hc, hA, hr, c0⟩ := hF.form
  have HR := Lib.hid hr
  clear hF hr
  refine via fun Q hQ => ?_
  go_enter Tryd.func34, Tryd.ntmps34
  go_wp2_with fail
  go_loopg [4, 5, 13] vs.length (fun g x4 x5 x13 wr => ∃ j : Nat, j ≤ vs.length ∧ g = vs.length - j ∧ x4 = .int .i64 (ltV (vs.take j)).1 ∧ x5 = .bool (ltV (vs.take j)).2 ∧ x13 = .int .i64 j ∧ Below w.heap.size w wr)
  case atStart => exact ⟨0, Nat.zero_le _, rfl, rfl, rfl, rfl, Below.refl _ _⟩
  case round =>
    obtain ⟨j, hj, rfl, rfl, rfl, rfl, hb⟩ := hrel
    have HB := Lib.hid hb
    clear hb
    by_cases hlt : j < vs.length
    · obtain ⟨bb, o, rfl, d1, d2, d3, d4, d5⟩ := rows_ver (HR.out.below HB.out) hlt
      have hst : ltV (vs.take (j + 1)) = if vs[j].open_ then ltV (vs.take j) else (vs[j].n, vs[j].there) := by
        rw [List.take_add_one, List.getElem?_eq_getElem hlt, Option.toList_some, lt_snoc]
      generalize vs[j] = x at d1 d2 d3 d4 d5 hst
      obtain ⟨xa, xn, xt, xr, xo⟩ := x
      have HST := Lib.hid hst
      clear hst
      generalize ltV (vs.take j) = lj at HST ⊢
      obtain ⟨ln, lt⟩ := lj
      cases xo with
      | true =>
        have HST2 := Lib.hid (HST.out.trans (if_pos rfl))
        clear HST
        go_wp2_with fail
        go_roundg (vs.length - (j + 1))
        case measure => omega
        case rel => exact ⟨j + 1, hlt, rfl, by rw [HST2.out], by rw [HST2.out], by go_num, HB.out.alloc HB.out.size _⟩
      | false =>
        have HST2 := Lib.hid (HST.out.trans (if_neg (fun h => by cases h)))
        clear HST
        go_wp2_with fail
        go_roundg (vs.length - (j + 1))
        case measure => omega
        case rel => exact ⟨j + 1, hlt, rfl, by rw [HST2.out], by rw [HST2.out], by go_num, HB.out.alloc HB.out.size _⟩
    · obtain rfl : j = vs.length := by omega
      rw [List.take_length]
      go_wp2_with fail
      exact ⟨rfl, HB.out⟩

theorem own_form {w : World} {base : Nat} {E : TypeId} {sz : Nat} {v : Value} {rows : List (List Value)} (h : Go.Proofs.BL.Own w base E sz v rows) : ∃ A n q, v = .slice A n q := by
  obtain ⟨A, q, e, _⟩ := h.slv'
  exact ⟨A, _, q, e⟩
def PutPost (p : Nat) (l : List Part) (vs : Vs) (e : Ending) (w' : World) : Prop := e = .returned (.tuple #[]) ∧ Sat (rcP p vs :: l) w'
set_option maxHeartbeats 2000000 in
theorem rput (p a b : Nat) (A2 : Option Addr) (c2 : Nat) (ys vs : Vs) (l : List Part) (w : World) (h : Sat (rcP p vs :: l) w) (hl : vs.length ≤ 1000000) (hyl : ys.length ≤ 1000000) (hab : a ≤ vs.length) (hb : b ≤ vs.length) (hA2 : A2 = none → c2 = 0) (hr2 : RowsAt w 5 A2 (rwV ys)) :
    Calls Tryd.prog 47 #[.pointer (some ⟨p, 0, none⟩), .int .i64 a, .int .i64 b, .slice A2 ys.length c2] w (PutPost p l (vs.take a ++ ys ++ vs.drop b)) := by
  obtain ⟨v, hF, h2⟩ := h.rcF
  obtain ⟨A, c, rfl, hc, hA, hr, c0⟩ := hF.form
  have HF := Lib.hid hF
  have H2 := Lib.hid h2
  have HR2 := Lib.hid hr2
  have HA := Lib.hid hA
  have HA2 := Lib.hid hA2
  have hrt : RowsAt w 5 A (rwV (vs.take a)) := by rw [rwV, List.map_take]; exact hr.take a
  have htl : (rwV (vs.take a)).length = a := by rw [rwV_len, List.length_take]; omega
  have HRt := Lib.hid hrt
  have HTl := Lib.hid htl
  have HO := Lib.hid (Go.Proofs.BL.Own.nil w w.heap.size 68 5)
  have HB1 := Lib.hid (show (([] : List (List Value)).length + (rwV (vs.take a)).length) * 40 ≤ 140737488355328 from by rw [htl]; simp; omega)
  clear h hF h2 hr hr2 hA hA2 hrt htl
  refine via fun Q hQ => ?_
  have hac : a ≤ c := by omega
  have hbc : b ≤ c := by omega
  go_enter Tryd.func47, Tryd.ntmps47
  go_upto_region 2 with (at_builtin; go_loud (refine appendNL (W := w) w.heap.size 68 5 40 _ rfl (.tmp 9) (.tmp 15) 69 rfl Tryd.underlying69 infoR zeroR (by decide) (by decide) (.slice none 0 0) [] (rwV (vs.take a)) rfl A a c rfl HTl.out.symm HA.out HRt.out (rwV_five _) (rwV_one _) HO.out (Nat.le_refl _) HB1.out ?_); intro v1 w1 ho1 hf1 hl1)
  have hb1 : Below w.heap.size w w1 := ((Fr.refl none_ w).trans hf1 (fun i hi h => by simp [Value.ownBlock] at h)).below
  obtain ⟨A1, n1, q1, rfl⟩ := own_form ho1
  rw [List.nil_append] at ho1
  have HO1 := Lib.hid ho1
  have HBw1 := Lib.hid hb1
  have HR21 := Lib.hid (HR2.out.below hb1)
  have HBs1 := Lib.hid hb1.size
  have HB2 := Lib.hid (show ((rwV (vs.take a)).length + (rwV ys).length) * 40 ≤ 140737488355328 from by rw [HTl.out, rwV_len]; omega)
  clear ho1 hf1 hl1 hb1
  go_upto_region 3 with (at_builtin; go_loud (refine appendNL (W := w1) w.heap.size 68 5 40 _ rfl (.tmp 17) (.tmp 18) 69 rfl Tryd.underlying69 infoR zeroR (by decide) (by decide) (.slice A1 n1 q1) (rwV (vs.take a)) (rwV ys) rfl A2 ys.length c2 rfl (rwV_len ys).symm HA2.out HR21.out (rwV_five _) (rwV_one _) HO1.out HBs1.out HB2.out ?_); intro v2 w2 ho2 hf2 hl2)
  have hb2 : Below w.heap.size w w2 := ((Fr.of_below (S := none_) HBw1.out).trans hf2 (fun i hi h => by have := (HO1.out.1.lt i h).1; omega)).below
  have hF2 := HF.out.below hb2
  have c02 := hF2.1.at_ 0 rfl
  obtain ⟨A3, n3, q3, rfl⟩ := own_form ho2
  have HO2 := Lib.hid ho2
  have HBw2 := Lib.hid hb2
  have HBs2 := Lib.hid hb2.size
  rcases hF2.2.1.2 with ⟨e, hn⟩ | ⟨g, cap, cur, e, _, _, _, _, _, _⟩
  · injection e with e1 e2 e3
    subst e1 e3
    obtain rfl : vs = [] := List.eq_nil_of_length_eq_zero e2
    obtain rfl : b = 0 := by simpa using hb
    obtain rfl : a = 0 := by simpa using hab
    clear hF2 ho2 hf2 hl2 hb2
    have HA4 := Lib.hid (show (none : Option Addr) = none → 0 = 0 from fun _ => rfl)
    have HR4 := Lib.hid (show RowsAt w2 5 none (rwV (([] : Vs).drop 0)) from RowsAt.nil _ _ _)
    have HN4 := Lib.hid (show 0 = (rwV (([] : Vs).drop 0)).length from by rw [rwV_len, List.length_drop]; rfl)
    have HB3 := Lib.hid (show ((rwV (([] : Vs).take 0) ++ rwV ys).length + (rwV (([] : Vs).drop 0)).length) * 40 ≤ 140737488355328 from by rw [List.length_append, HTl.out, rwV_len, rwV_len, List.length_drop]; omega)
    go_wp2_with (at_builtin; go_loud (refine appendNL (W := w2) w.heap.size 68 5 40 _ rfl (.tmp 21) (.tmp 27) 69 rfl Tryd.underlying69 infoR zeroR (by decide) (by decide) (.slice A3 n3 q3) (rwV (([] : Vs).take 0) ++ rwV ys) (rwV (([] : Vs).drop 0)) rfl none 0 0 rfl HN4.out HA4.out HR4.out (rwV_five _) (rwV_one _) HO2.out HBs2.out HB3.out ?_); intro v3 w3 ho3 hf3 hl3; have hb3 : Below w.heap.size w w3 := ((Fr.of_below (S := none_) HBw2.out).trans hf3 (fun i hi h => by have := (HO2.out.1.lt i h).1; omega)).below; have hS3 := (H2.out.made hb3 ho3); have c03 := hS3.s1.blk_.at_ 0 rfl; have f03 := hS3.s1.blk_.free 0; obtain ⟨A5, n5, q5, rfl⟩ := own_form ho3; have hS4 := ((hS3.s1.set 0 (.slice A5 n5 q5)).s2.drop).shutO; rw [show rwV (([] : Vs).take 0) ++ rwV ys ++ rwV (([] : Vs).drop 0) = rwV (([] : Vs).take 0 ++ ys ++ ([] : Vs).drop 0) from by simp [rwV]] at hS4; have HS4 := Lib.hid hS4; clear hS4 hS3 ho3 hf3 hl3 hb3)
    refine Great.bodyPost_end0 rfl rfl ?_
    exact hQ _ _ ⟨rfl, HS4.out⟩

  · injection e with e1 e2 e3
    subst e1 e3
    clear e2
    have hrx := hF2.form
    by_cases hcb : c = b
    · have hbl : vs.length = b := by omega
      have hdr : vs.drop b = [] := List.drop_of_length_le (by omega)
      subst hcb
      clear hF2 ho2 hf2 hl2 hb2 hrx
      have HA4 := Lib.hid (show ((some ⟨g, 0, none⟩) : Option Addr) = none → 0 = 0 from fun h => by cases h)
      have HR4 := Lib.hid (show RowsAt w2 5 (some ⟨g, 0, none⟩) (rwV (vs.drop c)) from by rw [hdr]; exact RowsAt.nil _ _ _)
      have HN4 := Lib.hid (show 0 = (rwV (vs.drop c)).length from by rw [rwV_len, List.length_drop]; omega)
      have HB3 := Lib.hid (show ((rwV (vs.take a) ++ rwV ys).length + (rwV (vs.drop c)).length) * 40 ≤ 140737488355328 from by rw [List.length_append, HTl.out, rwV_len, rwV_len, List.length_drop]; omega)
      go_wp2_with (at_builtin; go_loud (refine appendNL (W := w2) w.heap.size 68 5 40 _ rfl (.tmp 21) (.tmp 27) 69 rfl Tryd.underlying69 infoR zeroR (by decide) (by decide) (.slice A3 n3 q3) (rwV (vs.take a) ++ rwV ys) (rwV (vs.drop c)) rfl (some ⟨g, 0, none⟩) 0 0 rfl HN4.out HA4.out HR4.out (rwV_five _) (rwV_one _) HO2.out HBs2.out HB3.out ?_); intro v3 w3 ho3 hf3 hl3; have hb3 : Below w.heap.size w w3 := ((Fr.of_below (S := none_) HBw2.out).trans hf3 (fun i hi h => by have := (HO2.out.1.lt i h).1; omega)).below; have hS3 := (H2.out.made hb3 ho3); have c03 := hS3.s1.blk_.at_ 0 rfl; have f03 := hS3.s1.blk_.free 0; obtain ⟨A5, n5, q5, rfl⟩ := own_form ho3; have hS4 := ((hS3.s1.set 0 (.slice A5 n5 q5)).s2.drop).shutO; rw [show rwV (vs.take a) ++ rwV ys ++ rwV (vs.drop c) = rwV (vs.take a ++ ys ++ vs.drop c) from by simp [rwV]] at hS4; have HS4 := Lib.hid hS4; clear hS4 hS3 ho3 hf3 hl3 hb3)
      refine Great.bodyPost_end0 rfl rfl ?_
      exact hQ _ _ ⟨rfl, HS4.out⟩

    · have hr4 : RowsAt w2 5 (some ⟨g, b * 5, none⟩) (rwV (vs.drop b)) := fun i r hi => by
        obtain ⟨Ax, cx, e, _, _, hrx, _⟩ := hrx
        injection e with e _ _
        subst e
        rw [rwV, List.map_drop, List.getElem?_drop] at hi
        obtain ⟨b0, o0, e0, hcell⟩ := hrx (b + i) r hi
        injection e0 with e0
        injection e0 with e0 e1
        subst e0 e1
        refine ⟨_, _, rfl, fun j u hj => ?_⟩
        have := hcell j u hj
        rwa [show 0 + (b + i) * 5 + j = b * 5 + i * 5 + j from by rw [Nat.add_mul]; omega] at this
      have HR5 := Lib.hid hr4
      clear hF2 ho2 hf2 hl2 hb2 hrx hr4
      have HA4 := Lib.hid (show ((some ⟨g, b * 5, none⟩) : Option Addr) = none → (c - b) = 0 from fun h => by cases h)
      have HR4 := Lib.hid (show RowsAt w2 5 (some ⟨g, b * 5, none⟩) (rwV (vs.drop b)) from HR5.out)
      have HN4 := Lib.hid (show (vs.length - b) = (rwV (vs.drop b)).length from by rw [rwV_len, List.length_drop])
      have HB3 := Lib.hid (show ((rwV (vs.take a) ++ rwV ys).length + (rwV (vs.drop b)).length) * 40 ≤ 140737488355328 from by rw [List.length_append, HTl.out, rwV_len, rwV_len, List.length_drop]; omega)
      go_wp2_with (at_builtin; go_loud (refine appendNL (W := w2) w.heap.size 68 5 40 _ rfl (.tmp 21) (.tmp 27) 69 rfl Tryd.underlying69 infoR zeroR (by decide) (by decide) (.slice A3 n3 q3) (rwV (vs.take a) ++ rwV ys) (rwV (vs.drop b)) rfl (some ⟨g, b * 5, none⟩) (vs.length - b) (c - b) rfl HN4.out HA4.out HR4.out (rwV_five _) (rwV_one _) HO2.out HBs2.out HB3.out ?_); intro v3 w3 ho3 hf3 hl3; have hb3 : Below w.heap.size w w3 := ((Fr.of_below (S := none_) HBw2.out).trans hf3 (fun i hi h => by have := (HO2.out.1.lt i h).1; omega)).below; have hS3 := (H2.out.made hb3 ho3); have c03 := hS3.s1.blk_.at_ 0 rfl; have f03 := hS3.s1.blk_.free 0; obtain ⟨A5, n5, q5, rfl⟩ := own_form ho3; have hS4 := ((hS3.s1.set 0 (.slice A5 n5 q5)).s2.drop).shutO; rw [show rwV (vs.take a) ++ rwV ys ++ rwV (vs.drop b) = rwV (vs.take a ++ ys ++ vs.drop b) from by simp [rwV]] at hS4; have HS4 := Lib.hid hS4; clear hS4 hS3 ho3 hf3 hl3 hb3)
      refine Great.bodyPost_end0 rfl rfl ?_
      exact hQ _ _ ⟨rfl, HS4.out⟩

end Go.Proofs.YtaaijjgaeppmkaaDoor
