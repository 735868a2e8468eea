/- Package page: Del. -/
import Derived.Test.YtlekfpeonehggaaGreatDoorJ29
section
set_option linter.unusedVariables false
set_option linter.unusedSimpArgs false
set_option maxRecDepth 100000
namespace Go.Proofs.YtlekfpeonehggaaGreatDoor
open Go.Proofs.BL Go.Proofs.Peel Go.RowKit Go.Proofs.Ky

theorem set_getD {P : List (List Rw)} {i : Nat} (hi : i < P.length) (p : List Rw) (j : Nat) : (P.set i p).getD j [] = if j = i then p else P.getD j [] := by
  by_cases e : j = i
  · subst e
    rw [if_pos rfl, List.getD_eq_getElem?_getD, List.getElem?_set_self hi]; rfl
  · rw [if_neg e, List.getD_eq_getElem?_getD, List.getElem?_set_ne (Ne.symm e), ← List.getD_eq_getElem?_getD]
/-- The program's join is the document's. -/
theorem join_del {most : Int} (hm : 0 ≤ most) {P : List (List Rw)} {key : ByteArray} (hi : pgI tx key P < P.length) :
    joinV most (pgI tx key P) (P.set (pgI tx key P) (withR tx key none (P.getD (pgI tx key P) []))) = delS tx most.toNat key P := by
  obtain ⟨M, rfl⟩ : ∃ M : Nat, most = M := ⟨most.toNat, by omega⟩
  unfold joinV delS
  simp only [show ((M : Int)).toNat = M from rfl]
  generalize pgI tx key P = i at *
  generalize withR tx key none (P.getD i []) = q
  have hone : putAt P i [q] = P.set i q := putAt_one (List.getElem?_eq_getElem hi)
  rw [set_getD hi, if_pos rfl]
  by_cases h0 : q = []
  · rw [if_pos h0, if_pos h0]
    unfold putAt
    rw [List.eraseIdx_set_eq, List.eraseIdx_eq_take_drop_succ]
    simp
  · rw [if_neg h0, if_neg h0]
    by_cases hb : M / 2 ≤ q.length
    · rw [if_pos (by omega), if_pos hb, hone]
    · rw [if_neg (by omega), if_neg hb, hone]
      have h1 : fitB M (P.set i q) i ((i : Int) + 1) = decide (i + 1 < P.length ∧ q.length + (P.getD (i + 1) []).length ≤ M) := by
        unfold fitB
        rw [show ((i : Int)).toNat = i from rfl, show ((i : Int) + 1).toNat = i + 1 by omega, set_getD hi, set_getD hi, if_pos rfl, if_neg (by omega), List.length_set]
        refine decide_eq_decide.2 ⟨fun h => ⟨by omega, by omega⟩, fun h => ⟨by omega, by omega, by omega⟩⟩
      have h2 : fitB M (P.set i q) ((i : Int) - 1) i = decide (0 < i ∧ q.length + (P.getD (i - 1) []).length ≤ M) := by
        unfold fitB
        by_cases hz : i = 0
        · subst hz
          rw [decide_eq_false (by omega), decide_eq_false (by omega)]
        · rw [show ((i : Int)).toNat = i from rfl, show ((i : Int) - 1).toNat = i - 1 by omega, set_getD hi, set_getD hi, if_pos rfl, if_neg (by omega), List.length_set]
          refine decide_eq_decide.2 ⟨fun h => ⟨by omega, by omega⟩, fun h => ⟨by omega, by omega, by omega⟩⟩
      rw [h1, h2]
      unfold joinI
      by_cases k1 : i + 1 < P.length ∧ q.length + (P.getD (i + 1) []).length ≤ M
      · rw [if_pos (decide_eq_true k1), if_pos k1]
      · rw [if_neg (by rw [decide_eq_false k1]; simp), if_neg k1]
        by_cases k2 : 0 < i ∧ q.length + (P.getD (i - 1) []).length ≤ M
        · rw [if_pos (decide_eq_true k2), if_pos k2]
        · rw [if_neg (by rw [decide_eq_false k2]; simp), if_neg k2]
def delV (most : Int) (key : ByteArray) (P : List (List Rw)) : List (List Rw) × Bool := if (get key P.flatten).isSome then (delS tx most.toNat key P, true) else (P, false)
def DelPost (p : Nat) (most : Int) (ls : List Part) (r : List (List Rw) × Bool) (e : Ending) (w' : World) : Prop := e = .returned (.bool r.2) ∧ Sat (stP p most r.1 :: ls) w'
theorem pgDelNil (key : ByteArray) (w : World) : Calls Tryz.prog 35 #[.pointer none, .string key] w (fun e w' => e = .returned (.bool false) ∧ Below w.heap.size w w') := by
  refine via fun Q hQ => ?_
  go_enter Tryz.func35, Tryz.ntmps35
  go_wp2_with fail
  (with_reducible refine (pgNilGet key _).mono ?_)
  rintro e w1 ⟨rfl, hb⟩
  have HB := Lib.hid hb
  clear hb
  go_wp2_with fail
  exact ⟨rfl, HB.out⟩
theorem er_len {P : List (List Rw)} {k lo : Nat} {r : List Rw} (h : P[k]? = some r) (hlo : lo < r.length) : (P.set k (r.eraseIdx lo)).flatten.length + 1 = P.flatten.length := by
  obtain ⟨hk, e⟩ := List.getElem?_eq_some_iff.1 h
  have hP : P.flatten = (P.take k ++ P[k] :: P.drop (k + 1)).flatten := by rw [← List.drop_eq_getElem_cons hk, List.take_append_drop]
  rw [hP, e, List.set_eq_take_append_cons_drop, if_pos hk]
  simp only [List.flatten_append, List.flatten_cons, List.length_append, List.length_eraseIdx, if_pos hlo]
  omega
set_option maxHeartbeats 4000000 in
theorem stDel (p : Nat) (most : Int) (P : List (List Rw)) (key : ByteArray) (ls : List Part) (w : World) (h : Sat (stP p most P :: ls) w) (hP : Pgs tx P) (hm : 2 ≤ most) (hm2 : most ≤ 64) (hl : P.flatten.length ≤ 256) :
    Calls Tryz.prog 35 #[.pointer (some ⟨p, 0, none⟩), .string key] w (DelPost p most ls (delV most key P)) := by
  refine via fun Q hQ => ?_
  have H := Lib.hid h
  obtain ⟨L, vs, hF, h2⟩ := h.stF
  have hgc := stGet p most P.flatten.length L vs P key w hF hP (by omega)
  obtain ⟨A, c, rfl, hc, hA, _⟩ := hF.leaves
  have hpl := pgs_len hP
  have H2 := Lib.hid h2
  have hr : delV most key P = if (get key P.flatten).isSome then (delS tx most.toNat key P, true) else (P, false) := rfl
  clear h h2
  cases hg : (get key P.flatten).isSome with
  | false =>
    rw [hg, if_neg (by simp)] at hr
    unfold PGetPost at hgc
    rw [hg] at hgc
    rw [hr] at hQ
    generalize (get key P.flatten).getD 0 = gd at hgc
    have HGc := Lib.hid hgc
    clear hgc hF hP hA hc hg hr
    go_enter Tryz.func35, Tryz.ntmps35
    go_wp2_with fail
    (with_reducible refine HGc.out.mono ?_)
    rintro e w1 ⟨rfl, hb⟩
    have HS := Lib.hid (H.out.below hb)
    clear hb
    go_wp2_with fail
    exact ⟨rfl, HS.out⟩
  | true =>
    rw [hg, if_pos rfl] at hr
    rw [hr] at hQ
    unfold PGetPost at hgc
    rw [hg] at hgc
    generalize (get key P.flatten).getD 0 = gd at hgc
    have HGc := Lib.hid hgc
    have hnP : P ≠ [] := fun e => by rw [e] at hg; cases hg
    have hlt := pgI_lt tx key hnP
    have hjd := join_del (most := most) (by omega) hlt
    have hup := pgs_up tx hP hlt
    have hgf := get_flat tx (k := key) hP hnP
    rw [getD_at _ _ hlt] at hgf hjd
    have hth : there tx key P[pgI tx key P] = true := by
      have h1 := get_there tx (k := key) hup
      rw [← hgf] at h1
      cases e : there tx key P[pgI tx key P] with
      | true => rfl
      | false =>
        rw [e, if_neg (by simp)] at h1
        rw [h1] at hg
        cases hg
    rw [with_none tx hup, hth, if_pos rfl] at hjd
    rw [← hjd] at hQ
    have hrl := page_len (List.getElem_mem hlt)
    have hx : P[pgI tx key P]? = some P[pgI tx key P] := List.getElem?_eq_getElem hlt
    have hne := hP.2
    generalize P[pgI tx key P] = r at *
    have hlo := there_lt tx hth
    have hfi : fndI key P = (pgI tx key P : Int) := if_neg hnP
    have hfd := fun x (h : StF x p most (P.flatten.length : Int) (.slice A P.length c) vs P) => stFind p most (P.flatten.length : Int) (.slice A P.length c) vs P key x h hne (by omega)
    rw [hfi] at hfd
    have hAt := fun x v (h : OwnW x 0 29 2 v (rwR r)) => lfAt v r key x h hup (by omega)
    rw [hth] at hAt
    generalize pgI tx key P = i at *
    generalize low tx key r = lo at *
    obtain ⟨b, v, rfl, hv, _, _, hO⟩ := hF.page hx
    obtain ⟨g, c2, e2, _, _⟩ := hO.some_ (fun e => by have h9 := congrArg List.length e; rw [rwR_len] at h9; have h8 : r.length = 0 := h9; omega)
    have HFd := Lib.hid hfd
    have HAt := Lib.hid (fun x h => hAt x v h)
    have HX := Lib.hid hx
    have HV := Lib.hid hv
    have hvl := hF.v
    have hel := er_len hx hlo
    have HEl := Lib.hid hel
    have b2 : (0 : Int) ≤ (i : Int) := by omega
    have b3 : (i : Int) < (P.length : Int) := by omega
    have b4 : (0 : Int) ≤ (lo : Int) := by omega
    have b5 : ((P.length : Int) == 0) = false := int_diff (by omega)
    have hFp : 0 < P.flatten.length := by omega
    clear hfd hAt hx hv hF hA hr hfi hup hth hne hnP hgf hgc hP hO hg hjd hel
    generalize hfl : P.flatten.length = F at *
    have HFl := Lib.hid hfl
    clear hfl
    generalize hN : P.length = N at *
    have HN := Lib.hid hN
    clear hN
    have HE2 := Lib.hid e2
    clear e2
    have sF : IntKind.i64.wrap ((F : Int) - 1) = (F : Int) - 1 := IntWalk.i64_in _ (by omega)
    go_enter Tryz.func35, Tryz.ntmps35
    go_wp2_with fail
    (with_reducible refine HGc.out.mono ?_)
    rintro e w1 ⟨rfl, hb⟩
    have hS2 := H2.out.below hb
    have HS2 := Lib.hid hS2
    clear hb hS2
    go_wp2_with fail
    (with_reducible refine (HFd.out _ HS2.out.stF0).mono ?_)
    rintro e w3 ⟨rfl, hb3⟩
    have hS4 := HS2.out.below hb3
    have d1 := hS4.blk_.at_ 1 rfl
    simp only [List.getElem_toArray, List.getElem_cons_succ, List.getElem_cons_zero] at d1
    obtain ⟨b', v', e', hv', k1, f1, hO⟩ := hS4.stF0.page HX.out
    injection e' with e'
    injection e' with e'
    subst e'
    rw [HV.out] at hv'
    injection hv' with hv'
    subst hv'
    have HAt3 := Lib.hid (HAt.out w3 hO)
    have HS4 := Lib.hid hS4
    clear hb3 hS4 hO HFd HGc HAt f1 HS2
    have e2 := HE2.out
    subst e2
    have hrl2 := rwR_len r
    generalize (rwR r).length = nr at *
    subst hrl2
    go_wp2_with fail
    (with_reducible refine HAt3.out.mono ?_)
    rintro e w4 ⟨rfl, hb4⟩
    have hS5 := HS4.out.below hb4
    have q1 := hS5.blk_.at_ 1 rfl
    simp only [List.getElem_toArray, List.getElem_cons_succ, List.getElem_cons_zero] at q1
    have k1 := (hb4.cell (World.block_lt_of_cell? w3 _ k1)).trans k1
    obtain ⟨v', hv', hS6⟩ := hS5.s2.pageOut HX.out
    rw [HV.out] at hv'
    injection hv' with hv'
    subst hv'
    have hrnr : (rwR r).eraseIdx lo = rwR (r.eraseIdx lo) := by unfold rwR; rw [List.eraseIdx_eq_take_drop_succ, List.eraseIdx_eq_take_drop_succ, List.map_append, List.map_take, List.map_drop]
    have hDel := delR_sat hS6.drew lo (by rw [rwR_len]; exact hlo) (rwR_one r)
    rw [hrnr] at hDel
    have HDel := Lib.hid hDel
    generalize hnr : r.length = nr at *
    have HNr := Lib.hid hnr
    clear hnr
    clear hb4 hS5 hS6 HAt3 HS4 d1 hDel hrnr
    have e0 : World.cell? w4.drew ⟨p, 1, none⟩ = _ := q1
    have e1 : World.cell? w4.drew ⟨b, i, none⟩ = _ := k1
    have sl : IntKind.i64.wrap ((lo : Int) + 1) = (lo : Int) + 1 := IntWalk.i64_in _ (by omega)
    go_wp2_with fail
    refine Rg.begin_ (fun x => x.cell? ⟨p, 1, none⟩ = some (.slice (some ⟨b, 0, none⟩) N c) ∧ x.cell? ⟨b, i, none⟩ = some (.slice (some ⟨g, 0, none⟩) nr c2)) 19 (by kernel_rfl) ?_
    have hS0 : (fun x => x.cell? ⟨p, 1, none⟩ = some (.slice (some ⟨b, 0, none⟩) N c) ∧ x.cell? ⟨b, i, none⟩ = some (.slice (some ⟨g, 0, none⟩) nr c2)) (World.drew w4) := ⟨e0, e1⟩
    refine Rg.take (i := 0) (v := ?_) rfl (by kernel_rfl) (fun _ _ _ h => h) hS0 (Or.inl ⟨by rfl, ?_⟩) ?_
    rotate_left
    · ((intro w hSw; (try dsimp only at hSw); go_simp) <;> (with_reducible rfl))
    try simp only [Act.put, List.setIfInBounds_toArray, List.set_cons_zero, List.set_cons_succ]
    refine Rg.take (i := 1) (v := ?_) rfl (by kernel_rfl) (fun _ _ _ h => h) hS0 (Or.inl ⟨by rfl, ?_⟩) ?_
    rotate_left
    · ((intro w hSw; (try dsimp only at hSw); go_simp) <;> (with_reducible rfl))
    try simp only [Act.put, List.setIfInBounds_toArray, List.set_cons_zero, List.set_cons_succ]
    refine Rg.take (i := 2) (v := ?_) rfl (by kernel_rfl) (fun _ _ _ h => h) hS0 (Or.inl ⟨by rfl, ?_⟩) ?_
    rotate_left
    · ((intro w hSw; (try dsimp only at hSw); go_simp) <;> (with_reducible rfl))
    try simp only [Act.put, List.setIfInBounds_toArray, List.set_cons_zero, List.set_cons_succ]
    refine Rg.take (i := 3) (v := ?_) rfl (by kernel_rfl) (fun _ _ _ h => h) hS0 (Or.inl ⟨by rfl, ?_⟩) ?_
    rotate_left
    · ((intro w hSw; (try dsimp only at hSw); go_simp) <;> (with_reducible rfl))
    try simp only [Act.put, List.setIfInBounds_toArray, List.set_cons_zero, List.set_cons_succ]
    refine Rg.take (i := 4) (v := ?_) rfl (by kernel_rfl) (fun _ _ _ h => h) hS0 (Or.inl ⟨by rfl, ?_⟩) ?_
    rotate_left
    · ((intro w hSw; (try dsimp only at hSw); go_simp) <;> (with_reducible rfl))
    try simp only [Act.put, List.setIfInBounds_toArray, List.set_cons_zero, List.set_cons_succ]
    refine Rg.take (i := 5) (v := ?_) rfl (by kernel_rfl) (fun _ _ _ h => h) hS0 (Or.inl ⟨by rfl, ?_⟩) ?_
    rotate_left
    · ((intro w hSw; (try dsimp only at hSw); go_simp) <;> (with_reducible rfl))
    try simp only [Act.put, List.setIfInBounds_toArray, List.set_cons_zero, List.set_cons_succ]
    refine Rg.take (i := 6) (v := ?_) rfl (by kernel_rfl) (fun _ _ _ h => h) hS0 (Or.inl ⟨by rfl, ?_⟩) ?_
    rotate_left
    · ((intro w hSw; (try dsimp only at hSw); go_simp) <;> (with_reducible rfl))
    try simp only [Act.put, List.setIfInBounds_toArray, List.set_cons_zero, List.set_cons_succ]
    refine Rg.take (i := 7) (v := ?_) rfl (by kernel_rfl) (fun _ _ _ h => h) hS0 (Or.inl ⟨by rfl, ?_⟩) ?_
    rotate_left
    · ((intro w hSw; (try dsimp only at hSw); go_simp) <;> (with_reducible rfl))
    try simp only [Act.put, List.setIfInBounds_toArray, List.set_cons_zero, List.set_cons_succ]
    refine Rg.take (i := 8) (v := ?_) rfl (by kernel_rfl) (fun _ _ _ h => h) hS0 (Or.inl ⟨by rfl, ?_⟩) ?_
    rotate_left
    · ((intro w hSw; (try dsimp only at hSw); go_simp) <;> (with_reducible rfl))
    try simp only [Act.put, List.setIfInBounds_toArray, List.set_cons_zero, List.set_cons_succ]
    refine Rg.take (i := 9) (v := ?_) rfl (by kernel_rfl) (fun _ _ _ h => h) hS0 (Or.inl ⟨by rfl, ?_⟩) ?_
    rotate_left
    · ((intro w hSw; (try dsimp only at hSw); go_simp) <;> (with_reducible rfl))
    try simp only [Act.put, List.setIfInBounds_toArray, List.set_cons_zero, List.set_cons_succ]
    refine Rg.take (i := 10) (v := ?_) rfl (by kernel_rfl) (fun _ _ _ h => h) hS0 (Or.inl ⟨by rfl, ?_⟩) ?_
    rotate_left
    · ((intro w hSw; (try dsimp only at hSw); go_simp) <;> (with_reducible rfl))
    try simp only [Act.put, List.setIfInBounds_toArray, List.set_cons_zero, List.set_cons_succ]
    refine Rg.take (i := 11) (v := ?_) rfl (by kernel_rfl) (fun _ _ _ h => h) hS0 (Or.inl ⟨by rfl, ?_⟩) ?_
    rotate_left
    · ((intro w hSw; (try dsimp only at hSw); go_simp) <;> (with_reducible rfl))
    try simp only [Act.put, List.setIfInBounds_toArray, List.set_cons_zero, List.set_cons_succ]
    refine Rg.take (i := 12) (v := ?_) rfl (by kernel_rfl) (fun _ _ _ h => h) hS0 (Or.inl ⟨by rfl, ?_⟩) ?_
    rotate_left
    · ((intro w hSw; (try dsimp only at hSw); go_simp) <;> (with_reducible rfl))
    try simp only [Act.put, List.setIfInBounds_toArray, List.set_cons_zero, List.set_cons_succ]
    refine Rg.take (i := 13) (v := ?_) rfl (by kernel_rfl) (fun _ _ _ h => h) hS0 (Or.inl ⟨by rfl, ?_⟩) ?_
    rotate_left
    · ((intro w hSw; (try dsimp only at hSw); go_simp) <;> (with_reducible rfl))
    try simp only [Act.put, List.setIfInBounds_toArray, List.set_cons_zero, List.set_cons_succ]
    refine Rg.take (i := 14) (v := ?_) rfl (by kernel_rfl) (fun _ _ _ h => h) hS0 (Or.inl ⟨by rfl, ?_⟩) ?_
    rotate_left
    · ((intro w hSw; (try dsimp only at hSw); go_simp) <;> (with_reducible rfl))
    try simp only [Act.put, List.setIfInBounds_toArray, List.set_cons_zero, List.set_cons_succ]
    refine Rg.take (i := 15) (v := ?_) rfl (by kernel_rfl) (fun _ _ _ h => h) hS0 (Or.inl ⟨by rfl, ?_⟩) ?_
    rotate_left
    · ((intro w hSw; (try dsimp only at hSw); go_simp) <;> (with_reducible rfl))
    try simp only [Act.put, List.setIfInBounds_toArray, List.set_cons_zero, List.set_cons_succ]
    refine Rg.one (i := 16) rfl (by kernel_rfl) (fun K hK => ?_)
    go_simp
    (with_reducible refine HDel.out.mono ?_)
    rintro e w5 ⟨L5, rfl, hS7⟩
    obtain ⟨A5, n5, c5, rfl⟩ := slW hS7.ownW_
    have r5 := hS7.s2.blk_.at_ 1 rfl
    have f5 := (ownW_at hS7.s3.ownW_ (lfR_at HV.out) 0 rfl).2
    have k5 := (ownW_at hS7.s3.ownW_ (lfR_at HV.out) 0 rfl).1
    simp only [List.getElem_toArray, List.getElem_cons_succ, List.getElem_cons_zero, Nat.mul_one, Nat.add_zero] at r5 f5 k5
    have HS7 := Lib.hid hS7
    clear hS7
    change K _ _
    have hS1 : (fun x => x.cell? ⟨p, 1, none⟩ = some (.slice (some ⟨b, 0, none⟩) N c) ∧ x.cell? ⟨b, i, none⟩ = some (.slice (some ⟨g, 0, none⟩) nr c2)) w5 := ⟨r5, k5⟩
    refine hK.out _ _ (fun _ => hS1) ?_
    clear hK K
    try simp only [Act.put, List.setIfInBounds_toArray, List.set_cons_zero, List.set_cons_succ]
    refine Rg.one (i := 17) rfl (by kernel_rfl) (fun K hK => ?_)
    go_simp
    refine hK.out _ _ (fun _ => hS1) ?_
    clear hK K
    try simp only [Act.put, List.setIfInBounds_toArray, List.set_cons_zero, List.set_cons_succ]
    refine Rg.one (i := 18) rfl (by kernel_rfl) (fun K hK => ?_)
    go_simp
    refine hK.out _ _ (fun _ => hS1) ?_
    clear hK K
    try simp only [Act.put, List.setIfInBounds_toArray, List.set_cons_zero, List.set_cons_succ]
    refine Rg.one (i := 19) rfl (by kernel_rfl) (fun K hK => ?_)
    go_simp
    refine hK.out _ _ (fun h => nomatch (show true = false from h)) ?_
    clear hK K
    try simp only [Act.put, List.setIfInBounds_toArray, List.set_cons_zero, List.set_cons_succ]
    refine Rg.done (by kernel_rfl) ?_ _
    have hS8 := HS7.out.s3.setOwnW (i := i) (lfR_at HV.out) 0 (by decide) (.slice A5 n5 c5)
    rw [Nat.mul_one, Nat.add_zero, show [Value.slice (some ⟨g, 0, none⟩) nr c2].set 0 (.slice A5 n5 c5) = [Value.slice A5 n5 c5] from rfl, ← lfR_set] at hS8
    have hS9 := (hS8.s2.s2.pageBack (by rw [HN.out]; omega) (by rw [HN.out]; exact hvl)).s1.s2
    generalize w5.setCell ⟨b, i, none⟩ (.slice A5 n5 c5) = w6 at *
    have q6 := hS9.blk_.at_ 2 rfl
    have f6 := hS9.blk_.free 2
    simp only [List.getElem_toArray, List.getElem_cons_succ, List.getElem_cons_zero] at q6
    have hS10 : Sat (stB p most ((F : Int) - 1) (.slice (some ⟨b, 0, none⟩) N c) :: _) _ := hS9.set 2 (.int .i64 ((F : Int) - 1))
    have hS11 := hS10.shutSt (by have := HEl.out; omega)
    have HJn := Lib.hid (stJoin p most _ i ls _ hS11 (by rw [List.length_set, HN.out]; omega) hm hm2 (by have := HEl.out; omega) (by rw [List.length_set, HN.out]; omega))
    clear hS0 hS1 hS8 hS9 hS10 hS11 HS7 r5 f5 k5 e0 e1 q1 k1 HDel
    go_wp2_with fail
    (with_reducible refine HJn.out.mono ?_)
    rintro e w7 ⟨rfl, hS12⟩
    have HS12 := Lib.hid hS12
    clear hS12
    go_wp2_with fail
    exact ⟨rfl, HS12.out⟩
end Go.Proofs.YtlekfpeonehggaaGreatDoor
end
