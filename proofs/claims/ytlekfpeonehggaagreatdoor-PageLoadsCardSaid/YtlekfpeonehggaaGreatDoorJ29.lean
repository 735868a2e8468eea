/- Package page: join. -/
import Derived.Test.YtlekfpeonehggaaGreatDoorJ28
import Derived.Test.YtlekfpeonehggaaGreatDoorJ26
section
set_option linter.unusedVariables false
set_option linter.unusedSimpArgs false
set_option maxRecDepth 100000
namespace Go.Proofs.YtlekfpeonehggaaGreatDoor
open Go.Proofs.BL Go.Proofs.Peel Go.RowKit Go.Proofs.Ky

theorem set_erase {α : Type _} {x : α} : ∀ {l : List α} {a : Nat}, a < l.length → (l.set a x).eraseIdx (a + 1) = l.take a ++ [x] ++ l.drop (a + 2)
  | [], _, h => by simp at h
  | _ :: l, 0, _ => by cases l <;> rfl
  | y :: l, a + 1, h => by
    have := set_erase (x := x) (l := l) (a := a) (by simpa using h)
    simpa using this
theorem join_set {P : List (List Rw)} {a : Nat} (h : a + 1 < P.length) : (P.set a (P[a] ++ P[a + 1])).eraseIdx (a + 1) = joinAt P a := by
  unfold joinAt
  rw [set_erase (by omega), getD_at _ _ (by omega), getD_at _ _ h]
theorem lfR_erase (vs : List Value) (i : Nat) : (lfR vs).eraseIdx i = lfR (vs.eraseIdx i) := by unfold lfR; rw [List.eraseIdx_eq_take_drop_succ, List.eraseIdx_eq_take_drop_succ, List.map_append, List.map_take, List.map_drop]
def joinV (most : Int) (k : Nat) (P : List (List Rw)) : List (List Rw) :=
  if P.getD k [] = [] then P.eraseIdx k else if most / 2 ≤ (P.getD k []).length then P else if fitB most P k (k + 1) = true then joinAt P k else if fitB most P ((k : Int) - 1) k = true then joinAt P (k - 1) else P
theorem erase_flat {P : List (List Rw)} {k : Nat} (h : P[k]? = some []) : (P.eraseIdx k).flatten = P.flatten := by
  obtain ⟨hk, e⟩ := List.getElem?_eq_some_iff.1 h
  have hP : P.flatten = (P.take k ++ P[k] :: P.drop (k + 1)).flatten := by rw [← List.drop_eq_getElem_cons hk, List.take_append_drop]
  rw [hP, e, List.eraseIdx_eq_take_drop_succ]
  simp
set_option maxHeartbeats 8000000 in
theorem stJoin (p : Nat) (most : Int) (P : List (List Rw)) (k : Nat) (ls : List Part) (w : World) (h : Sat (stP p most P :: ls) w) (hk : k < P.length) (hm : 2 ≤ most) (hm2 : most ≤ 64) (hl : P.flatten.length ≤ 100000) (hpl : P.length ≤ 100000) :
    Calls Tryz.prog 62 #[.pointer (some ⟨p, 0, none⟩), .int .i64 k] w (DonePost (stP p most (joinV most k P) :: ls)) := by
  refine via fun Q hQ => ?_
  have H := Lib.hid h
  obtain ⟨L, vs, hF, h2⟩ := h.stF
  obtain ⟨A, c, rfl, hc, hA, _⟩ := hF.leaves
  have hx : P[k]? = some P[k] := List.getElem?_eq_getElem hk
  have hgD : P.getD k [] = P[k] := getD_at _ _ hk
  have HR := Lib.hid hgD
  generalize hrk : P[k] = r at *
  obtain ⟨b0, v, hAb, hv, k1, _, hO⟩ := hF.page hx
  obtain ⟨A9, c9, e9, _, _, _⟩ := hO.slv'
  subst e9 hAb
  rw [rwR_len] at k1 hv
  have c0 := hF.b.at_ 0 rfl
  have c1 := hF.b.at_ 1 rfl
  have fr1 := hF.b.free 1
  simp only [List.getElem_toArray, List.getElem_cons_succ, List.getElem_cons_zero] at c0 c1
  have hvl := hF.v
  have b2 : (0 : Int) ≤ (k : Int) := by omega
  have b3 : (k : Int) < (P.length : Int) := by omega
  have H2 := Lib.hid h2
  have hjv : joinV most k P = if r = [] then P.eraseIdx k else if most / 2 ≤ r.length then P else if fitB most P k (k + 1) = true then joinAt P k else if fitB most P ((k : Int) - 1) k = true then joinAt P (k - 1) else P := by unfold joinV; rw [hgD]
  by_cases hr0 : r = []
  · subst hr0
    rw [hjv, if_pos rfl] at hQ
    have hefl := erase_flat hx
    have HEf := Lib.hid hefl
    have HX := Lib.hid hx
    have hDel := delF_sat h2.s1 k (by rw [lfR_len]; omega) (lfR_one h2.s2)
    rw [lfR_erase] at hDel
    have HDel := Lib.hid hDel
    clear h h2 hF hO hv hx hgD hjv hefl hDel hA hrk
    simp only [List.length_nil] at k1
    generalize hN : P.length = N at *
    have HN := Lib.hid hN
    clear hN
    go_enter Tryz.func62, Tryz.ntmps62
    go_wp2_with fail
    (with_reducible refine HDel.out.mono ?_)
    rintro e w2 ⟨L2, rfl, hS2⟩
    obtain ⟨A5, n5, c5, rfl⟩ := slW hS2.ownW_
    have q2 := hS2.s1.blk_.at_ 1 rfl
    have f2 := hS2.s1.blk_.free 1
    simp only [List.getElem_toArray, List.getElem_cons_succ, List.getElem_cons_zero] at q2
    obtain ⟨_, _, hS3⟩ := hS2.s2.pageOut HX.out
    have hS4 : Sat (stB p most P.flatten.length (.slice A5 n5 c5) :: _) _ := hS3.drop.s2.set 1 (.slice A5 n5 c5)
    have HS5 := Lib.hid ((hS4.s2.s1).shutSt (by rw [HEf.out]))
    clear hS2 hS3 hS4 HDel
    go_wp2_with fail
    refine Great.bodyPost_end0 rfl rfl ?_
    exact hQ _ _ ⟨rfl, HS5.out⟩
  · rw [hjv, if_neg hr0] at hQ
    have hrp : 0 < r.length := List.length_pos_iff.2 hr0
    have b6 : ((r.length : Int) == 0) = false := int_diff (by omega)
    by_cases hbig : most / 2 ≤ r.length
    · rw [if_pos hbig] at hQ
      have b7 : most / 2 ≤ (r.length : Int) := by omega
      have b9 : decide (most / 2 ≤ (r.length : Int)) = true := decide_eq_true b7
      clear h h2 hF hO hv hx hgD hjv hA hrk
      generalize r.length = nr at *
      generalize P.length = N at *
      have b8 : 0 ≤ most := by omega
      go_enter Tryz.func62, Tryz.ntmps62
      go_wp2_with fail
      refine Great.bodyPost_end0 rfl rfl ?_
      exact hQ _ _ ⟨rfl, H.out⟩
    · rw [if_neg hbig] at hQ
      have b7 : ¬ (most / 2 ≤ (r.length : Int)) := by omega
      have b9 : decide (most / 2 ≤ (r.length : Int)) = false := decide_eq_false b7
      have hft := fun x (a b : Int) (h : StF x p most P.flatten.length (.slice (some ⟨b0, 0, none⟩) P.length c) vs P) (h0 : -1 ≤ a) (h1 : a < P.length) (h2 : 0 ≤ b) (h3 : b ≤ P.length) => stFits p most P.flatten.length _ vs P a b x h h0 h1 h2 h3 (by omega) (by omega)
      have HFt := Lib.hid hft
      have b8 : 0 ≤ most := by omega
      have hk2 : r.length = r.length := rfl
      clear hft h h2 hF hO hv hx hgD hjv hA hrk hk2
      generalize r.length = nr at *
      cases hf1 : fitB most P k (k + 1) with
      | true =>
        have hal : k + 1 < P.length := by
          have := of_decide_eq_true hf1
          omega
        rw [hf1, if_pos rfl] at hQ
        have HF1 := Lib.hid hf1
        clear hf1
        go_enter Tryz.func62, Tryz.ntmps62
        go_wp2_with fail
        (with_reducible refine (HFt.out _ (k : Int) ((k : Int) + 1) H2.out.stF0 (by omega) (by omega) (by omega) (by omega)).mono ?_)
        rintro e w1 ⟨rfl, hb1⟩
        rw [HF1.out]
        have HS := Lib.hid (H2.out.below hb1)
        clear hb1
        obtain ⟨a, rfl⟩ : ∃ a, a = k := ⟨k, rfl⟩
        obtain ⟨b, rfl⟩ : ∃ b, b = b0 := ⟨b0, rfl⟩
        clear c0 c1 fr1 k1 b6 b7
        clear HFt
        have hx1 : P[a]? = some P[a] := List.getElem?_eq_getElem (by omega)
        have hx2 : P[a + 1]? = some P[a + 1] := List.getElem?_eq_getElem hal
        have hjs := join_set hal
        have hjf := join_flat (P := P) hal
        have hm1 := page_len (List.getElem_mem (show a < P.length by omega))
        have hm2 := page_len (List.getElem_mem hal)
        generalize P[a] = r1 at *
        generalize P[a + 1] = r2 at *
        obtain ⟨b1, v1, hA1, hv1, k1, _, hO1⟩ := HS.out.stF0.page hx1
        obtain ⟨b', v2, hA2, hv2, k2, _, hO2⟩ := HS.out.stF0.page hx2
        injection hA1 with hA1
        injection hA1 with hA1
        subst hA1
        injection hA2 with hA2
        injection hA2 with hA2
        subst hA2
        obtain ⟨A2, c2, rfl, _, z1, hR1⟩ := hO1.slv'
        obtain ⟨A3, c3, rfl, _, z2, hR2⟩ := hO2.slv'
        rw [rwR_len] at k1 k2 hv1 hv2
        have hC := fun x (hb : Below w1.heap.size w1 x) (hB : Blk x w1.heap.size #[.slice A2 r1.length c2, .slice A3 r2.length c3] 27) => concR w1.heap.size A2 A3 c2 c3 r1 r2 _ x hB (hR1.below hb) (hR2.below hb) z1 z2 (by omega) (by omega)
        have q1 := HS.out.blk_.at_ 1 rfl
        simp only [List.getElem_toArray, List.getElem_cons_succ, List.getElem_cons_zero] at q1
        have HV1 := Lib.hid hv1
        have HV2 := Lib.hid hv2
        have HC := Lib.hid hC
        have HX1 := Lib.hid hx1
        have HX2 := Lib.hid hx2
        have HJ := Lib.hid hjs
        have HJF := Lib.hid hjf
        have hvl := HS.out.stF0.v
        generalize r1.length = n1 at *
        generalize r2.length = n2 at *
        clear hC hv1 hv2 hx1 hx2 hjs hjf hO1 hO2 hR1 hR2 z1 z2
        generalize hN : P.length = N at *
        have HN := Lib.hid hN
        clear hN
        have e0 : World.cell? w1.drew ⟨p, 1, none⟩ = _ := q1
        have e1 : World.cell? w1.drew ⟨b, a, none⟩ = _ := k1
        have e2 : World.cell? w1.drew ⟨b, a + 1, none⟩ = _ := k2
        have s1 : IntKind.i64.wrap ((a : Int) + 1 - 1) = (a : Int) := by rw [show (a : Int) + 1 - 1 = a by omega]; exact IntWalk.i64_in _ (by omega)
        have s2 : IntKind.i64.wrap (a : Int) = (a : Int) := IntWalk.i64_in _ (by omega)
        have s3 : (a : Int) + 1 - 1 = (a : Int) := by omega
        have t1 : (0 : Int) ≤ (a : Int) := by omega
        have t2 : (a : Int) < (N : Int) := by omega
        have t3 : (0 : Int) ≤ (a : Int) + 1 := by omega
        have t4 : (a : Int) + 1 < (N : Int) := by omega
        have t5 : ((a : Int) + 1).toNat = a + 1 := by omega
        go_wp2_with fail
        refine Rg.begin_ (fun x => x.cell? ⟨p, 1, none⟩ = some (.slice (some ⟨b, 0, none⟩) N c) ∧ x.cell? ⟨b, a, none⟩ = some (.slice A2 n1 c2) ∧ x.cell? ⟨b, a + 1, none⟩ = some (.slice A3 n2 c3)) 27 (by kernel_rfl) ?_
        have hS0 : (fun x => x.cell? ⟨p, 1, none⟩ = some (.slice (some ⟨b, 0, none⟩) N c) ∧ x.cell? ⟨b, a, none⟩ = some (.slice A2 n1 c2) ∧ x.cell? ⟨b, a + 1, none⟩ = some (.slice A3 n2 c3)) (World.drew w1) := ⟨e0, e1, e2⟩
        refine Rg.take (i := 0) (v := ?_) rfl (by kernel_rfl) (fun _ _ _ h => h) hS0 (Or.inl ⟨by rfl, ?_⟩) ?_
        rotate_left
        · ((intro w hSw; (try dsimp only at hSw); go_simp) <;> (with_reducible rfl))
        try simp only [Act.put, List.setIfInBounds_toArray, List.set_cons_zero, List.set_cons_succ]
        refine Rg.take (i := 1) (v := ?_) rfl (by kernel_rfl) (fun _ _ _ h => h) hS0 (Or.inl ⟨by rfl, ?_⟩) ?_
        rotate_left
        · ((intro w hSw; (try dsimp only at hSw); go_simp) <;> (with_reducible rfl))
        try simp only [Act.put, List.setIfInBounds_toArray, List.set_cons_zero, List.set_cons_succ]
        refine Rg.take (i := 2) (v := ?_) rfl (by kernel_rfl) (fun _ _ _ h => h) hS0 (Or.inl ⟨by rfl, ?_⟩) ?_
        rotate_left
        · ((intro w hSw; (try dsimp only at hSw); go_simp) <;> (with_reducible rfl))
        try simp only [Act.put, List.setIfInBounds_toArray, List.set_cons_zero, List.set_cons_succ]
        refine Rg.take (i := 3) (v := ?_) rfl (by kernel_rfl) (fun _ _ _ h => h) hS0 (Or.inl ⟨by rfl, ?_⟩) ?_
        rotate_left
        · ((intro w hSw; (try dsimp only at hSw); go_simp) <;> (with_reducible rfl))
        try simp only [Act.put, List.setIfInBounds_toArray, List.set_cons_zero, List.set_cons_succ]
        refine Rg.take (i := 4) (v := ?_) rfl (by kernel_rfl) (fun _ _ _ h => h) hS0 (Or.inl ⟨by rfl, ?_⟩) ?_
        rotate_left
        · ((intro w hSw; (try dsimp only at hSw); go_simp) <;> (with_reducible rfl))
        try simp only [Act.put, List.setIfInBounds_toArray, List.set_cons_zero, List.set_cons_succ]
        refine Rg.take (i := 5) (v := ?_) rfl (by kernel_rfl) (fun _ _ _ h => h) hS0 (Or.inl ⟨by rfl, ?_⟩) ?_
        rotate_left
        · ((intro w hSw; (try dsimp only at hSw); go_simp) <;> (with_reducible rfl))
        try simp only [Act.put, List.setIfInBounds_toArray, List.set_cons_zero, List.set_cons_succ]
        refine Rg.take (i := 6) (v := ?_) rfl (by kernel_rfl) (fun _ _ _ h => h) hS0 (Or.inl ⟨by rfl, ?_⟩) ?_
        rotate_left
        · ((intro w hSw; (try dsimp only at hSw); go_simp) <;> (with_reducible rfl))
        try simp only [Act.put, List.setIfInBounds_toArray, List.set_cons_zero, List.set_cons_succ]
        refine Rg.take (i := 7) (v := ?_) rfl (by kernel_rfl) (fun _ _ _ h => h) hS0 (Or.inl ⟨by rfl, ?_⟩) ?_
        rotate_left
        · ((intro w hSw; (try dsimp only at hSw); go_simp) <;> (with_reducible rfl))
        try simp only [Act.put, List.setIfInBounds_toArray, List.set_cons_zero, List.set_cons_succ]
        refine Rg.take (i := 8) (v := ?_) rfl (by kernel_rfl) (fun _ _ _ h => h) hS0 (Or.inl ⟨by rfl, ?_⟩) ?_
        rotate_left
        · ((intro w hSw; (try dsimp only at hSw); go_simp) <;> (with_reducible rfl))
        try simp only [Act.put, List.setIfInBounds_toArray, List.set_cons_zero, List.set_cons_succ]
        refine Rg.take (i := 9) (v := ?_) rfl (by kernel_rfl) (fun _ _ _ h => h) hS0 (Or.inl ⟨by rfl, ?_⟩) ?_
        rotate_left
        · ((intro w hSw; (try dsimp only at hSw); go_simp) <;> (with_reducible rfl))
        try simp only [Act.put, List.setIfInBounds_toArray, List.set_cons_zero, List.set_cons_succ]
        refine Rg.take (i := 10) (v := ?_) rfl (by kernel_rfl) (fun _ _ _ h => h) hS0 (Or.inl ⟨by rfl, ?_⟩) ?_
        rotate_left
        · ((intro w hSw; (try dsimp only at hSw); go_simp) <;> (with_reducible rfl))
        try simp only [Act.put, List.setIfInBounds_toArray, List.set_cons_zero, List.set_cons_succ]
        refine Rg.take (i := 11) (v := ?_) rfl (by kernel_rfl) (fun _ _ _ h => h) hS0 (Or.inl ⟨by rfl, ?_⟩) ?_
        rotate_left
        · ((intro w hSw; (try dsimp only at hSw); go_simp) <;> (with_reducible rfl))
        try simp only [Act.put, List.setIfInBounds_toArray, List.set_cons_zero, List.set_cons_succ]
        refine Rg.take (i := 12) (v := ?_) rfl (by kernel_rfl) (fun _ _ _ h => h) hS0 (Or.inl ⟨by rfl, ?_⟩) ?_
        rotate_left
        · ((intro w hSw; (try dsimp only at hSw); go_simp) <;> (with_reducible rfl))
        try simp only [Act.put, List.setIfInBounds_toArray, List.set_cons_zero, List.set_cons_succ]
        refine Rg.take (i := 13) (v := ?_) rfl (by kernel_rfl) (fun _ _ _ h => h) hS0 (Or.inl ⟨by rfl, ?_⟩) ?_
        rotate_left
        · ((intro w hSw; (try dsimp only at hSw); go_simp) <;> (with_reducible rfl))
        try simp only [Act.put, List.setIfInBounds_toArray, List.set_cons_zero, List.set_cons_succ]
        refine Rg.take (i := 14) (v := ?_) rfl (by kernel_rfl) (fun _ _ _ h => h) hS0 (Or.inl ⟨by rfl, ?_⟩) ?_
        rotate_left
        · ((intro w hSw; (try dsimp only at hSw); go_simp) <;> (with_reducible rfl))
        try simp only [Act.put, List.setIfInBounds_toArray, List.set_cons_zero, List.set_cons_succ]
        refine Rg.take (i := 15) (v := ?_) rfl (by kernel_rfl) (fun _ _ _ h => h) hS0 (Or.inl ⟨by rfl, ?_⟩) ?_
        rotate_left
        · ((intro w hSw; (try dsimp only at hSw); go_simp) <;> (with_reducible rfl))
        try simp only [Act.put, List.setIfInBounds_toArray, List.set_cons_zero, List.set_cons_succ]
        refine Rg.take (i := 16) (v := ?_) rfl (by kernel_rfl) (fun _ _ _ h => h) hS0 (Or.inl ⟨by rfl, ?_⟩) ?_
        rotate_left
        · ((intro w hSw; (try dsimp only at hSw); go_simp) <;> (with_reducible rfl))
        try simp only [Act.put, List.setIfInBounds_toArray, List.set_cons_zero, List.set_cons_succ]
        refine Rg.take (i := 17) (v := ?_) rfl (by kernel_rfl) (fun _ _ _ h => h) hS0 (Or.inl ⟨by rfl, ?_⟩) ?_
        rotate_left
        · ((intro w hSw; (try dsimp only at hSw); go_simp) <;> (with_reducible rfl))
        try simp only [Act.put, List.setIfInBounds_toArray, List.set_cons_zero, List.set_cons_succ]
        refine Rg.take (i := 18) (v := ?_) rfl (by kernel_rfl) (fun _ _ _ h => h) hS0 (Or.inl ⟨by rfl, ?_⟩) ?_
        rotate_left
        · ((intro w hSw; (try dsimp only at hSw); go_simp) <;> (with_reducible rfl))
        try simp only [Act.put, List.setIfInBounds_toArray, List.set_cons_zero, List.set_cons_succ]
        refine Rg.take (i := 19) (v := ?_) rfl (by kernel_rfl) (fun _ _ _ h => h) hS0 (Or.inl ⟨by rfl, ?_⟩) ?_
        rotate_left
        · ((intro w hSw; (try dsimp only at hSw); go_simp) <;> (with_reducible rfl))
        try simp only [Act.put, List.setIfInBounds_toArray, List.set_cons_zero, List.set_cons_succ]
        refine Rg.take (i := 20) (v := ?_) rfl (by kernel_rfl) (fun _ _ _ h => h) hS0 (Or.inl ⟨by rfl, ?_⟩) ?_
        rotate_left
        · ((intro w hSw; (try dsimp only at hSw); go_simp) <;> (with_reducible rfl))
        try simp only [Act.put, List.setIfInBounds_toArray, List.set_cons_zero, List.set_cons_succ]
        refine Rg.take (i := 21) (v := ?_) rfl (by kernel_rfl) (fun _ _ _ h => h) hS0 (Or.inl ⟨by rfl, ?_⟩) ?_
        rotate_left
        · ((intro w hSw; (try dsimp only at hSw); go_simp) <;> (with_reducible rfl))
        try simp only [Act.put, List.setIfInBounds_toArray, List.set_cons_zero, List.set_cons_succ]
        refine Rg.take (i := 22) (v := ?_) rfl (by kernel_rfl) (fun _ _ _ h => h) hS0 (Or.inl ⟨by rfl, ?_⟩) ?_
        rotate_left
        · ((intro w hSw; (try dsimp only at hSw); go_simp) <;> (with_reducible rfl))
        try simp only [Act.put, List.setIfInBounds_toArray, List.set_cons_zero, List.set_cons_succ]
        refine Rg.one (i := 23) rfl (by kernel_rfl) (fun K hK => ?_)
        go_simp
        have hS1 : (fun x => x.cell? ⟨p, 1, none⟩ = some (.slice (some ⟨b, 0, none⟩) N c) ∧ x.cell? ⟨b, a, none⟩ = some (.slice A2 n1 c2) ∧ x.cell? ⟨b, a + 1, none⟩ = some (.slice A3 n2 c3)) (w1.drew.alloc (.cells #[.slice A2 n1 c2, .slice A3 n2 c3] 27)) := ⟨upA e0 _, upA e1 _, upA e2 _⟩
        refine hK.out _ _ (fun _ => hS1) ?_
        clear hK K
        try simp only [Act.put, List.setIfInBounds_toArray, List.set_cons_zero, List.set_cons_succ]
        refine Rg.one (i := 24) rfl (by kernel_rfl) (fun K hK => ?_)
        go_simp
        refine (HC.out _ (below_then (drew_below w1 1) ((Below.refl _ _).alloc (Nat.le_refl _) _)) (by exact Blk.new _ _ _)).mono ?_
        rintro e w5 ⟨L5, rfl, ho5, hb5⟩
        obtain ⟨A5, n5, c5, rfl⟩ := slW ho5.w
        have hS5 := ((HS.out.below (below_then (drew_below w1 1) ((Below.refl _ _).alloc (Nat.le_refl _) (.cells #[.slice A2 n1 c2, .slice A3 n2 c3] 27)))).made hb5 ho5).toW
        have r5 := hS5.s1.blk_.at_ 1 rfl
        have f5 := (ownW_at hS5.s2.ownW_ (lfR_at HV1.out) 0 rfl).2
        have k5 := (ownW_at hS5.s2.ownW_ (lfR_at HV1.out) 0 rfl).1
        have j5 := (ownW_at hS5.s2.ownW_ (lfR_at HV2.out) 0 rfl).1
        simp only [List.getElem_toArray, List.getElem_cons_succ, List.getElem_cons_zero, Nat.mul_one, Nat.add_zero] at r5 f5 k5 j5
        have HS5 := Lib.hid hS5
        clear hS5 ho5 hb5
        change K _ _
        have hS2 : (fun x => x.cell? ⟨p, 1, none⟩ = some (.slice (some ⟨b, 0, none⟩) N c) ∧ x.cell? ⟨b, a, none⟩ = some (.slice A2 n1 c2) ∧ x.cell? ⟨b, a + 1, none⟩ = some (.slice A3 n2 c3)) w5 := ⟨r5, k5, j5⟩
        refine hK.out _ _ (fun _ => hS2) ?_
        clear hK K
        try simp only [Act.put, List.setIfInBounds_toArray, List.set_cons_zero, List.set_cons_succ]
        refine Rg.one (i := 25) rfl (by kernel_rfl) (fun K hK => ?_)
        go_simp
        refine hK.out _ _ (fun _ => hS2) ?_
        clear hK K
        try simp only [Act.put, List.setIfInBounds_toArray, List.set_cons_zero, List.set_cons_succ]
        refine Rg.one (i := 26) rfl (by kernel_rfl) (fun K hK => ?_)
        go_simp
        refine hK.out _ _ (fun _ => hS2) ?_
        clear hK K
        try simp only [Act.put, List.setIfInBounds_toArray, List.set_cons_zero, List.set_cons_succ]
        refine Rg.one (i := 27) rfl (by kernel_rfl) (fun K hK => ?_)
        go_simp
        refine hK.out _ _ (fun h => nomatch (show true = false from h)) ?_
        clear hK K
        try simp only [Act.put, List.setIfInBounds_toArray, List.set_cons_zero, List.set_cons_succ]
        refine Rg.done (by kernel_rfl) ?_ _
        have hS6 := HS5.out.s2.setOwnW (i := a) (lfR_at HV1.out) 0 (by decide) (.slice A5 n5 c5)
        rw [Nat.mul_one, Nat.add_zero, show [Value.slice A2 n1 c2].set 0 (.slice A5 n5 c5) = [Value.slice A5 n5 c5] from rfl, ← lfR_set] at hS6
        obtain ⟨_, _, hS7⟩ := hS6.s3.pageOut HX1.out
        rw [show rwR r1 ++ rwR r2 = rwR (r1 ++ r2) from (List.map_append).symm] at hS7
        have hS8 := (hS7.drop.s2.pageBack (by rw [HN.out]; omega) (by rw [HN.out]; exact hvl)).s1.s2
        have HS8 := Lib.hid hS8
        have q8 := hS8.blk_.at_ 1 rfl
        simp only [List.getElem_toArray, List.getElem_cons_succ, List.getElem_cons_zero] at q8
        have hDel := delF_sat hS8.s1 (a + 1) (by rw [lfR_len, List.length_set]; omega) (lfR_one hS8.s2)
        rw [lfR_erase] at hDel
        generalize w5.setCell ⟨b, a, none⟩ (.slice A5 n5 c5) = w6 at *
        have HDel := Lib.hid (show Calls Tryz.prog 76 #[.slice (some ⟨b, 0, none⟩) N c, .int .i64 ((a : Int) + 1), .int .i64 ((a : Int) + 1 + 1)] w6 _ from hDel)
        clear hS6 hS7 hS8 hDel hS0 hS1 hS2 e0 e1 e2 q1 k1 k2 r5 f5 k5 j5 HC
        go_wp2_with fail
        (with_reducible refine HDel.out.mono ?_)
        rintro e w7 ⟨L7, rfl, hT⟩
        obtain ⟨A7, n7, c7, rfl⟩ := slW hT.ownW_
        have q7 := hT.s1.blk_.at_ 1 rfl
        have f7 := hT.s1.blk_.free 1
        simp only [List.getElem_toArray, List.getElem_cons_succ, List.getElem_cons_zero] at q7
        obtain ⟨_, _, hT3⟩ := hT.s2.pageOut (i := a + 1) (r := r2) (by rw [List.getElem?_set_ne (by omega)]; exact HX2.out)
        rw [HJ.out] at hT3
        have hT4 : Sat (stB p most P.flatten.length (.slice A7 n7 c7) :: _) _ := hT3.drop.s2.set 1 (.slice A7 n7 c7)
        have HT5 := Lib.hid ((hT4.s2.s1).shutSt (by rw [HJF.out]))
        clear hT hT3 hT4 HDel q8
        go_wp2_with fail
        refine Great.bodyPost_end0 rfl rfl ?_
        exact hQ _ _ ⟨rfl, HT5.out⟩
      | false =>
        rw [hf1, if_neg (by simp)] at hQ
        have HF1 := Lib.hid hf1
        clear hf1
        cases hf2 : fitB most P ((k : Int) - 1) k with
        | false =>
          rw [hf2, if_neg (by simp)] at hQ
          have HF2 := Lib.hid hf2
          clear hf2
          go_enter Tryz.func62, Tryz.ntmps62
          go_wp2_with fail
          (with_reducible refine (HFt.out _ (k : Int) ((k : Int) + 1) H2.out.stF0 (by omega) (by omega) (by omega) (by omega)).mono ?_)
          rintro e w1 ⟨rfl, hb1⟩
          rw [HF1.out]
          have HS := Lib.hid (H2.out.below hb1)
          have HH1 := Lib.hid (H.out.below hb1)
          clear hb1
          go_wp2_with fail
          (with_reducible refine (HFt.out _ ((k : Int) - 1) (k : Int) HS.out.stF0 (by omega) (by omega) (by omega) (by omega)).mono ?_)
          rintro e w2 ⟨rfl, hb2⟩
          rw [HF2.out]
          have HE := Lib.hid (HH1.out.below hb2)
          clear hb2
          go_wp2_with fail
          refine Great.bodyPost_end0 rfl rfl ?_
          exact hQ _ _ ⟨rfl, HE.out⟩
        | true =>
          obtain ⟨a, rfl⟩ : ∃ a, k = a + 1 := by
            have := (of_decide_eq_true hf2).1
            exact ⟨k - 1, by omega⟩
          obtain ⟨b, rfl⟩ : ∃ b, b = b0 := ⟨b0, rfl⟩
          rw [hf2, if_pos rfl, show a + 1 - 1 = a from rfl] at hQ
          have hk1 : ((a + 1 : Nat) : Int) = (a : Int) + 1 := by omega
          have hal : a + 1 < P.length := by omega
          rw [hk1] at hf2 b2 b3
          rw [show (a : Int) + 1 - 1 = a by omega] at hf2
          have hf1 := HF1.out
          rw [hk1] at hf1
          have HF2 := Lib.hid hf2
          have HF1 := Lib.hid hf1
          rw [hk1]
          clear hf2 hf1 hk1
          go_enter Tryz.func62, Tryz.ntmps62
          go_wp2_with fail
          (with_reducible refine (HFt.out _ ((a : Int) + 1) ((a : Int) + 1 + 1) H2.out.stF0 (by omega) (by omega) (by omega) (by omega)).mono ?_)
          rintro e w0 ⟨rfl, hb1⟩
          rw [HF1.out]
          have HS0 := Lib.hid (H2.out.below hb1)
          clear hb1
          go_wp2_with fail
          (with_reducible refine (HFt.out _ (a : Int) ((a : Int) + 1) HS0.out.stF0 (by omega) (by omega) (by omega) (by omega)).mono ?_)
          rintro e w1 ⟨rfl, hb2⟩
          rw [HF2.out]
          have HS := Lib.hid (HS0.out.below hb2)
          clear hb2 c0 c1 fr1 k1 b6 b7
          clear HFt
          have hx1 : P[a]? = some P[a] := List.getElem?_eq_getElem (by omega)
          have hx2 : P[a + 1]? = some P[a + 1] := List.getElem?_eq_getElem hal
          have hjs := join_set hal
          have hjf := join_flat (P := P) hal
          have hm1 := page_len (List.getElem_mem (show a < P.length by omega))
          have hm2 := page_len (List.getElem_mem hal)
          generalize P[a] = r1 at *
          generalize P[a + 1] = r2 at *
          obtain ⟨b1, v1, hA1, hv1, k1, _, hO1⟩ := HS.out.stF0.page hx1
          obtain ⟨b', v2, hA2, hv2, k2, _, hO2⟩ := HS.out.stF0.page hx2
          injection hA1 with hA1
          injection hA1 with hA1
          subst hA1
          injection hA2 with hA2
          injection hA2 with hA2
          subst hA2
          obtain ⟨A2, c2, rfl, _, z1, hR1⟩ := hO1.slv'
          obtain ⟨A3, c3, rfl, _, z2, hR2⟩ := hO2.slv'
          rw [rwR_len] at k1 k2 hv1 hv2
          have hC := fun x (hb : Below w1.heap.size w1 x) (hB : Blk x w1.heap.size #[.slice A2 r1.length c2, .slice A3 r2.length c3] 27) => concR w1.heap.size A2 A3 c2 c3 r1 r2 _ x hB (hR1.below hb) (hR2.below hb) z1 z2 (by omega) (by omega)
          have q1 := HS.out.blk_.at_ 1 rfl
          simp only [List.getElem_toArray, List.getElem_cons_succ, List.getElem_cons_zero] at q1
          have HV1 := Lib.hid hv1
          have HV2 := Lib.hid hv2
          have HC := Lib.hid hC
          have HX1 := Lib.hid hx1
          have HX2 := Lib.hid hx2
          have HJ := Lib.hid hjs
          have HJF := Lib.hid hjf
          have hvl := HS.out.stF0.v
          generalize r1.length = n1 at *
          generalize r2.length = n2 at *
          clear hC hv1 hv2 hx1 hx2 hjs hjf hO1 hO2 hR1 hR2 z1 z2
          generalize hN : P.length = N at *
          have HN := Lib.hid hN
          clear hN
          have e0 : World.cell? w1.drew ⟨p, 1, none⟩ = _ := q1
          have e1 : World.cell? w1.drew ⟨b, a, none⟩ = _ := k1
          have e2 : World.cell? w1.drew ⟨b, a + 1, none⟩ = _ := k2
          have s1 : IntKind.i64.wrap ((a : Int) + 1 - 1) = (a : Int) := by rw [show (a : Int) + 1 - 1 = a by omega]; exact IntWalk.i64_in _ (by omega)
          have s2 : IntKind.i64.wrap (a : Int) = (a : Int) := IntWalk.i64_in _ (by omega)
          have s3 : (a : Int) + 1 - 1 = (a : Int) := by omega
          have t1 : (0 : Int) ≤ (a : Int) := by omega
          have t2 : (a : Int) < (N : Int) := by omega
          have t3 : (0 : Int) ≤ (a : Int) + 1 := by omega
          have t4 : (a : Int) + 1 < (N : Int) := by omega
          have t5 : ((a : Int) + 1).toNat = a + 1 := by omega
          go_wp2_with fail
          refine Rg.begin_ (fun x => x.cell? ⟨p, 1, none⟩ = some (.slice (some ⟨b, 0, none⟩) N c) ∧ x.cell? ⟨b, a, none⟩ = some (.slice A2 n1 c2) ∧ x.cell? ⟨b, a + 1, none⟩ = some (.slice A3 n2 c3)) 27 (by kernel_rfl) ?_
          have hS0 : (fun x => x.cell? ⟨p, 1, none⟩ = some (.slice (some ⟨b, 0, none⟩) N c) ∧ x.cell? ⟨b, a, none⟩ = some (.slice A2 n1 c2) ∧ x.cell? ⟨b, a + 1, none⟩ = some (.slice A3 n2 c3)) (World.drew w1) := ⟨e0, e1, e2⟩
          refine Rg.take (i := 0) (v := ?_) rfl (by kernel_rfl) (fun _ _ _ h => h) hS0 (Or.inl ⟨by rfl, ?_⟩) ?_
          rotate_left
          · ((intro w hSw; (try dsimp only at hSw); go_simp) <;> (with_reducible rfl))
          try simp only [Act.put, List.setIfInBounds_toArray, List.set_cons_zero, List.set_cons_succ]
          refine Rg.take (i := 1) (v := ?_) rfl (by kernel_rfl) (fun _ _ _ h => h) hS0 (Or.inl ⟨by rfl, ?_⟩) ?_
          rotate_left
          · ((intro w hSw; (try dsimp only at hSw); go_simp) <;> (with_reducible rfl))
          try simp only [Act.put, List.setIfInBounds_toArray, List.set_cons_zero, List.set_cons_succ]
          refine Rg.take (i := 2) (v := ?_) rfl (by kernel_rfl) (fun _ _ _ h => h) hS0 (Or.inl ⟨by rfl, ?_⟩) ?_
          rotate_left
          · ((intro w hSw; (try dsimp only at hSw); go_simp) <;> (with_reducible rfl))
          try simp only [Act.put, List.setIfInBounds_toArray, List.set_cons_zero, List.set_cons_succ]
          refine Rg.take (i := 3) (v := ?_) rfl (by kernel_rfl) (fun _ _ _ h => h) hS0 (Or.inl ⟨by rfl, ?_⟩) ?_
          rotate_left
          · ((intro w hSw; (try dsimp only at hSw); go_simp) <;> (with_reducible rfl))
          try simp only [Act.put, List.setIfInBounds_toArray, List.set_cons_zero, List.set_cons_succ]
          refine Rg.take (i := 4) (v := ?_) rfl (by kernel_rfl) (fun _ _ _ h => h) hS0 (Or.inl ⟨by rfl, ?_⟩) ?_
          rotate_left
          · ((intro w hSw; (try dsimp only at hSw); go_simp) <;> (with_reducible rfl))
          try simp only [Act.put, List.setIfInBounds_toArray, List.set_cons_zero, List.set_cons_succ]
          refine Rg.take (i := 5) (v := ?_) rfl (by kernel_rfl) (fun _ _ _ h => h) hS0 (Or.inl ⟨by rfl, ?_⟩) ?_
          rotate_left
          · ((intro w hSw; (try dsimp only at hSw); go_simp) <;> (with_reducible rfl))
          try simp only [Act.put, List.setIfInBounds_toArray, List.set_cons_zero, List.set_cons_succ]
          refine Rg.take (i := 6) (v := ?_) rfl (by kernel_rfl) (fun _ _ _ h => h) hS0 (Or.inl ⟨by rfl, ?_⟩) ?_
          rotate_left
          · ((intro w hSw; (try dsimp only at hSw); go_simp) <;> (with_reducible rfl))
          try simp only [Act.put, List.setIfInBounds_toArray, List.set_cons_zero, List.set_cons_succ]
          refine Rg.take (i := 7) (v := ?_) rfl (by kernel_rfl) (fun _ _ _ h => h) hS0 (Or.inl ⟨by rfl, ?_⟩) ?_
          rotate_left
          · ((intro w hSw; (try dsimp only at hSw); go_simp) <;> (with_reducible rfl))
          try simp only [Act.put, List.setIfInBounds_toArray, List.set_cons_zero, List.set_cons_succ]
          refine Rg.take (i := 8) (v := ?_) rfl (by kernel_rfl) (fun _ _ _ h => h) hS0 (Or.inl ⟨by rfl, ?_⟩) ?_
          rotate_left
          · ((intro w hSw; (try dsimp only at hSw); go_simp) <;> (with_reducible rfl))
          try simp only [Act.put, List.setIfInBounds_toArray, List.set_cons_zero, List.set_cons_succ]
          refine Rg.take (i := 9) (v := ?_) rfl (by kernel_rfl) (fun _ _ _ h => h) hS0 (Or.inl ⟨by rfl, ?_⟩) ?_
          rotate_left
          · ((intro w hSw; (try dsimp only at hSw); go_simp) <;> (with_reducible rfl))
          try simp only [Act.put, List.setIfInBounds_toArray, List.set_cons_zero, List.set_cons_succ]
          refine Rg.take (i := 10) (v := ?_) rfl (by kernel_rfl) (fun _ _ _ h => h) hS0 (Or.inl ⟨by rfl, ?_⟩) ?_
          rotate_left
          · ((intro w hSw; (try dsimp only at hSw); go_simp) <;> (with_reducible rfl))
          try simp only [Act.put, List.setIfInBounds_toArray, List.set_cons_zero, List.set_cons_succ]
          refine Rg.take (i := 11) (v := ?_) rfl (by kernel_rfl) (fun _ _ _ h => h) hS0 (Or.inl ⟨by rfl, ?_⟩) ?_
          rotate_left
          · ((intro w hSw; (try dsimp only at hSw); go_simp) <;> (with_reducible rfl))
          try simp only [Act.put, List.setIfInBounds_toArray, List.set_cons_zero, List.set_cons_succ]
          refine Rg.take (i := 12) (v := ?_) rfl (by kernel_rfl) (fun _ _ _ h => h) hS0 (Or.inl ⟨by rfl, ?_⟩) ?_
          rotate_left
          · ((intro w hSw; (try dsimp only at hSw); go_simp) <;> (with_reducible rfl))
          try simp only [Act.put, List.setIfInBounds_toArray, List.set_cons_zero, List.set_cons_succ]
          refine Rg.take (i := 13) (v := ?_) rfl (by kernel_rfl) (fun _ _ _ h => h) hS0 (Or.inl ⟨by rfl, ?_⟩) ?_
          rotate_left
          · ((intro w hSw; (try dsimp only at hSw); go_simp) <;> (with_reducible rfl))
          try simp only [Act.put, List.setIfInBounds_toArray, List.set_cons_zero, List.set_cons_succ]
          refine Rg.take (i := 14) (v := ?_) rfl (by kernel_rfl) (fun _ _ _ h => h) hS0 (Or.inl ⟨by rfl, ?_⟩) ?_
          rotate_left
          · ((intro w hSw; (try dsimp only at hSw); go_simp) <;> (with_reducible rfl))
          try simp only [Act.put, List.setIfInBounds_toArray, List.set_cons_zero, List.set_cons_succ]
          refine Rg.take (i := 15) (v := ?_) rfl (by kernel_rfl) (fun _ _ _ h => h) hS0 (Or.inl ⟨by rfl, ?_⟩) ?_
          rotate_left
          · ((intro w hSw; (try dsimp only at hSw); go_simp) <;> (with_reducible rfl))
          try simp only [Act.put, List.setIfInBounds_toArray, List.set_cons_zero, List.set_cons_succ]
          refine Rg.take (i := 16) (v := ?_) rfl (by kernel_rfl) (fun _ _ _ h => h) hS0 (Or.inl ⟨by rfl, ?_⟩) ?_
          rotate_left
          · ((intro w hSw; (try dsimp only at hSw); go_simp) <;> (with_reducible rfl))
          try simp only [Act.put, List.setIfInBounds_toArray, List.set_cons_zero, List.set_cons_succ]
          refine Rg.take (i := 17) (v := ?_) rfl (by kernel_rfl) (fun _ _ _ h => h) hS0 (Or.inl ⟨by rfl, ?_⟩) ?_
          rotate_left
          · ((intro w hSw; (try dsimp only at hSw); go_simp) <;> (with_reducible rfl))
          try simp only [Act.put, List.setIfInBounds_toArray, List.set_cons_zero, List.set_cons_succ]
          refine Rg.take (i := 18) (v := ?_) rfl (by kernel_rfl) (fun _ _ _ h => h) hS0 (Or.inl ⟨by rfl, ?_⟩) ?_
          rotate_left
          · ((intro w hSw; (try dsimp only at hSw); go_simp) <;> (with_reducible rfl))
          try simp only [Act.put, List.setIfInBounds_toArray, List.set_cons_zero, List.set_cons_succ]
          refine Rg.take (i := 19) (v := ?_) rfl (by kernel_rfl) (fun _ _ _ h => h) hS0 (Or.inl ⟨by rfl, ?_⟩) ?_
          rotate_left
          · ((intro w hSw; (try dsimp only at hSw); go_simp) <;> (with_reducible rfl))
          try simp only [Act.put, List.setIfInBounds_toArray, List.set_cons_zero, List.set_cons_succ]
          refine Rg.take (i := 20) (v := ?_) rfl (by kernel_rfl) (fun _ _ _ h => h) hS0 (Or.inl ⟨by rfl, ?_⟩) ?_
          rotate_left
          · ((intro w hSw; (try dsimp only at hSw); go_simp) <;> (with_reducible rfl))
          try simp only [Act.put, List.setIfInBounds_toArray, List.set_cons_zero, List.set_cons_succ]
          refine Rg.take (i := 21) (v := ?_) rfl (by kernel_rfl) (fun _ _ _ h => h) hS0 (Or.inl ⟨by rfl, ?_⟩) ?_
          rotate_left
          · ((intro w hSw; (try dsimp only at hSw); go_simp) <;> (with_reducible rfl))
          try simp only [Act.put, List.setIfInBounds_toArray, List.set_cons_zero, List.set_cons_succ]
          refine Rg.take (i := 22) (v := ?_) rfl (by kernel_rfl) (fun _ _ _ h => h) hS0 (Or.inl ⟨by rfl, ?_⟩) ?_
          rotate_left
          · ((intro w hSw; (try dsimp only at hSw); go_simp) <;> (with_reducible rfl))
          try simp only [Act.put, List.setIfInBounds_toArray, List.set_cons_zero, List.set_cons_succ]
          refine Rg.one (i := 23) rfl (by kernel_rfl) (fun K hK => ?_)
          go_simp
          have hS1 : (fun x => x.cell? ⟨p, 1, none⟩ = some (.slice (some ⟨b, 0, none⟩) N c) ∧ x.cell? ⟨b, a, none⟩ = some (.slice A2 n1 c2) ∧ x.cell? ⟨b, a + 1, none⟩ = some (.slice A3 n2 c3)) (w1.drew.alloc (.cells #[.slice A2 n1 c2, .slice A3 n2 c3] 27)) := ⟨upA e0 _, upA e1 _, upA e2 _⟩
          refine hK.out _ _ (fun _ => hS1) ?_
          clear hK K
          try simp only [Act.put, List.setIfInBounds_toArray, List.set_cons_zero, List.set_cons_succ]
          refine Rg.one (i := 24) rfl (by kernel_rfl) (fun K hK => ?_)
          go_simp
          refine (HC.out _ (below_then (drew_below w1 1) ((Below.refl _ _).alloc (Nat.le_refl _) _)) (by exact Blk.new _ _ _)).mono ?_
          rintro e w5 ⟨L5, rfl, ho5, hb5⟩
          obtain ⟨A5, n5, c5, rfl⟩ := slW ho5.w
          have hS5 := ((HS.out.below (below_then (drew_below w1 1) ((Below.refl _ _).alloc (Nat.le_refl _) (.cells #[.slice A2 n1 c2, .slice A3 n2 c3] 27)))).made hb5 ho5).toW
          have r5 := hS5.s1.blk_.at_ 1 rfl
          have f5 := (ownW_at hS5.s2.ownW_ (lfR_at HV1.out) 0 rfl).2
          have k5 := (ownW_at hS5.s2.ownW_ (lfR_at HV1.out) 0 rfl).1
          have j5 := (ownW_at hS5.s2.ownW_ (lfR_at HV2.out) 0 rfl).1
          simp only [List.getElem_toArray, List.getElem_cons_succ, List.getElem_cons_zero, Nat.mul_one, Nat.add_zero] at r5 f5 k5 j5
          have HS5 := Lib.hid hS5
          clear hS5 ho5 hb5
          change K _ _
          have hS2 : (fun x => x.cell? ⟨p, 1, none⟩ = some (.slice (some ⟨b, 0, none⟩) N c) ∧ x.cell? ⟨b, a, none⟩ = some (.slice A2 n1 c2) ∧ x.cell? ⟨b, a + 1, none⟩ = some (.slice A3 n2 c3)) w5 := ⟨r5, k5, j5⟩
          refine hK.out _ _ (fun _ => hS2) ?_
          clear hK K
          try simp only [Act.put, List.setIfInBounds_toArray, List.set_cons_zero, List.set_cons_succ]
          refine Rg.one (i := 25) rfl (by kernel_rfl) (fun K hK => ?_)
          go_simp
          refine hK.out _ _ (fun _ => hS2) ?_
          clear hK K
          try simp only [Act.put, List.setIfInBounds_toArray, List.set_cons_zero, List.set_cons_succ]
          refine Rg.one (i := 26) rfl (by kernel_rfl) (fun K hK => ?_)
          go_simp
          refine hK.out _ _ (fun _ => hS2) ?_
          clear hK K
          try simp only [Act.put, List.setIfInBounds_toArray, List.set_cons_zero, List.set_cons_succ]
          refine Rg.one (i := 27) rfl (by kernel_rfl) (fun K hK => ?_)
          go_simp
          refine hK.out _ _ (fun h => nomatch (show true = false from h)) ?_
          clear hK K
          try simp only [Act.put, List.setIfInBounds_toArray, List.set_cons_zero, List.set_cons_succ]
          refine Rg.done (by kernel_rfl) ?_ _
          have hS6 := HS5.out.s2.setOwnW (i := a) (lfR_at HV1.out) 0 (by decide) (.slice A5 n5 c5)
          rw [Nat.mul_one, Nat.add_zero, show [Value.slice A2 n1 c2].set 0 (.slice A5 n5 c5) = [Value.slice A5 n5 c5] from rfl, ← lfR_set] at hS6
          obtain ⟨_, _, hS7⟩ := hS6.s3.pageOut HX1.out
          rw [show rwR r1 ++ rwR r2 = rwR (r1 ++ r2) from (List.map_append).symm] at hS7
          have hS8 := (hS7.drop.s2.pageBack (by rw [HN.out]; omega) (by rw [HN.out]; exact hvl)).s1.s2
          have HS8 := Lib.hid hS8
          have q8 := hS8.blk_.at_ 1 rfl
          simp only [List.getElem_toArray, List.getElem_cons_succ, List.getElem_cons_zero] at q8
          have hDel := delF_sat hS8.s1 (a + 1) (by rw [lfR_len, List.length_set]; omega) (lfR_one hS8.s2)
          rw [lfR_erase] at hDel
          generalize w5.setCell ⟨b, a, none⟩ (.slice A5 n5 c5) = w6 at *
          have HDel := Lib.hid (show Calls Tryz.prog 76 #[.slice (some ⟨b, 0, none⟩) N c, .int .i64 ((a : Int) + 1), .int .i64 ((a : Int) + 1 + 1)] w6 _ from hDel)
          clear hS6 hS7 hS8 hDel hS0 hS1 hS2 e0 e1 e2 q1 k1 k2 r5 f5 k5 j5 HC
          go_wp2_with fail
          (with_reducible refine HDel.out.mono ?_)
          rintro e w7 ⟨L7, rfl, hT⟩
          obtain ⟨A7, n7, c7, rfl⟩ := slW hT.ownW_
          have q7 := hT.s1.blk_.at_ 1 rfl
          have f7 := hT.s1.blk_.free 1
          simp only [List.getElem_toArray, List.getElem_cons_succ, List.getElem_cons_zero] at q7
          obtain ⟨_, _, hT3⟩ := hT.s2.pageOut (i := a + 1) (r := r2) (by rw [List.getElem?_set_ne (by omega)]; exact HX2.out)
          rw [HJ.out] at hT3
          have hT4 : Sat (stB p most P.flatten.length (.slice A7 n7 c7) :: _) _ := hT3.drop.s2.set 1 (.slice A7 n7 c7)
          have HT5 := Lib.hid ((hT4.s2.s1).shutSt (by rw [HJF.out]))
          clear hT hT3 hT4 HDel q8
          go_wp2_with fail
          refine Great.bodyPost_end0 rfl rfl ?_
          exact hQ _ _ ⟨rfl, HT5.out⟩
end Go.Proofs.YtlekfpeonehggaaGreatDoor
end
