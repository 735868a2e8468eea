/- Package page: Put. -/
import Derived.Test.YtlekfpeonehggaaGreatDoorJ25
import Derived.Test.YtlekfpeonehggaaGreatDoorJ26
section
set_option linter.unusedVariables false
set_option maxRecDepth 100000
namespace Go.Proofs.YtlekfpeonehggaaGreatDoor
open Go.Proofs.BL Go.Proofs.Peel Go.RowKit Go.Proofs.Ky

theorem rw_ins (r : List Rw) (lo : Nat) (x : Rw) : (rwR r).take lo ++ enR x :: (rwR r).drop lo = rwR (r.take lo ++ x :: r.drop lo) := by simp [rwR]
theorem put_lenI {P : List (List Rw)} {k lo : Nat} {r : List Rw} {x : Rw} (h : P[k]? = some r) (hlo : lo ≤ r.length) : (P.set k (r.take lo ++ x :: r.drop lo)).flatten.length = P.flatten.length + 1 := by
  obtain ⟨hk, e⟩ := List.getElem?_eq_some_iff.1 h
  have hP : P.flatten = (P.take k ++ P[k] :: P.drop (k + 1)).flatten := by rw [← List.drop_eq_getElem_cons hk, List.take_append_drop]
  rw [hP, e, List.set_eq_take_append_cons_drop, if_pos hk]
  simp only [List.flatten_append, List.flatten_cons, List.length_append, List.length_cons, List.length_take, List.length_drop]
  omega
theorem putAt_set {P : List (List Rw)} {k : Nat} {r a : List Rw} {l : List (List Rw)} (h : P[k]? = some r) : putAt (P.set k a) k l = putAt P k l := by
  have hk := (List.getElem?_eq_some_iff.1 h).1
  unfold putAt
  rw [List.take_set_of_le (Nat.le_refl k), List.drop_set_of_lt (by omega)]
theorem put_lenS {P : List (List Rw)} {k lo : Nat} {r : List Rw} {x : Rw} (h : P[k]? = some r) : (P.set k (r.set lo x)).flatten.length = P.flatten.length := by
  obtain ⟨hk, e⟩ := List.getElem?_eq_some_iff.1 h
  have hP : P.flatten = (P.take k ++ P[k] :: P.drop (k + 1)).flatten := by rw [← List.drop_eq_getElem_cons hk, List.take_append_drop]
  rw [hP, e, List.set_eq_take_append_cons_drop, if_pos hk]
  simp only [List.flatten_append, List.flatten_cons, List.length_append, List.length_set]
theorem rwR_set (l : List Rw) (i : Nat) (x : Rw) : rwR (l.set i x) = (rwR l).set i (enR x) := by rw [rwR, List.map_set]; rfl
theorem set_at {α : Type _} {l : List α} {i : Nat} {v : α} (h : l[i]? = some v) : l.set i v = l := by
  obtain ⟨hi, e⟩ := List.getElem?_eq_some_iff.1 h
  rw [← e, List.set_getElem_self]
def putV (most : Int) (key : ByteArray) (n : Int) (P : List (List Rw)) : List (List Rw) × Int :=
  if 16 < key.size then (P, 2) else if (get key P.flatten).isSome = false ∧ 256 ≤ P.flatten.length then (P, 5) else (putS tx most.toNat key n P, 0)
def PutPost (p : Nat) (most : Int) (ls : List Part) (r : List (List Rw) × Int) (e : Ending) (w' : World) : Prop := e = .returned (.int .i64 r.2) ∧ Sat (stP p most r.1 :: ls) w'
theorem putAt_one {P : List (List Rw)} {k : Nat} {r a : List Rw} (h : P[k]? = some r) : putAt P k [a] = P.set k a := by
  have hk := (List.getElem?_eq_some_iff.1 h).1
  unfold putAt
  rw [List.set_eq_take_append_cons_drop, if_pos hk]
  simp
theorem set_sz (w : World) (a : Addr) (v : Value) : (w.setCell a v).heap.size = w.heap.size := by simp [World.setCell]
theorem upF {w : World} {a : Addr} {v : Value} {f : Bool} (h : w.cell? a = some v) (hf : w.frozen? a = f) (o o' : Obj) : ((w.alloc o).alloc o').frozen? a = f :=
  ((((Below.refl w.heap.size w).alloc (Nat.le_refl _) o).alloc (by simp) o').frozen (World.block_lt_of_cell? w a h)).trans hf
theorem pgPutNil (key : ByteArray) (n : Int) (w : World) : Calls Tryz.prog 34 #[.pointer none, .string key, .int .i64 n] w (fun e w' => e = .returned (.int .i64 1) ∧ w' = w) := by
  refine via fun Q hQ => ?_
  go_enter Tryz.func34, Tryz.ntmps34
  go_wp2
set_option maxHeartbeats 4000000 in
theorem stPut (p : Nat) (most : Int) (P : List (List Rw)) (key : ByteArray) (n : Int) (ls : List Part) (w : World) (h : Sat (stP p most P :: ls) w) (hP : Pgs tx P) (ht : Thin most.toNat P) (hm : 2 ≤ most) (hl : P.flatten.length ≤ 256) :
    Calls Tryz.prog 34 #[.pointer (some ⟨p, 0, none⟩), .string key, .int .i64 n] w (PutPost p most ls (putV most key n P)) := by
  refine via fun Q hQ => ?_
  have H := Lib.hid h
  by_cases hk : 16 < key.size
  · have hk1 : (key.size : Int) > 16 := by omega
    have hr : putV most key n P = (P, 2) := if_pos hk
    rw [hr] at hQ
    clear h hk
    go_enter Tryz.func34, Tryz.ntmps34
    go_wp2_with fail
    exact ⟨rfl, H.out⟩
  have hk1 : ¬ ((key.size : Int) > 16) := by omega
  have hr : putV most key n P = if (get key P.flatten).isSome = false ∧ 256 ≤ P.flatten.length then (P, 5) else (putS tx most.toNat key n P, 0) := if_neg hk
  obtain ⟨L, vs, hF, h2⟩ := h.stF
  have hgc := stGet p most P.flatten.length L vs P key w hF hP (by omega)
  obtain ⟨A, c, rfl, hc, hA, _⟩ := hF.leaves
  have hpl := pgs_len hP
  have H2 := Lib.hid h2
  clear h h2 hk
  cases hg : (get key P.flatten).isSome with
  | false =>
    rw [hg] at hr
    unfold PGetPost at hgc
    rw [hg] at hgc
    generalize (get key P.flatten).getD 0 = gd at hgc
    have HGc := Lib.hid hgc
    clear hgc
    have HH : Hid (P = [] ∨ ∃ r, P[pgI tx key P]? = some r ∧ there tx key r = false ∧ putS tx most.toNat key n P = putAt P (pgI tx key P) (partR most.toNat (r.take (low tx key r) ++ (key, n) :: r.drop (low tx key r))) ∧ low tx key r ≤ r.length ∧ Up tx r ∧ r.length ≤ P.flatten.length) := Lib.hid (by
      by_cases hn : P = []
      · exact .inl hn
      · have hlt := pgI_lt tx key hn
        have hup := pgs_up tx hP hlt
        have hgf := get_flat tx (k := key) hP hn
        rw [getD_at _ _ hlt] at hgf
        have hth : there tx key P[pgI tx key P] = false := by
          have h1 := get_there tx (k := key) hup
          rw [← hgf] at h1
          cases e : there tx key P[pgI tx key P] with
          | false => rfl
          | true =>
            rw [e, if_pos rfl, List.getElem?_eq_getElem (there_lt tx e)] at h1
            rw [h1] at hg
            cases hg
        refine .inr ⟨_, List.getElem?_eq_getElem hlt, hth, ?_, low_le tx key _, hup, page_len (List.getElem_mem hlt)⟩
        unfold putS
        rw [if_neg hn, getD_at _ _ hlt, with_some tx n hup, hth, if_neg (by simp)])
    have hne := hP.2
    generalize hfl : P.flatten.length = F at *
    have HFl := Lib.hid hfl
    have HP := Lib.hid hP
    clear hfl hP
    by_cases hfull : 256 ≤ F
    · rw [if_pos ⟨rfl, hfull⟩] at hr
      rw [hr] at hQ
      have hb1 : (F : Int) ≥ 256 := by omega
      clear hF ht hA hpl hc hne
      go_enter Tryz.func34, Tryz.ntmps34
      go_wp2_with fail
      (with_reducible refine HGc.out.mono ?_)
      rintro e w1 ⟨rfl, hb⟩
      have c2 := (H2.out.below hb).blk_.at_ 2 rfl
      simp only [List.getElem_toArray, List.getElem_cons_succ, List.getElem_cons_zero] at c2
      have HS := Lib.hid (H.out.below hb)
      clear hb
      go_wp2_with fail
      exact ⟨rfl, HS.out⟩
    · rw [if_neg (fun e => hfull e.2)] at hr
      rw [hr] at hQ
      have hb1 : ¬ ((F : Int) ≥ 256) := by omega
      have hb0 : F < 256 := by omega
      rcases HH.out with rfl | ⟨r, hx, hth, hput, hlo, hup, hrl⟩
      · have hz : putS tx most.toNat key n [] = [[(key, n)]] := if_pos rfl
        rw [hz] at hQ
        clear hF ht hA hpl hc hne hr HH
        obtain rfl : F = 0 := by have := HFl.out; simpa using this.symm
        go_enter Tryz.func34, Tryz.ntmps34
        go_wp2_with fail
        (with_reducible refine HGc.out.mono ?_)
        rintro e w1 ⟨rfl, hb⟩
        have c1 := (H2.out.below hb).blk_.at_ 1 rfl
        have c2 := (H2.out.below hb).blk_.at_ 2 rfl
        have f1 := (H2.out.below hb).blk_.free 1
        have f2 := (H2.out.below hb).blk_.free 2
        simp only [List.getElem_toArray, List.getElem_cons_succ, List.getElem_cons_zero] at c2 c1
        have hS2 := H2.out.below hb
        have hS3 : Sat (stB p most 1 (.slice A 0 c) :: _) (w1.setCell ⟨p, 2, none⟩ (.int .i64 1)) := hS2.set 2 (.int .i64 1)
        have d1 := hS3.blk_.at_ 1 rfl
        have e1 := hS3.blk_.free 1
        simp only [List.getElem_toArray, List.getElem_cons_succ, List.getElem_cons_zero] at d1
        have up2 : ∀ o o', World.cell? (((w1.setCell ⟨p, 2, none⟩ (.int .i64 1)).alloc o).alloc o') ⟨p, 1, none⟩ = some (.slice A 0 c) := fun o o' => upA (upA d1 o) o'
        have uf2 : ∀ o o', World.frozen? (((w1.setCell ⟨p, 2, none⟩ (.int .i64 1)).alloc o).alloc o') ⟨p, 1, none⟩ = false := fun o o' => upF d1 e1 o o'
        have HS3 := Lib.hid hS3
        clear hb hS2 hS3 d1 e1
        go_wp2_with fail
        have hS5 := (HS3.out.s1.drop.s1.drop.put (B := pagesP [] []) (fun G => trivial)).lit 29 2 1 (rwR [(key, n)]) #[.string key, .int .i64 n] rfl (by decide) rfl (fun r hr => by obtain ⟨x, _, rfl⟩ := List.mem_map.1 hr; rfl) rfl
        rw [set_sz] at hS5
        have hS6 := hS5.toW.pageIn (r := [(key, n)]) 0 (Nat.zero_le _)
        have hS7 := hS6.lit 59 1 1 (lfR [.slice (some ⟨w1.heap.size, 0, none⟩) 1 1]) #[.slice (some ⟨w1.heap.size, 0, none⟩) 1 1] rfl (by decide) rfl (fun r hr => by obtain ⟨x, _, rfl⟩ := List.mem_map.1 hr; rfl) rfl
        rw [alloc_sz, set_sz] at hS7
        have hS8 : Sat (stB p most 1 (.slice (some ⟨w1.heap.size + 1, 0, none⟩) 1 1) :: _) _ := hS7.toW.s2.set 1 (.slice (some ⟨w1.heap.size + 1, 0, none⟩) 1 1)
        exact ⟨rfl, Sat.shutSt (vs := [.slice (some ⟨w1.heap.size, 0, none⟩) 1 1]) (P := [[(key, n)]]) hS8 rfl⟩
      · have hnP : P ≠ [] := fun e => by rw [e] at hx; simp at hx
        have hfi : fndI key P = (pgI tx key P : Int) := if_neg hnP
        have hfd := fun x (h : StF x p most ((F : Int) + 1) (.slice A P.length c) vs P) => stFind p most ((F : Int) + 1) (.slice A P.length c) vs P key x h hne (by omega)
        rw [hfi] at hfd
        rw [hput] at hQ
        generalize pgI tx key P = i at *
        have hil := (List.getElem?_eq_some_iff.1 hx).1
        obtain ⟨b, v, rfl, hv, _, _, _⟩ := hF.page hx
        have HFd := Lib.hid hfd
        have hAt := fun x (h : OwnW x 0 29 2 v (rwR r)) => lfAt v r key x h hup (by omega)
        rw [hth] at hAt
        have HAt := Lib.hid hAt
        have HX := Lib.hid hx
        have HV := Lib.hid hv
        have hvl := hF.v
        have b2 : (0 : Int) ≤ (i : Int) := by omega
        have b3 : (i : Int) < (P.length : Int) := by omega
        have b5 : ((P.length : Int) == 0) = false := int_diff (by omega)
        generalize low tx key r = lo at *
        clear hfd hAt hx hv hF ht hA hr HH hput hfi hup hth hne hnP
        generalize hN : P.length = N at *
        have HN := Lib.hid hN
        clear hN
        have hsum : IntKind.i64.wrap ((F : Int) + 1) = (F : Int) + 1 := IntWalk.i64_in _ (by omega)
        go_enter Tryz.func34, Tryz.ntmps34
        go_wp2_with fail
        (with_reducible refine HGc.out.mono ?_)
        rintro e w1 ⟨rfl, hb⟩
        have hS2 := H2.out.below hb
        have c1 := hS2.blk_.at_ 1 rfl
        have c2 := hS2.blk_.at_ 2 rfl
        have f2 := hS2.blk_.free 2
        simp only [List.getElem_toArray, List.getElem_cons_succ, List.getElem_cons_zero] at c2 c1
        have hS3 : Sat (stB p most ((F : Int) + 1) (.slice (some ⟨b, 0, none⟩) N c) :: _) (w1.setCell ⟨p, 2, none⟩ (.int .i64 ((F : Int) + 1))) := hS2.set 2 (.int .i64 ((F : Int) + 1))
        have d1 := hS3.blk_.at_ 1 rfl
        simp only [List.getElem_toArray, List.getElem_cons_succ, List.getElem_cons_zero] at d1
        have HS3 := Lib.hid hS3
        clear hb hS2 hS3
        go_wp2_with fail
        generalize w1.setCell ⟨p, 2, none⟩ (.int .i64 ((F : Int) + 1)) = w2 at *
        (with_reducible refine (HFd.out _ HS3.out.stF0).mono ?_)
        rintro e w3 ⟨rfl, hb3⟩
        have hS4 := HS3.out.below hb3
        have d1 := hS4.blk_.at_ 1 rfl
        simp only [List.getElem_toArray, List.getElem_cons_succ, List.getElem_cons_zero] at d1
        obtain ⟨b', v', e', hv', k1, f1, hO⟩ := hS4.stF0.page HX.out
        injection e' with e'
        injection e' with e'
        subst e'
        rw [HV.out] at hv'
        injection hv' with hv'
        subst hv'
        obtain ⟨A2, c2', e2, _⟩ := hO.slv'
        have HAt3 := Lib.hid (HAt.out w3 hO)
        have HS4 := Lib.hid hS4
        clear hb3 hS4 hO HFd HGc
        subst e2
        go_wp2_with fail
        (with_reducible refine HAt3.out.mono ?_)
        rintro e w4 ⟨rfl, hb4⟩
        have hS5 := HS4.out.below hb4
        have q1 := hS5.blk_.at_ 1 rfl
        simp only [List.getElem_toArray, List.getElem_cons_succ, List.getElem_cons_zero] at q1
        have k1 := (hb4.cell (World.block_lt_of_cell? w3 _ k1)).trans k1
        obtain ⟨v', hv', hS6⟩ := hS5.s2.pageOut HX.out
        rw [HV.out] at hv'
        injection hv' with hv'
        subst hv'
        have HS6 := Lib.hid hS6
        have HIns := Lib.hid (show ∀ x, Below w4.heap.size w4 x → Blk x w4.heap.size #[.string key, .int .i64 n] 29 → Calls Tryz.prog 59 #[.slice A2 (rwR r).length c2', .int .i64 lo, .slice (some ⟨w4.heap.size, 0, none⟩) 1 1] x _ from fun x hb hB =>
          insR_sat (HS6.out.below hb) lo w4.heap.size (enR (key, n)) (by rw [rwR_len]; exact hlo) (rwR_one r) hB rfl (enR_one _) (ownW_old HS6.out.ownW_ (Nat.le_refl _)) (by rw [rwR_len]; omega))
        clear hb4 hS5 hS6 HAt3 HS4 f1 d1
        go_wp2_with fail
        have e0 : World.cell? w4.drew ⟨p, 1, none⟩ = _ := q1
        have e1 : World.cell? w4.drew ⟨b, i, none⟩ = _ := k1
        have e3 : ∀ o, World.cell? (w4.drew.alloc o) ⟨p, 1, none⟩ = _ := fun o => upA e0 o
        have e4 : ∀ o, World.cell? (w4.alloc o).drew ⟨p, 1, none⟩ = _ := fun o => upA q1 o
        have e5 : ∀ o, World.cell? (w4.drew.alloc o) ⟨b, i, none⟩ = _ := fun o => upA e1 o
        have e6 : ∀ o, World.cell? (w4.alloc o).drew ⟨b, i, none⟩ = _ := fun o => upA k1 o
        refine Rg.begin_ (fun x => x.cell? ⟨p, 1, none⟩ = some (.slice (some ⟨b, 0, none⟩) N c) ∧ x.cell? ⟨b, i, none⟩ = some (.slice A2 (rwR r).length c2')) 21 (by kernel_rfl) ?_
        have hS0 : (fun x => x.cell? ⟨p, 1, none⟩ = some (.slice (some ⟨b, 0, none⟩) N c) ∧ x.cell? ⟨b, i, none⟩ = some (.slice A2 (rwR r).length c2')) (World.drew w4) := ⟨e0, e1⟩
        refine Rg.take (i := 0) (v := ?_) rfl (by kernel_rfl) (fun _ _ _ h => h) hS0 (Or.inl ⟨by rfl, ?_⟩) ?_
        rotate_left
        · ((intro w hSw; (try dsimp only at hSw); go_simp) <;> (with_reducible rfl))
        try simp only [Act.put, List.setIfInBounds_toArray, List.set_cons_zero, List.set_cons_succ]
        refine Rg.take (i := 1) (v := ?_) rfl (by kernel_rfl) (fun _ _ _ h => h) hS0 (Or.inl ⟨by rfl, ?_⟩) ?_
        rotate_left
        · ((intro w hSw; (try dsimp only at hSw); go_simp) <;> (with_reducible rfl))
        try simp only [Act.put, List.setIfInBounds_toArray, List.set_cons_zero, List.set_cons_succ]
        refine Rg.take (i := 2) (v := ?_) rfl (by kernel_rfl) (fun _ _ _ h => h) hS0 (Or.inl ⟨by rfl, ?_⟩) ?_
        rotate_left
        · ((intro w hSw; (try dsimp only at hSw); go_simp) <;> (with_reducible rfl))
        try simp only [Act.put, List.setIfInBounds_toArray, List.set_cons_zero, List.set_cons_succ]
        refine Rg.take (i := 3) (v := ?_) rfl (by kernel_rfl) (fun _ _ _ h => h) hS0 (Or.inl ⟨by rfl, ?_⟩) ?_
        rotate_left
        · ((intro w hSw; (try dsimp only at hSw); go_simp) <;> (with_reducible rfl))
        try simp only [Act.put, List.setIfInBounds_toArray, List.set_cons_zero, List.set_cons_succ]
        refine Rg.take (i := 4) (v := ?_) rfl (by kernel_rfl) (fun _ _ _ h => h) hS0 (Or.inl ⟨by rfl, ?_⟩) ?_
        rotate_left
        · ((intro w hSw; (try dsimp only at hSw); go_simp) <;> (with_reducible rfl))
        try simp only [Act.put, List.setIfInBounds_toArray, List.set_cons_zero, List.set_cons_succ]
        refine Rg.take (i := 5) (v := ?_) rfl (by kernel_rfl) (fun _ _ _ h => h) hS0 (Or.inl ⟨by rfl, ?_⟩) ?_
        rotate_left
        · ((intro w hSw; (try dsimp only at hSw); go_simp) <;> (with_reducible rfl))
        try simp only [Act.put, List.setIfInBounds_toArray, List.set_cons_zero, List.set_cons_succ]
        refine Rg.take (i := 6) (v := ?_) rfl (by kernel_rfl) (fun _ _ _ h => h) hS0 (Or.inl ⟨by rfl, ?_⟩) ?_
        rotate_left
        · ((intro w hSw; (try dsimp only at hSw); go_simp) <;> (with_reducible rfl))
        try simp only [Act.put, List.setIfInBounds_toArray, List.set_cons_zero, List.set_cons_succ]
        refine Rg.take (i := 7) (v := ?_) rfl (by kernel_rfl) (fun _ _ _ h => h) hS0 (Or.inl ⟨by rfl, ?_⟩) ?_
        rotate_left
        · ((intro w hSw; (try dsimp only at hSw); go_simp) <;> (with_reducible rfl))
        try simp only [Act.put, List.setIfInBounds_toArray, List.set_cons_zero, List.set_cons_succ]
        refine Rg.take (i := 8) (v := ?_) rfl (by kernel_rfl) (fun _ _ _ h => h) hS0 (Or.inl ⟨by rfl, ?_⟩) ?_
        rotate_left
        · ((intro w hSw; (try dsimp only at hSw); go_simp) <;> (with_reducible rfl))
        try simp only [Act.put, List.setIfInBounds_toArray, List.set_cons_zero, List.set_cons_succ]
        refine Rg.take (i := 9) (v := ?_) rfl (by kernel_rfl) (fun _ _ _ h => h) hS0 (Or.inl ⟨by rfl, ?_⟩) ?_
        rotate_left
        · ((intro w hSw; (try dsimp only at hSw); go_simp) <;> (with_reducible rfl))
        try simp only [Act.put, List.setIfInBounds_toArray, List.set_cons_zero, List.set_cons_succ]
        refine Rg.take (i := 10) (v := ?_) rfl (by kernel_rfl) (fun _ _ _ h => h) hS0 (Or.inl ⟨by rfl, ?_⟩) ?_
        rotate_left
        · ((intro w hSw; (try dsimp only at hSw); go_simp) <;> (with_reducible rfl))
        try simp only [Act.put, List.setIfInBounds_toArray, List.set_cons_zero, List.set_cons_succ]
        refine Rg.take (i := 11) (v := ?_) rfl (by kernel_rfl) (fun _ _ _ h => h) hS0 (Or.inl ⟨by rfl, ?_⟩) ?_
        rotate_left
        · ((intro w hSw; (try dsimp only at hSw); go_simp) <;> (with_reducible rfl))
        try simp only [Act.put, List.setIfInBounds_toArray, List.set_cons_zero, List.set_cons_succ]
        refine Rg.take (i := 12) (v := ?_) rfl (by kernel_rfl) (fun _ _ _ h => h) hS0 (Or.inl ⟨by rfl, ?_⟩) ?_
        rotate_left
        · ((intro w hSw; (try dsimp only at hSw); go_simp) <;> (with_reducible rfl))
        try simp only [Act.put, List.setIfInBounds_toArray, List.set_cons_zero, List.set_cons_succ]
        refine Rg.take (i := 13) (v := ?_) rfl (by kernel_rfl) (fun _ _ _ h => h) hS0 (Or.inl ⟨by rfl, ?_⟩) ?_
        rotate_left
        · ((intro w hSw; (try dsimp only at hSw); go_simp) <;> (with_reducible rfl))
        try simp only [Act.put, List.setIfInBounds_toArray, List.set_cons_zero, List.set_cons_succ]
        refine Rg.take (i := 14) (v := ?_) rfl (by kernel_rfl) (fun _ _ _ h => h) hS0 (Or.inl ⟨by rfl, ?_⟩) ?_
        rotate_left
        · ((intro w hSw; (try dsimp only at hSw); go_simp) <;> (with_reducible rfl))
        try simp only [Act.put, List.setIfInBounds_toArray, List.set_cons_zero, List.set_cons_succ]
        refine Rg.take (i := 15) (v := ?_) rfl (by kernel_rfl) (fun _ _ _ h => h) hS0 (Or.inl ⟨by rfl, ?_⟩) ?_
        rotate_left
        · ((intro w hSw; (try dsimp only at hSw); go_simp) <;> (with_reducible rfl))
        try simp only [Act.put, List.setIfInBounds_toArray, List.set_cons_zero, List.set_cons_succ]
        refine Rg.take (i := 16) (v := ?_) rfl (by kernel_rfl) (fun _ _ _ h => h) hS0 (Or.inl ⟨by rfl, ?_⟩) ?_
        rotate_left
        · ((intro w hSw; (try dsimp only at hSw); go_simp) <;> (with_reducible rfl))
        try simp only [Act.put, List.setIfInBounds_toArray, List.set_cons_zero, List.set_cons_succ]
        refine Rg.one (i := 17) rfl (by kernel_rfl) (fun K hK => ?_)
        go_simp
        have hS1 : (fun x => x.cell? ⟨p, 1, none⟩ = some (.slice (some ⟨b, 0, none⟩) N c) ∧ x.cell? ⟨b, i, none⟩ = some (.slice A2 (rwR r).length c2')) (w4.drew.alloc (.cells #[.string key, .int .i64 n] 29)) := ⟨e3 _, e5 _⟩
        refine hK.out _ _ (fun _ => hS1) ?_
        clear hK K
        try simp only [Act.put, List.setIfInBounds_toArray, List.set_cons_zero, List.set_cons_succ]
        refine Rg.one (i := 18) rfl (by kernel_rfl) (fun K hK => ?_)
        go_simp
        refine (HIns.out _ (below_then (drew_below w4 1) ((Below.refl _ _).alloc (Nat.le_refl _) _)) (by exact Blk.new _ _ _)).mono ?_
        rintro e w5 ⟨L5, rfl, hS7⟩
        obtain ⟨A5, n5, c5, rfl⟩ := slW hS7.ownW_
        have r5 := hS7.s2.blk_.at_ 1 rfl
        have f5 := (ownW_at hS7.s3.ownW_ (lfR_at HV.out) 0 rfl).2
        have k5 := (ownW_at hS7.s3.ownW_ (lfR_at HV.out) 0 rfl).1
        simp only [List.getElem_toArray, List.getElem_cons_succ, List.getElem_cons_zero, Nat.mul_one, Nat.add_zero] at r5 f5 k5
        have HS7 := Lib.hid hS7
        clear hS7
        change K _ _
        have hS2 : (fun x => x.cell? ⟨p, 1, none⟩ = some (.slice (some ⟨b, 0, none⟩) N c) ∧ x.cell? ⟨b, i, none⟩ = some (.slice A2 (rwR r).length c2')) w5 := ⟨r5, k5⟩
        refine hK.out _ _ (fun _ => hS2) ?_
        clear hK K
        try simp only [Act.put, List.setIfInBounds_toArray, List.set_cons_zero, List.set_cons_succ]
        refine Rg.one (i := 19) rfl (by kernel_rfl) (fun K hK => ?_)
        go_simp
        refine hK.out _ _ (fun _ => hS2) ?_
        clear hK K
        try simp only [Act.put, List.setIfInBounds_toArray, List.set_cons_zero, List.set_cons_succ]
        refine Rg.one (i := 20) rfl (by kernel_rfl) (fun K hK => ?_)
        go_simp
        refine hK.out _ _ (fun _ => hS2) ?_
        clear hK K
        try simp only [Act.put, List.setIfInBounds_toArray, List.set_cons_zero, List.set_cons_succ]
        refine Rg.one (i := 21) rfl (by kernel_rfl) (fun K hK => ?_)
        go_simp
        refine hK.out _ _ (fun h => nomatch (show true = false from h)) ?_
        clear hK K
        try simp only [Act.put, List.setIfInBounds_toArray, List.set_cons_zero, List.set_cons_succ]
        refine Rg.done (by kernel_rfl) ?_ _
        all_goals
          have hS7 := HS7.out
          rw [rw_ins] at hS7
          have hS8 := hS7.s3.setOwnW (i := i) (lfR_at HV.out) 0 (by decide) (.slice A5 n5 c5)
          rw [Nat.mul_one, Nat.add_zero, show [Value.slice A2 (rwR r).length c2'].set 0 (.slice A5 n5 c5) = [Value.slice A5 n5 c5] from rfl, ← lfR_set] at hS8
          have hS9 := (hS8.s2.s2.pageBack (by rw [HN.out]; exact hil) (by rw [HN.out]; exact hvl)).s1.s2
          have hS10 := (hS9.shutSt (by rw [put_lenI HX.out hlo, HFl.out]; rfl))
          have HPt := Lib.hid (stPart p most _ i _ ls _ hS10 (by rw [List.getElem?_set_self (by rw [HN.out]; exact hil)]) hm (by rw [List.length_set, HN.out]; omega) (by simp only [List.length_append, List.length_cons, List.length_take, List.length_drop]; omega))
          clear hS7 hS8 hS9 hS10 HS7 r5 f5 k5
          clear e0 e1 e3 e4 e5 e6 q1 k1
          go_wp2_with fail
          (with_reducible refine HPt.out.mono ?_)
          rintro e w6 ⟨rfl, hS11⟩
          rw [putAt_set HX.out] at hS11
          have HS11 := Lib.hid hS11
          clear hS11
          go_wp2_with fail
          exact ⟨rfl, HS11.out⟩
  | true =>
    rw [hg, if_neg (fun e => by cases e.1)] at hr
    rw [hr] at hQ
    unfold PGetPost at hgc
    rw [hg] at hgc
    generalize (get key P.flatten).getD 0 = gd at hgc
    have HGc := Lib.hid hgc
    have hnP : P ≠ [] := fun e => by rw [e] at hg; cases hg
    have hlt := pgI_lt tx key hnP
    have hup := pgs_up tx hP hlt
    have hgf := get_flat tx (k := key) hP hnP
    rw [getD_at _ _ hlt] at hgf
    have hth : there tx key P[pgI tx key P] = true := by
      have h1 := get_there tx (k := key) hup
      rw [← hgf] at h1
      cases e : there tx key P[pgI tx key P] with
      | true => rfl
      | false =>
        rw [e, if_neg (by simp)] at h1
        rw [h1] at hg
        cases hg
    have hput : putS tx most.toNat key n P = putAt P (pgI tx key P) (partR most.toNat (P[pgI tx key P].set (low tx key P[pgI tx key P]) (key, n))) := by
      unfold putS
      rw [if_neg hnP, getD_at _ _ hlt, with_some tx n hup, hth, if_pos rfl]
    have hthin := ht _ (List.getElem_mem hlt)
    have hrl := page_len (List.getElem_mem hlt)
    have hx : P[pgI tx key P]? = some P[pgI tx key P] := List.getElem?_eq_getElem hlt
    have hne := hP.2
    generalize P[pgI tx key P] = r at *
    obtain ⟨n0, hn0⟩ := there_key hth
    have hfi : fndI key P = (pgI tx key P : Int) := if_neg hnP
    have hfd := fun x (h : StF x p most (P.flatten.length : Int) (.slice A P.length c) vs P) => stFind p most (P.flatten.length : Int) (.slice A P.length c) vs P key x h hne (by omega)
    rw [hfi] at hfd
    have hpr : partR most.toNat (r.set (low tx key r) (key, n)) = [r.set (low tx key r) (key, n)] := if_neg (by rw [List.length_set]; omega)
    have hAt := fun x v (h : OwnW x 0 29 2 v (rwR r)) => lfAt v r key x h hup (by omega)
    rw [hth] at hAt
    generalize pgI tx key P = i at *
    rw [hput, hpr, putAt_one hx] at hQ
    generalize low tx key r = lo at *
    have hlo := (List.getElem?_eq_some_iff.1 hn0).1
    have hil := (List.getElem?_eq_some_iff.1 hx).1
    obtain ⟨b, v, rfl, hv, _, _, hO⟩ := hF.page hx
    obtain ⟨g, c2, e2, _, _⟩ := hO.some_ (fun e => by have h9 := congrArg List.length e; rw [rwR_len] at h9; have h8 : r.length = 0 := h9; omega)
    have HFd := Lib.hid hfd
    have HAt := Lib.hid (fun x h => hAt x v h)
    have HX := Lib.hid hx
    have HV := Lib.hid hv
    have HN0 := Lib.hid hn0
    have hvl := hF.v
    have hfl2 : (P.set i (r.set lo (key, n))).flatten.length = P.flatten.length := put_lenS hx
    have HFl2 := Lib.hid hfl2
    have b2 : (0 : Int) ≤ (i : Int) := by omega
    have b3 : (i : Int) < (P.length : Int) := by omega
    have b4 : (0 : Int) ≤ (lo : Int) := by omega
    have b5 : ((P.length : Int) == 0) = false := int_diff (by omega)
    have b7 : (lo : Int) < (r.length : Int) := by omega
    clear hfd hAt hx hv hF ht hA hr hput hfi hup hth hne hnP hgf hgc hthin hpr hP hO hn0 hfl2 hlt hg hrl
    generalize hfl : P.flatten.length = F at *
    have HFl := Lib.hid hfl
    clear hfl
    generalize hN : P.length = N at *
    have HN := Lib.hid hN
    clear hN
    have HE2 := Lib.hid e2
    clear e2
    go_enter Tryz.func34, Tryz.ntmps34
    go_wp2_with fail
    (with_reducible refine HGc.out.mono ?_)
    rintro e w1 ⟨rfl, hb⟩
    have hS2 := H2.out.below hb
    have c1 := hS2.blk_.at_ 1 rfl
    simp only [List.getElem_toArray, List.getElem_cons_succ, List.getElem_cons_zero] at c1
    have HS2 := Lib.hid hS2
    clear hb hS2
    go_wp2_with fail
    (with_reducible refine (HFd.out _ HS2.out.stF0).mono ?_)
    rintro e w3 ⟨rfl, hb3⟩
    have hS4 := HS2.out.below hb3
    have d1 := hS4.blk_.at_ 1 rfl
    simp only [List.getElem_toArray, List.getElem_cons_succ, List.getElem_cons_zero] at d1
    obtain ⟨b', v', e', hv', k1, f1, hO⟩ := hS4.stF0.page HX.out
    injection e' with e'
    injection e' with e'
    subst e'
    rw [HV.out] at hv'
    injection hv' with hv'
    subst hv'
    have HAt3 := Lib.hid (HAt.out w3 hO)
    have HS4 := Lib.hid hS4
    clear hb3 hS4 hO HFd HGc HAt f1 HS2 c1
    have e2 := HE2.out
    subst e2
    have hrl2 := rwR_len r
    generalize (rwR r).length = nr at *
    subst hrl2
    go_wp2_with fail
    (with_reducible refine HAt3.out.mono ?_)
    rintro e w4 ⟨rfl, hb4⟩
    have hS5 := HS4.out.below hb4
    have q1 := hS5.blk_.at_ 1 rfl
    simp only [List.getElem_toArray, List.getElem_cons_succ, List.getElem_cons_zero] at q1
    have k1 := (hb4.cell (World.block_lt_of_cell? w3 _ k1)).trans k1
    obtain ⟨v', hv', hS6⟩ := hS5.s2.pageOut HX.out
    rw [HV.out] at hv'
    injection hv' with hv'
    subst hv'
    obtain ⟨⟨_, m1⟩, _, m2⟩ := pgRow hS6.ownW_ HN0.out
    simp only at m1
    have hrow : (rwR r)[lo]? = some (enR (key, n0)) := by rw [rwR, List.getElem?_map, HN0.out]; rfl
    have hS7 := hS6.setOwnW hrow 1 (by decide) (.int .i64 n)
    rw [show (rwR r).set lo ((enR (key, n0)).set 1 (.int .i64 n)) = rwR (r.set lo (key, n)) from (rwR_set r lo (key, n)).symm] at hS7
    have hS7b := hS7.pageBack (by rw [HN.out]; exact hil) (by rw [HN.out]; exact hvl)
    rw [set_at HV.out] at hS7b
    have hS8 := hS7b.s1.s2.s1
    have HS8 := Lib.hid (hS8.shutSt (by rw [HFl2.out]))
    clear hb4 hS5 hS6 hS7 hS7b hS8 HAt3 HS4 d1
    go_wp2_with fail
    exact ⟨rfl, HS8.out⟩
end Go.Proofs.YtlekfpeonehggaaGreatDoor
end
