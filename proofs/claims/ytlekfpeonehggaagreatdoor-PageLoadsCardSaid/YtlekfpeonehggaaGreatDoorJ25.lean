/- Package page: part. -/
import Derived.Test.YtlekfpeonehggaaGreatDoorJ24
import Derived.StillTailTactics
import Derived.Great.Walk
import Derived.IntWalk
section
set_option linter.unusedVariables false
set_option maxRecDepth 100000
namespace Go.Proofs.YtlekfpeonehggaaGreatDoor
open Go.Proofs.BL Go.Proofs.Peel Go.RowKit Go.Proofs.Ky

theorem rows_dropN {w : World} {sz b o : Nat} {rows : List (List Value)} (a : RowsAt w sz (some ⟨b, o, none⟩) rows) (n : Nat) : RowsAt w sz (some ⟨b, o + n * sz, none⟩) (rows.drop n) := fun i r hi => by
  rw [List.getElem?_drop] at hi
  obtain ⟨b', o', e, hc⟩ := a (n + i) r hi
  injection e with e
  injection e with e1 e2
  subst e1 e2
  refine ⟨b, o + n * sz, rfl, fun j u hj => ?_⟩
  have := hc j u hj
  rwa [show o + (n + i) * sz + j = o + n * sz + i * sz + j from by rw [Nat.add_mul]; omega] at this
theorem ins_take {α : Type _} {x : α} : ∀ {l : List α} {i : Nat}, i ≤ l.length → l.insertIdx i x = l.take i ++ x :: l.drop i
  | _, 0, _ => rfl
  | [], i + 1, h => by simp at h
  | a :: l, i + 1, h => by
    have := ins_take (x := x) (l := l) (i := i) (by simpa using h)
    simpa using this
theorem lfR_ins (vs : List Value) (i : Nat) (v : Value) (hi : i ≤ vs.length) : (lfR vs).take i ++ [v] :: (lfR vs).drop i = lfR (vs.insertIdx i v) := by
  rw [ins_take hi]
  simp [lfR]
theorem set_ins {α : Type _} {a b : α} : ∀ {l : List α} {k : Nat}, k < l.length → (l.set k a).insertIdx (k + 1) b = l.take k ++ [a, b] ++ l.drop (k + 1)
  | [], _, h => by simp at h
  | _ :: _, 0, _ => rfl
  | x :: l, k + 1, h => by
    have := set_ins (a := a) (b := b) (l := l) (k := k) (by simpa using h)
    simpa using this
theorem put_two {P : List (List Rw)} {k : Nat} {r a b : List Rw} (h : P[k]? = some r) : (P.set k a).insertIdx (k + 1) b = putAt P k [a, b] := set_ins (List.getElem?_eq_some_iff.1 h).1
theorem put_flat2 {P : List (List Rw)} {k : Nat} {r a b : List Rw} (h : P[k]? = some r) (e : a ++ b = r) : ((P.set k a).insertIdx (k + 1) b).flatten = P.flatten := by
  rw [put_two h]
  obtain ⟨hk, e2⟩ := List.getElem?_eq_some_iff.1 h
  have hP : P.flatten = (P.take k ++ P[k] :: P.drop (k + 1)).flatten := by rw [← List.drop_eq_getElem_cons hk, List.take_append_drop]
  rw [hP, e2, ← e]
  unfold putAt
  simp
theorem put_same {P : List (List Rw)} {k : Nat} {r : List Rw} (h : P[k]? = some r) : putAt P k [r] = P := by
  obtain ⟨hk, e⟩ := List.getElem?_eq_some_iff.1 h
  unfold putAt
  rw [List.append_assoc]
  show P.take k ++ r :: P.drop (k + 1) = P
  rw [← e, ← List.drop_eq_getElem_cons hk, List.take_append_drop]
def InsSat (rows : List (List Value)) (E : TypeId) (sz : Nat) (l : List Part) (e : Ending) (w' : World) : Prop := ∃ v', e = .returned v' ∧ Sat (ownW v' E sz rows :: l) w'
theorem insF_sat {v : Value} {rows : List (List Value)} {l : List Part} {w : World} (h : Sat (ownW v 59 1 rows :: l) w) (i m : Nat) (y : List Value) (hi : i ≤ rows.length) (h1 : ∀ r ∈ rows, ∀ u ∈ r, u.oneCell' = true)
    (hM : Blk w m y.toArray 59) (hy : y.length = 1) (hy1 : ∀ u ∈ y, u.oneCell' = true) (hne : v.ownBlock ≠ some m) (hbig : rows.length ≤ 1000000) :
    Calls Tryz.prog 75 #[v, .int .i64 i, .slice (some ⟨m, 0, none⟩) 1 1] w (InsSat (rows.take i ++ y :: rows.drop i) 59 1 l) :=
  (insF_ownW 0 v rows i m y w h.ownW_ (Nat.zero_le _) hi h1 hM hy hy1 hne (by omega)).mono fun e w' ⟨v', he, ho, hf, hk⟩ => ⟨v', he, h.grownW ho hf hk⟩
theorem insR_sat {v : Value} {rows : List (List Value)} {l : List Part} {w : World} (h : Sat (ownW v 29 2 rows :: l) w) (i m : Nat) (y : List Value) (hi : i ≤ rows.length) (h1 : ∀ r ∈ rows, ∀ u ∈ r, u.oneCell' = true)
    (hM : Blk w m y.toArray 29) (hy : y.length = 2) (hy1 : ∀ u ∈ y, u.oneCell' = true) (hne : v.ownBlock ≠ some m) (hbig : rows.length ≤ 1000000) :
    Calls Tryz.prog 59 #[v, .int .i64 i, .slice (some ⟨m, 0, none⟩) 1 1] w (InsSat (rows.take i ++ y :: rows.drop i) 29 2 l) :=
  (insR_ownW 0 v rows i m y w h.ownW_ (Nat.zero_le _) hi h1 hM hy hy1 hne (by omega)).mono fun e w' ⟨v', he, ho, hf, hk⟩ => ⟨v', he, h.grownW ho hf hk⟩
theorem delF_sat {v : Value} {rows : List (List Value)} {l : List Part} {w : World} (h : Sat (ownW v 59 1 rows :: l) w) (i : Nat) (hi : i < rows.length) (h1 : ∀ r ∈ rows, ∀ u ∈ r, u.oneCell' = true) :
    Calls Tryz.prog 76 #[v, .int .i64 i, .int .i64 ((i : Int) + 1)] w (InsSat (rows.eraseIdx i) 59 1 l) :=
  (delF_ownW 0 v rows i w h.ownW_ hi h1).mono fun e w' ⟨v', he, ho, hf, hk⟩ => ⟨v', he, h.grownW ho hf (fun k h => .inl (hk ▸ h))⟩
theorem delR_sat {v : Value} {rows : List (List Value)} {l : List Part} {w : World} (h : Sat (ownW v 29 2 rows :: l) w) (i : Nat) (hi : i < rows.length) (h1 : ∀ r ∈ rows, ∀ u ∈ r, u.oneCell' = true) :
    Calls Tryz.prog 61 #[v, .int .i64 i, .int .i64 ((i : Int) + 1)] w (InsSat (rows.eraseIdx i) 29 2 l) :=
  (delR_ownW 0 v rows i w h.ownW_ hi h1).mono fun e w' ⟨v', he, ho, hf, hk⟩ => ⟨v', he, h.grownW ho hf (fun k h => .inl (hk ▸ h))⟩
theorem slW {w : World} {base : Nat} {E : TypeId} {sz : Nat} {v : Value} {rows : List (List Value)} (h : OwnW w base E sz v rows) : ∃ A n c, v = .slice A n c := by
  obtain ⟨A, c, e, _⟩ := h.slv'
  exact ⟨A, _, c, e⟩
/-- Two blocks that lie apart in time. -/
theorem ownW_old {w : World} {E : TypeId} {sz : Nat} {v : Value} {rows : List (List Value)} (h : OwnW w 0 E sz v rows) {m : Nat} (hm : w.heap.size ≤ m) : v.ownBlock ≠ some m := fun e => by have := (h.lt m e).2; omega
theorem lfR_one {vs : List Value} {w : World} {P : List (List Rw)} {l : List Part} (h : Sat (pagesP vs P :: l) w) : ∀ r ∈ lfR vs, ∀ u ∈ r, u.oneCell' = true := by
  intro r hr u hu
  obtain ⟨v, hv, rfl⟩ := List.mem_map.1 hr
  simp only [List.mem_singleton] at hu
  subst hu
  obtain ⟨i, hi⟩ := List.mem_iff_getElem?.1 hv
  have hil := (List.getElem?_eq_some_iff.1 hi).1
  have hl := h.pagesLen
  obtain ⟨v', hv', ho⟩ := h.pageAt (List.getElem?_eq_getElem (show i < P.length by omega))
  rw [hi] at hv'
  injection hv' with hv'
  subst hv'
  obtain ⟨A, c, e, _⟩ := ho.slv'
  rw [e]; rfl
/-- A call that changes nothing but what is held. -/
def DonePost (ls : List Part) (e : Ending) (w' : World) : Prop := e = .returned (.tuple #[]) ∧ Sat ls w'
set_option maxHeartbeats 4000000 in
theorem stPart (p : Nat) (most : Int) (P : List (List Rw)) (k : Nat) (r : List Rw) (ls : List Part) (w : World) (h : Sat (stP p most P :: ls) w) (hk : P[k]? = some r) (hm : 2 ≤ most) (hl : P.length ≤ 1000000) (hr : r.length ≤ 1000000) :
    Calls Tryz.prog 60 #[.pointer (some ⟨p, 0, none⟩), .int .i64 k] w (DonePost (stP p most (putAt P k (partR most.toNat r)) :: ls)) := by
  obtain ⟨L, vs, hF, h2⟩ := h.stF
  refine via fun Q hQ => ?_
  have hkl := (List.getElem?_eq_some_iff.1 hk).1
  obtain ⟨A, c, rfl, hc, _, _⟩ := hF.leaves
  obtain ⟨b, v, rfl, hv, k1, f1, hO⟩ := hF.page hk
  obtain ⟨A2, c2, rfl, hc2, hA2, hR2⟩ := hO.slv'
  rw [rwR_len] at hc2 hO k1 hv
  have c0 := hF.b.at_ 0 rfl
  have c1 := hF.b.at_ 1 rfl
  have b2 : (0 : Int) ≤ (k : Int) := by omega
  have b3 : (k : Int) < (P.length : Int) := by omega
  by_cases hfull : (r.length : Int) ≤ most
  · have hpt : partR most.toNat r = [r] := if_neg (by omega)
    rw [hpt, put_same hk] at hQ
    have H := Lib.hid h
    clear h h2 hF hO hv hk hR2 hA2
    generalize r.length = nr at *
    generalize P.length = N at *
    go_enter Tryz.func60, Tryz.ntmps60
    go_wp2_with fail
    all_goals
      refine Great.bodyPost_end0 rfl rfl ?_
      exact hQ _ _ ⟨rfl, H.out⟩
  · have hpt : partR most.toNat r = [r.take (r.length / 2), r.drop (r.length / 2)] := if_pos (by omega)
    rw [hpt, ← put_two hk] at hQ
    have hrne : rwR r ≠ [] := fun e => by have h9 := congrArg List.length e; rw [rwR_len] at h9; have h8 : r.length = 0 := h9; omega
    obtain ⟨g, c3, e3, _, hcm⟩ := hO.some_ hrne
    injection e3 with e3 e5 e4
    clear e5
    subst e3 e4
    have hh : r.length / 2 < r.length := by omega
    have hh1 : 1 ≤ r.length / 2 := by omega
    have hfl := put_flat2 (a := r.take (r.length / 2)) (b := r.drop (r.length / 2)) hk (List.take_append_drop _ _)
    have hvl := hF.v
    obtain ⟨v', hv', h3⟩ := h2.s2.pageOut hk
    rw [hv] at hv'
    injection hv' with hv'
    subst hv'
    have hdl : (rwR r).drop (r.length / 2) = rwR (r.drop (r.length / 2)) := by rw [rwR, ← List.map_drop]; rfl
    have htl : (rwR r).take (r.length / 2) = rwR (r.take (r.length / 2)) := by rw [rwR, ← List.map_take]; rfl
    have hcl := fun x (hb : Below w.heap.size w x) => clR_ro (some ⟨g, r.length / 2 * 2, none⟩) (c2 - r.length / 2) ((rwR r).drop (r.length / 2)) x (by rw [List.length_drop, rwR_len]; omega) (fun e => by cases e) (by have h9 := rows_dropN hR2 (r.length / 2); rw [Nat.zero_add] at h9; exact h9.below hb) (fun a e => by injection e with e; subst e; rfl) (fun y hy => hO.2 y (List.mem_of_mem_drop hy)) (fun y hy => rwR_one r y (List.mem_of_mem_drop hy)) (by rw [List.length_drop, rwR_len]; omega)
    have hd1 : ((rwR r).drop (r.length / 2)).length = r.length - r.length / 2 := by rw [List.length_drop, rwR_len]
    rw [hd1, hdl] at hcl
    have HCl := Lib.hid hcl
    have H3 := Lib.hid h3
    have HTl := Lib.hid htl
    have HV := Lib.hid hv
    have HFl := Lib.hid hfl
    have hrl := rwR_len r
    have hld : (r.drop (r.length / 2)).length = r.length - r.length / 2 := List.length_drop
    clear hcl h3 htl hfl h h2 hF hO hv hk hR2 hA2 hpt hrne hd1 hdl
    generalize r.take (r.length / 2) = ra at *
    generalize r.drop (r.length / 2) = rb at *
    have hne1 : ¬ c2 = r.length / 2 := by omega
    have hq : ((r.length : Int) / 2) = ((r.length / 2 : Nat) : Int) := by omega
    have HRl := Lib.hid hrl
    have HLd := Lib.hid hld
    clear hrl hld
    generalize hnr : r.length = nr at *
    generalize hN : P.length = N at *
    have HN := Lib.hid hN
    clear hN
    generalize nr / 2 = hf at *
    have g1 : hf ≤ c2 := by omega
    have g2 : (hf : Int) ≤ (c2 : Int) := by omega
    have g3 : (0 : Int) ≤ (hf : Int) := by omega
    have hp0 : (0 : Int) ≤ (nr : Int) := by omega
    go_enter Tryz.func60, Tryz.ntmps60
    go_wp2_with fail
    (with_reducible refine (HCl.out _ (Below.refl _ _)).mono ?_)
    rintro e w1 ⟨v1, rfl, ho1, hb1⟩
    obtain ⟨A1, d1, hv1, hd1, _, _⟩ := ho1.slv'
    rw [rwR_len, HLd.out] at hv1 hd1
    subst hv1
    have HS1 := Lib.hid ((H3.out.made hb1 ho1).alloc #[.slice A1 (nr - hf) d1] 59)
    have c0 := (hb1.cell (World.block_lt_of_cell? w _ c0)).trans c0
    have c1 := (hb1.cell (World.block_lt_of_cell? w _ c1)).trans c1
    have f1 := (hb1.frozen (World.block_lt_of_cell? w _ k1)).trans f1
    have k1 := (hb1.cell (World.block_lt_of_cell? w _ k1)).trans k1
    clear ho1 hb1 hd1 H3 HCl
    go_wp2_with fail
    have q1 : World.cell? (w1.alloc (.cells #[.slice A1 (nr - hf) d1] 59)).drew ⟨p, 1, none⟩ = _ := upA c1 _
    have q2 : World.cell? (w1.alloc (.cells #[.slice A1 (nr - hf) d1] 59)).drew ⟨b, k, none⟩ = _ := upA k1 _
    have q3 : World.frozen? (w1.alloc (.cells #[.slice A1 (nr - hf) d1] 59)).drew ⟨b, k, none⟩ = _ := (((Below.refl w1.heap.size w1).alloc (Nat.le_refl _) (.cells #[.slice A1 (nr - hf) d1] 59)).frozen (World.block_lt_of_cell? w1 _ k1)).trans f1
    have p1 : World.cell? (w1.alloc (.cells #[.slice A1 (nr - hf) d1] 59)) ⟨p, 1, none⟩ = _ := upA c1 _
    clear c1 k1 f1 c0
    generalize w1.heap.size = m at *
    generalize w1.alloc (.cells #[.slice A1 (nr - hf) d1] 59) = w2 at *
    go_still_tail 9, (by kernel_rfl)
    change wpList _ _ _ _ _ w2.drew
    have HS1 := Lib.hid HS1.out.drew
    generalize w2.drew = w3 at *
    have hS2 := HS1.out.s2.cutW hf (by rw [rwR_len, hnr]; omega)
    rw [HTl.out] at hS2
    have hS3 := hS2.s5.setOwnW (i := k) (r := [.slice (some ⟨g, 0, none⟩) nr c2]) (lfR_at HV.out) 0 (by decide) (.slice (some ⟨g, 0, none⟩) hf hf)
    rw [Nat.mul_one, Nat.add_zero, show [Value.slice (some ⟨g, 0, none⟩) nr c2].set 0 (.slice (some ⟨g, 0, none⟩) hf hf) = [Value.slice (some ⟨g, 0, none⟩) hf hf] from rfl, ← lfR_set] at hS3
    have hS4 := hS3.s1.s4.s1.s2.s1
    have hS5 := (hS4.s2.s1.pageBack (by rw [HN.out]; exact hkl) (by rw [HN.out]; exact hvl)).s1.s4.s1
    have r1 := hS5.s1.blk_.at_ 1 rfl
    have r2 := hS5.s3.blk_.at_ 0 rfl
    simp only [List.getElem_toArray, List.getElem_cons_succ, List.getElem_cons_zero] at r1 r2
    have HS5 := Lib.hid hS5
    clear hS2 hS3 hS4 hS5 HS1
    go_wp2_with fail
    generalize w3.setCell ⟨b, k, none⟩ (.slice (some ⟨g, 0, none⟩) hf hf) = w4 at *
    have HIns := Lib.hid (show ∀ x, Below w4.heap.size w4 x → Blk x w4.heap.size #[.slice A1 (nr - hf) d1] 59 → Calls Tryz.prog 75 #[.slice (some ⟨b, 0, none⟩) N c, .int .i64 ((k : Int) + 1), .slice (some ⟨w4.heap.size, 0, none⟩) 1 1] x _ from fun x hb hB =>
      insF_sat (HS5.out.below hb) (k + 1) w4.heap.size [.slice A1 (nr - hf) d1] (by rw [lfR_len, List.length_set]; omega) (lfR_one HS5.out.s2) hB rfl (by simp [Value.oneCell']) (ownW_old HS5.out.ownW_ (Nat.le_refl _)) (by rw [lfR_len, List.length_set]; omega))
    clear q1 q2 q3 p1
    have hsum : IntKind.i64.wrap ((k : Int) + 1) = (k : Int) + 1 := IntWalk.i64_in _ (by omega)
    have e1 : World.cell? w4.drew ⟨p, 1, none⟩ = _ := r1
    have e2 : World.cell? w4.drew ⟨m, 0, none⟩ = _ := r2
    have e3 : World.cell? (w4.drew.alloc (.cells #[.slice A1 (nr - hf) d1] 59)) ⟨p, 1, none⟩ = _ := upA e1 _
    have e4 : World.cell? (w4.alloc (.cells #[.slice A1 (nr - hf) d1] 59)).drew ⟨p, 1, none⟩ = _ := upA r1 _
    go_region_with (first | (go_at_call 75; refine (HIns.out _ (by first | exact (Below.refl _ _).alloc (Nat.le_refl _) _ | exact ((Below.refl _ _).alloc (Nat.le_refl _) _).drew) (by exact Blk.new _ _ _)).mono ?_; rintro e w5 ⟨L5, rfl, hS6⟩; obtain ⟨A5, n5, c5, rfl⟩ := slW hS6.ownW_; have r5 := hS6.s1.blk_.at_ 1 rfl; have f5 := hS6.s1.blk_.free 1; simp only [List.getElem_toArray, List.getElem_cons_succ, List.getElem_cons_zero] at r5; have HS6 := Lib.hid hS6; clear hS6))
    all_goals
      refine Great.bodyPost_end0 rfl rfl ?_
      refine hQ _ _ ⟨rfl, ?_⟩
      have hS7 := HS6.out
      rw [lfR_ins _ _ _ (by rw [List.length_set]; have := hvl; omega)] at hS7
      have hS8 : Sat (stB p most P.flatten.length (.slice A5 n5 c5) :: _) _ := hS7.s1.set 1 (.slice A5 n5 c5)
      have hS9 := (hS8.s3.drop.s3.toW.s3.s1.pageIn (k + 1) (by rw [List.length_set]; have := HN.out; omega)).s2.s2
      exact hS9.shutSt (by rw [HFl.out])
end Go.Proofs.YtlekfpeonehggaaGreatDoor
end
