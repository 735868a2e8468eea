/- PageHolds, walked. -/
import Derived.Test.YtlekfpeonehggaaPo
set_option linter.unusedVariables false
set_option linter.unusedSimpArgs false
set_option maxRecDepth 100000
namespace Go.Proofs.Ytlekfpeonehggaa
open Go.Proofs.BL Go.Proofs.Peel Go.RowKit Go.Proofs.Ky

theorem Sat.fixR {l : List Part} {w w' : World} {v : Value} {E : TypeId} {rows : List Rw} (h : Sat l w) (hb : Below w.heap.size w w') (ho : Own w' w.heap.size E 2 v (rwR rows)) (ht : isErrT E = false := by rfl) :
    ∃ A c, v = .slice A rows.length c ∧ rows.length ≤ c ∧ Sat (roR 2 A (rwR rows) :: l) w' := by
  obtain ⟨A, c, e, hc, _, hS⟩ := (h.made hb ho ht).still
  rw [rwR_len] at e hc
  exact ⟨A, c, e, hc, hS⟩
def sNil : ByteArray := ⟨#[]⟩
theorem scan_all (l : List Rw) : l.filter (scB ⟨#[]⟩ ⟨#[]⟩) = l := by
  refine List.filter_eq_self.2 (fun r _ => ?_)
  unfold scB
  rw [nil_tx]
  simp
set_option maxHeartbeats 16000000 in
theorem lawHolds (a b : Int) (l : List Opp) (A0 : Option Addr) (c0 : Nat) (W : World) (hc0 : l.length ≤ c0) (hr0 : RowsAt W 4 A0 (rwP l)) (hm0 : l.length ≤ 9223372036854775807) :
    Calls Try.prog 4 #[.int .i64 a, .int .i64 b, .slice A0 l.length c0] W (LawPost W) := by
  refine via fun Q hQ => ?_
  by_cases hab : (2 ≤ a ∧ a ≤ 64) ∧ (2 ≤ b ∧ b ≤ 64)
  · obtain ⟨⟨ha1, ha2⟩, hb1, hb2⟩ := hab
    have HN := Lib.hid (stNew a _ W (Sat.start W) ha1 ha2)
    have n1 : ¬ (a < 2) := by omega
    have n2 : ¬ (a > 64) := by omega
    have n3 : ¬ (b < 2) := by omega
    have n4 : ¬ (b > 64) := by omega
    have HR := Lib.hid hr0
    clear hr0
    generalize hN : l.length = N at *
    have HNL := Lib.hid hN
    clear hN
    go_enter Try.func4, Try.ntmps4
    go_wp2_with fail
    (with_reducible refine HN.out.mono ?_)
    rintro e w1 ⟨p, rfl, hS⟩
    have HN2 := Lib.hid (stNew b _ w1 hS hb1 hb2)
    clear hS HN
    go_wp2_with fail
    (with_reducible refine HN2.out.mono ?_)
    rintro e w2 ⟨q, rfl, hS⟩
    have HS := Lib.hid (hS.s1.roNil 2 none).s2.s2
    clear hS HN2
    go_wp2_with fail
    go_loopg [6, 11, 49] N (fun g x6 x11 x49 wr => ∃ (j : Nat) (rows : List Rw) (A : Option Addr) (c : Nat) (Ps Pt : List (List Rw)), j ≤ N ∧ j ≤ 60 ∧ g = N - j ∧ x6 = .bool false ∧ x49 = .int .i64 j ∧ x11 = .slice A rows.length c ∧ Hid (rows.length ≤ c) ∧ Hid (rows.length ≤ j) ∧ Hid (HoldP a rows Ps) ∧ Hid (HoldP b rows Pt) ∧ Hid (Sat (stP p a Ps :: stP q b Pt :: roR 2 A (rwR rows) :: old W :: []) wr))
    case atStart => exact ⟨0, [], none, 0, [], [], Nat.zero_le _, Nat.zero_le _, rfl, rfl, rfl, rfl, Lib.hid (Nat.le_refl _), Lib.hid (Nat.le_refl _), Lib.hid ⟨good_nil a, rfl⟩, Lib.hid ⟨good_nil b, rfl⟩, HS⟩
    case round =>
      obtain ⟨j, rows, A, c, Ps, Pt, hj, hj60, rfl, rfl, rfl, rfl, HCc, HRj, HP, HT, HSr⟩ := hrel
      have hex : ∀ (hend : j = N ∨ j = 60), True := fun _ => trivial
      by_cases hgo : j < N ∧ j < 60
      · obtain ⟨hlt, hlt60⟩ := hgo
        have hx : l[j]? = some (l[j]'(by rw [HNL.out]; exact hlt)) := List.getElem?_eq_getElem _
        generalize l[j]'(by rw [HNL.out]; exact hlt) = o at hx
        obtain ⟨b3, o3, rfl, d0, d1, d2, d3⟩ := oppAt (HR.out.below HSr.out.s3.old_) hx
        have HSm := Lib.hid (fun x => lsmall o x)
        have hsl := step_len (o := o) (rows := rows) (HP.out.f ▸ HP.out.g.p.1)
        obtain ⟨k, key, tt, n⟩ := o
        simp only at d0 d1 d2 d3 HSm
        have hstep : stepR ⟨k, key, tt, n⟩ rows = if k ≤ 2 then if (cut20 key).size ≤ 16 then withR tx (cut20 key) (some n) rows else rows else withR tx (cut20 key) none rows := rfl
        unfold SmallPost at HSm
        simp only at HSm
        generalize cut20 key = ck at *
        generalize cut20 tt = ct at *
        have HSt := Lib.hid hstep
        generalize stepR ⟨k, key, tt, n⟩ rows = rows' at *
        have h60 : ¬ ((j : Int) ≥ 60) := by omega
        have HS1 := Lib.hid (HSr.out.alloc #[.int .i64 k, .string key, .string tt, .int .i64 n] 36)
        clear hx hstep HSr
        generalize hm : wr.heap.size = m at *
        go_wp2_with fail
        clear hm
        generalize wr.alloc (.cells #[.int .i64 k, .string key, .string tt, .int .i64 n] 36) = wa at *
        (with_reducible refine (HSm.out _).mono ?_)
        rintro e w2 ⟨rfl, hb2⟩
        have hS2 := HS1.out.below hb2
        have m0 := hS2.blk_.at_ 0 rfl
        have m1 := hS2.blk_.at_ 1 rfl
        have m2 := hS2.blk_.at_ 2 rfl
        have m3 := hS2.blk_.at_ 3 rfl
        have f0 := hS2.blk_.free 0
        have f1 := hS2.blk_.free 1
        have f2 := hS2.blk_.free 2
        have f3 := hS2.blk_.free 3
        simp only [List.getElem_toArray, List.getElem_cons_succ, List.getElem_cons_zero] at m0 m1 m2 m3
        have HS2 := Lib.hid (((hS2.set 0 (.int .i64 k)).set 1 (.string ck)).set 2 (.string ct) |>.set 3 (.int .i64 n))
        clear hS2 hb2 HS1
        have HS3 : Hid (Sat (stP p a Ps :: stP q b Pt :: roR 2 A (rwR rows) :: old W :: blk m #[.int .i64 k, .string ck, .string ct, .int .i64 n] 36 :: []) ((((w2.setCell ⟨m, 0, none⟩ (.int .i64 k)).setCell ⟨m, 1, none⟩ (.string ck)).setCell ⟨m, 2, none⟩ (.string ct)).setCell ⟨m, 3, none⟩ (.int .i64 n))) := Lib.hid HS2.out.t4
        clear HS2
        have hrl256 : rows.length < 256 := by have := HRj.out; omega
        have hnx : rows'.length ≤ j + 1 := by have := HRj.out; omega
        by_cases hk : k ≤ 2
        · obtain ⟨e1, h1⟩ := hold_put ha1 HP.out hrl256 ck n
          obtain ⟨e2, h2⟩ := hold_put hb1 HT.out hrl256 ck n
          have hp1 := fun x l (h : Sat (stP p a Ps :: l) x) => stPut p a Ps ck n l x h HP.out.g.p HP.out.g.t ha1 HP.out.g.l
          have hp2 := fun x l (h : Sat (stP q b Pt :: l) x) => stPut q b Pt ck n l x h HT.out.g.p HT.out.g.t hb1 HT.out.g.l
          generalize putV a ck n Ps = r1 at *
          generalize putV b ck n Pt = r2 at *
          obtain ⟨P1, c1⟩ := r1
          obtain ⟨P2, c2⟩ := r2
          simp only at e1 e2 h1 h2
          have hw1 := with_calls A c rows ck n true
          rw [withX_eq, if_pos rfl] at hw1
          have hst := HSt.out
          rw [if_pos hk] at hst
          have HP2f := Lib.hid (fun x l h => hp2 x l h)
          have HP1f := Lib.hid (fun x l h => hp1 x l h)
          clear hp1 hp2
          by_cases h16 : ck.size ≤ 16
          · rw [if_pos h16] at e1 e2 h1 h2 hst
            subst e1 e2
            rw [← hst] at h1 h2 hw1
            have HW1 := Lib.hid hw1
            have H1 := Lib.hid h1
            have H2 := Lib.hid h2
            have hle : (ck.size : Int) ≤ 16 := by omega
            clear h1 h2 hw1 hst
            go_wp2_with fail
            clear m0 m1 m2 m3 f0 f1 f2 f3
            generalize (((w2.setCell ⟨m, 0, none⟩ (.int .i64 k)).setCell ⟨m, 1, none⟩ (.string ck)).setCell ⟨m, 2, none⟩ (.string ct)).setCell ⟨m, 3, none⟩ (.int .i64 n) = w3 at *
            have m1 := HS3.out.s4.blk_.at_ 1 rfl
            have m3 := HS3.out.s4.blk_.at_ 3 rfl
            simp only [List.getElem_toArray, List.getElem_cons_succ, List.getElem_cons_zero] at m1 m3
            have HP1 := Lib.hid (HP1f.out w3.drew _ HS3.out.drew)
            refine Rg.beginH (fun x => x.cell? ⟨m, 1, none⟩ = some (.string ck) ∧ x.cell? ⟨m, 3, none⟩ = some (.int .i64 n)) (by kernel_rfl) ?_
            have hS0 : (fun x => x.cell? ⟨m, 1, none⟩ = some (.string ck) ∧ x.cell? ⟨m, 3, none⟩ = some (.int .i64 n)) (World.drew w3) := ⟨m1, m3⟩
            refine Rg.takeH (i := 0) (v := ?_) rfl (by kernel_rfl) (fun _ _ _ h => h) hS0 (Or.inl ⟨by rfl, ?_⟩) ?_
            rotate_left
            · ((intro w hSw; (try dsimp only at hSw); go_simp) <;> (with_reducible rfl))
            try simp only [Act.put, List.setIfInBounds_toArray, List.set_cons_zero, List.set_cons_succ]
            refine Rg.takeH (i := 1) (v := ?_) rfl (by kernel_rfl) (fun _ _ _ h => h) hS0 (Or.inl ⟨by rfl, ?_⟩) ?_
            rotate_left
            · ((intro w hSw; (try dsimp only at hSw); go_simp) <;> (with_reducible rfl))
            try simp only [Act.put, List.setIfInBounds_toArray, List.set_cons_zero, List.set_cons_succ]
            refine Rg.takeH (i := 2) (v := ?_) rfl (by kernel_rfl) (fun _ _ _ h => h) hS0 (Or.inl ⟨by rfl, ?_⟩) ?_
            rotate_left
            · ((intro w hSw; (try dsimp only at hSw); go_simp) <;> (with_reducible rfl))
            try simp only [Act.put, List.setIfInBounds_toArray, List.set_cons_zero, List.set_cons_succ]
            refine Rg.takeH (i := 3) (v := ?_) rfl (by kernel_rfl) (fun _ _ _ h => h) hS0 (Or.inl ⟨by rfl, ?_⟩) ?_
            rotate_left
            · ((intro w hSw; (try dsimp only at hSw); go_simp) <;> (with_reducible rfl))
            try simp only [Act.put, List.setIfInBounds_toArray, List.set_cons_zero, List.set_cons_succ]
            refine Rg.takeH (i := 4) (v := ?_) rfl (by kernel_rfl) (fun _ _ _ h => h) hS0 (Or.inl ⟨by rfl, ?_⟩) ?_
            rotate_left
            · ((intro w hSw; (try dsimp only at hSw); go_simp) <;> (with_reducible rfl))
            try simp only [Act.put, List.setIfInBounds_toArray, List.set_cons_zero, List.set_cons_succ]
            refine Rg.takeH (i := 6) (v := ?_) rfl (by kernel_rfl) (fun _ _ _ h => h) hS0 (Or.inl ⟨by rfl, ?_⟩) ?_
            rotate_left
            · ((intro w hSw; (try dsimp only at hSw); go_simp) <;> (with_reducible rfl))
            try simp only [Act.put, List.setIfInBounds_toArray, List.set_cons_zero, List.set_cons_succ]
            refine Rg.takeH (i := 7) (v := ?_) rfl (by kernel_rfl) (fun _ _ _ h => h) hS0 (Or.inl ⟨by rfl, ?_⟩) ?_
            rotate_left
            · ((intro w hSw; (try dsimp only at hSw); go_simp) <;> (with_reducible rfl))
            try simp only [Act.put, List.setIfInBounds_toArray, List.set_cons_zero, List.set_cons_succ]
            refine Rg.takeH (i := 8) (v := ?_) rfl (by kernel_rfl) (fun _ _ _ h => h) hS0 (Or.inl ⟨by rfl, ?_⟩) ?_
            rotate_left
            · ((intro w hSw; (try dsimp only at hSw); go_simp) <;> (with_reducible rfl))
            try simp only [Act.put, List.setIfInBounds_toArray, List.set_cons_zero, List.set_cons_succ]
            refine Rg.takeH (i := 9) (v := ?_) rfl (by kernel_rfl) (fun _ _ _ h => h) hS0 (Or.inl ⟨by rfl, ?_⟩) ?_
            rotate_left
            · ((intro w hSw; (try dsimp only at hSw); go_simp) <;> (with_reducible rfl))
            try simp only [Act.put, List.setIfInBounds_toArray, List.set_cons_zero, List.set_cons_succ]
            refine Rg.takeH (i := 10) (v := ?_) rfl (by kernel_rfl) (fun _ _ _ h => h) hS0 (Or.inl ⟨by rfl, ?_⟩) ?_
            rotate_left
            · ((intro w hSw; (try dsimp only at hSw); go_simp) <;> (with_reducible rfl))
            try simp only [Act.put, List.setIfInBounds_toArray, List.set_cons_zero, List.set_cons_succ]
            refine Rg.oneH (i := 5) rfl (by kernel_rfl) (fun K hK => ?_)
            go_simp
            (with_reducible refine HP1.out.mono ?_)
            rintro e w4 ⟨rfl, hS4⟩
            have u1 := hS4.s4.blk_.at_ 1 rfl
            have u3 := hS4.s4.blk_.at_ 3 rfl
            simp only [List.getElem_toArray, List.getElem_cons_succ, List.getElem_cons_zero] at u1 u3
            have HP2 := Lib.hid (HP2f.out w4 _ hS4.s1)
            clear hS4 HP1
            change K _ _
            have hS1 : (fun x => x.cell? ⟨m, 1, none⟩ = some (.string ck) ∧ x.cell? ⟨m, 3, none⟩ = some (.int .i64 n)) w4 := ⟨u1, u3⟩
            refine hK.out _ _ hS1 ?_
            clear hK K
            try simp only [Act.put, List.setIfInBounds_toArray, List.set_cons_zero, List.set_cons_succ]
            refine Rg.oneH (i := 11) rfl (by kernel_rfl) (fun K hK => ?_)
            go_simp
            (with_reducible refine HP2.out.mono ?_)
            rintro e w5 ⟨rfl, hS5⟩
            have v1 := hS5.s4.blk_.at_ 1 rfl
            have v3 := hS5.s4.blk_.at_ 3 rfl
            simp only [List.getElem_toArray, List.getElem_cons_succ, List.getElem_cons_zero] at v1 v3
            have HS5 := Lib.hid hS5.s1
            clear hS5 HP2
            change K _ _
            have hS2 : (fun x => x.cell? ⟨m, 1, none⟩ = some (.string ck) ∧ x.cell? ⟨m, 3, none⟩ = some (.int .i64 n)) w5 := ⟨v1, v3⟩
            refine hK.out _ _ hS2 ?_
            clear hK K
            try simp only [Act.put, List.setIfInBounds_toArray, List.set_cons_zero, List.set_cons_succ]
            refine Rg.oneH (i := 12) rfl (by kernel_rfl) (fun K hK => ?_)
            go_simp
            refine hK.out _ _ hS2 ?_
            clear hK K
            try simp only [Act.put, List.setIfInBounds_toArray, List.set_cons_zero, List.set_cons_succ]
            refine wpAnyH_done (by kernel_rfl) ?_ _
            have HS6 := Lib.hid HS5.out
            clear hS0 hS1 hS2 u1 u3
            go_wp2_with fail
            (with_reducible refine (HW1.out w5 HS6.out.s2.rows_ (by have := HRj.out; omega) HCc.out).mono ?_)
            rintro e w6 ⟨v6, rfl, ho6, hb6⟩
            obtain ⟨A6, c6, rfl, hc6, hS7⟩ := (HS6.out.s2.drop).fixR hb6 ho6
            have HS7 := Lib.hid (hS7.s2.s2).s4.drop
            have HC6 := Lib.hid hc6
            clear ho6 hb6 hS7 hc6 HS6 HW1 HS5
            go_wp2_with fail
            go_roundg (N - (j + 1))
            case measure => omega
            case rel => exact ⟨j + 1, rows', A6, c6, P1, P2, by omega, by omega, rfl, rfl, rfl, rfl, HC6, Lib.hid hnx, H1, H2, HS7⟩
          · rw [if_neg h16] at e1 e2 h1 h2 hst
            subst e1 e2
            subst hst
            have H1 := Lib.hid h1
            have H2 := Lib.hid h2
            have hle : ¬ ((ck.size : Int) ≤ 16) := by omega
            clear h1 h2 hw1
            go_wp2_with fail
            clear m0 m1 m2 m3 f0 f1 f2 f3
            generalize (((w2.setCell ⟨m, 0, none⟩ (.int .i64 k)).setCell ⟨m, 1, none⟩ (.string ck)).setCell ⟨m, 2, none⟩ (.string ct)).setCell ⟨m, 3, none⟩ (.int .i64 n) = w3 at *
            have m1 := HS3.out.s4.blk_.at_ 1 rfl
            have m3 := HS3.out.s4.blk_.at_ 3 rfl
            simp only [List.getElem_toArray, List.getElem_cons_succ, List.getElem_cons_zero] at m1 m3
            have HP1 := Lib.hid (HP1f.out w3.drew _ HS3.out.drew)
            refine Rg.beginH (fun x => x.cell? ⟨m, 1, none⟩ = some (.string ck) ∧ x.cell? ⟨m, 3, none⟩ = some (.int .i64 n)) (by kernel_rfl) ?_
            have hS0 : (fun x => x.cell? ⟨m, 1, none⟩ = some (.string ck) ∧ x.cell? ⟨m, 3, none⟩ = some (.int .i64 n)) (World.drew w3) := ⟨m1, m3⟩
            refine Rg.takeH (i := 0) (v := ?_) rfl (by kernel_rfl) (fun _ _ _ h => h) hS0 (Or.inl ⟨by rfl, ?_⟩) ?_
            rotate_left
            · ((intro w hSw; (try dsimp only at hSw); go_simp) <;> (with_reducible rfl))
            try simp only [Act.put, List.setIfInBounds_toArray, List.set_cons_zero, List.set_cons_succ]
            refine Rg.takeH (i := 1) (v := ?_) rfl (by kernel_rfl) (fun _ _ _ h => h) hS0 (Or.inl ⟨by rfl, ?_⟩) ?_
            rotate_left
            · ((intro w hSw; (try dsimp only at hSw); go_simp) <;> (with_reducible rfl))
            try simp only [Act.put, List.setIfInBounds_toArray, List.set_cons_zero, List.set_cons_succ]
            refine Rg.takeH (i := 2) (v := ?_) rfl (by kernel_rfl) (fun _ _ _ h => h) hS0 (Or.inl ⟨by rfl, ?_⟩) ?_
            rotate_left
            · ((intro w hSw; (try dsimp only at hSw); go_simp) <;> (with_reducible rfl))
            try simp only [Act.put, List.setIfInBounds_toArray, List.set_cons_zero, List.set_cons_succ]
            refine Rg.takeH (i := 3) (v := ?_) rfl (by kernel_rfl) (fun _ _ _ h => h) hS0 (Or.inl ⟨by rfl, ?_⟩) ?_
            rotate_left
            · ((intro w hSw; (try dsimp only at hSw); go_simp) <;> (with_reducible rfl))
            try simp only [Act.put, List.setIfInBounds_toArray, List.set_cons_zero, List.set_cons_succ]
            refine Rg.takeH (i := 4) (v := ?_) rfl (by kernel_rfl) (fun _ _ _ h => h) hS0 (Or.inl ⟨by rfl, ?_⟩) ?_
            rotate_left
            · ((intro w hSw; (try dsimp only at hSw); go_simp) <;> (with_reducible rfl))
            try simp only [Act.put, List.setIfInBounds_toArray, List.set_cons_zero, List.set_cons_succ]
            refine Rg.takeH (i := 6) (v := ?_) rfl (by kernel_rfl) (fun _ _ _ h => h) hS0 (Or.inl ⟨by rfl, ?_⟩) ?_
            rotate_left
            · ((intro w hSw; (try dsimp only at hSw); go_simp) <;> (with_reducible rfl))
            try simp only [Act.put, List.setIfInBounds_toArray, List.set_cons_zero, List.set_cons_succ]
            refine Rg.takeH (i := 7) (v := ?_) rfl (by kernel_rfl) (fun _ _ _ h => h) hS0 (Or.inl ⟨by rfl, ?_⟩) ?_
            rotate_left
            · ((intro w hSw; (try dsimp only at hSw); go_simp) <;> (with_reducible rfl))
            try simp only [Act.put, List.setIfInBounds_toArray, List.set_cons_zero, List.set_cons_succ]
            refine Rg.takeH (i := 8) (v := ?_) rfl (by kernel_rfl) (fun _ _ _ h => h) hS0 (Or.inl ⟨by rfl, ?_⟩) ?_
            rotate_left
            · ((intro w hSw; (try dsimp only at hSw); go_simp) <;> (with_reducible rfl))
            try simp only [Act.put, List.setIfInBounds_toArray, List.set_cons_zero, List.set_cons_succ]
            refine Rg.takeH (i := 9) (v := ?_) rfl (by kernel_rfl) (fun _ _ _ h => h) hS0 (Or.inl ⟨by rfl, ?_⟩) ?_
            rotate_left
            · ((intro w hSw; (try dsimp only at hSw); go_simp) <;> (with_reducible rfl))
            try simp only [Act.put, List.setIfInBounds_toArray, List.set_cons_zero, List.set_cons_succ]
            refine Rg.takeH (i := 10) (v := ?_) rfl (by kernel_rfl) (fun _ _ _ h => h) hS0 (Or.inl ⟨by rfl, ?_⟩) ?_
            rotate_left
            · ((intro w hSw; (try dsimp only at hSw); go_simp) <;> (with_reducible rfl))
            try simp only [Act.put, List.setIfInBounds_toArray, List.set_cons_zero, List.set_cons_succ]
            refine Rg.oneH (i := 5) rfl (by kernel_rfl) (fun K hK => ?_)
            go_simp
            (with_reducible refine HP1.out.mono ?_)
            rintro e w4 ⟨rfl, hS4⟩
            have u1 := hS4.s4.blk_.at_ 1 rfl
            have u3 := hS4.s4.blk_.at_ 3 rfl
            simp only [List.getElem_toArray, List.getElem_cons_succ, List.getElem_cons_zero] at u1 u3
            have HP2 := Lib.hid (HP2f.out w4 _ hS4.s1)
            clear hS4 HP1
            change K _ _
            have hS1 : (fun x => x.cell? ⟨m, 1, none⟩ = some (.string ck) ∧ x.cell? ⟨m, 3, none⟩ = some (.int .i64 n)) w4 := ⟨u1, u3⟩
            refine hK.out _ _ hS1 ?_
            clear hK K
            try simp only [Act.put, List.setIfInBounds_toArray, List.set_cons_zero, List.set_cons_succ]
            refine Rg.oneH (i := 11) rfl (by kernel_rfl) (fun K hK => ?_)
            go_simp
            (with_reducible refine HP2.out.mono ?_)
            rintro e w5 ⟨rfl, hS5⟩
            have v1 := hS5.s4.blk_.at_ 1 rfl
            have v3 := hS5.s4.blk_.at_ 3 rfl
            simp only [List.getElem_toArray, List.getElem_cons_succ, List.getElem_cons_zero] at v1 v3
            have HS5 := Lib.hid hS5.s1
            clear hS5 HP2
            change K _ _
            have hS2 : (fun x => x.cell? ⟨m, 1, none⟩ = some (.string ck) ∧ x.cell? ⟨m, 3, none⟩ = some (.int .i64 n)) w5 := ⟨v1, v3⟩
            refine hK.out _ _ hS2 ?_
            clear hK K
            try simp only [Act.put, List.setIfInBounds_toArray, List.set_cons_zero, List.set_cons_succ]
            refine Rg.oneH (i := 12) rfl (by kernel_rfl) (fun K hK => ?_)
            go_simp
            refine hK.out _ _ hS2 ?_
            clear hK K
            try simp only [Act.put, List.setIfInBounds_toArray, List.set_cons_zero, List.set_cons_succ]
            refine wpAnyH_done (by kernel_rfl) ?_ _
            have HS7 := Lib.hid HS5.out.s4.drop
            clear hS0 hS1 hS2 u1 u3 HS5
            go_wp2_with fail
            go_roundg (N - (j + 1))
            case measure => omega
            case rel => exact ⟨j + 1, rows', A, c, P1, P2, by omega, by omega, rfl, rfl, rfl, rfl, HCc, Lib.hid hnx, H1, H2, HS7⟩
        · obtain ⟨e1, h1⟩ := hold_del HP.out ck
          obtain ⟨e2, h2⟩ := hold_del HT.out ck
          have hp1 := fun x l (h : Sat (stP p a Ps :: l) x) => stDel p a Ps ck l x h HP.out.g.p ha1 ha2 HP.out.g.l
          have hp2 := fun x l (h : Sat (stP q b Pt :: l) x) => stDel q b Pt ck l x h HT.out.g.p hb1 hb2 HT.out.g.l
          generalize delV a ck Ps = r1 at *
          generalize delV b ck Pt = r2 at *
          obtain ⟨P1, c1⟩ := r1
          obtain ⟨P2, c2⟩ := r2
          simp only at e1 e2 h1 h2
          have hw1 := with_calls A c rows ck 0 false
          rw [withX_eq, if_neg (by simp)] at hw1
          have hg1 := fun w h => rget A c rows ck w h (by have := HRj.out; omega) HCc.out
          unfold RGetPost at hg1
          have hst := HSt.out
          rw [if_neg hk] at hst
          rw [← hst] at h1 h2 hw1
          generalize (get ck rows).getD 0 = gd at *
          generalize (get ck rows).isSome = th at *
          subst e1 e2
          have HP2f := Lib.hid (fun x l h => hp2 x l h)
          have HP1f := Lib.hid (fun x l h => hp1 x l h)
          have HG1 := Lib.hid hg1
          have HW1 := Lib.hid hw1
          have H1 := Lib.hid h1
          have H2 := Lib.hid h2
          clear hp1 hp2 hg1 hw1 h1 h2 hst
          cases c2
          all_goals
            go_wp2_with fail
            clear m0 m1 m2 m3 f0 f1 f2 f3
            generalize (((w2.setCell ⟨m, 0, none⟩ (.int .i64 k)).setCell ⟨m, 1, none⟩ (.string ck)).setCell ⟨m, 2, none⟩ (.string ct)).setCell ⟨m, 3, none⟩ (.int .i64 n) = w3 at *
            (with_reducible refine (HG1.out w3 HS3.out.s2.rows_).mono ?_)
            rintro e w4 ⟨rfl, hb4⟩
            have hS4 := HS3.out.below hb4
            have m1 := hS4.s4.blk_.at_ 1 rfl
            simp only [List.getElem_toArray, List.getElem_cons_succ, List.getElem_cons_zero] at m1
            have HP1 := Lib.hid (HP1f.out w4 _ hS4)
            clear hb4 hS4 HG1
            go_wp2_with fail
            (with_reducible refine HP1.out.mono ?_)
            rintro e w5 ⟨rfl, hS5⟩
            have m1 := hS5.s4.blk_.at_ 1 rfl
            simp only [List.getElem_toArray, List.getElem_cons_succ, List.getElem_cons_zero] at m1
            have HP2 := Lib.hid (HP2f.out w5 _ hS5.s1)
            clear hS5 HP1
            go_wp2_with fail
            (with_reducible refine HP2.out.mono ?_)
            rintro e w6 ⟨rfl, hS6⟩
            have m1 := hS6.s4.blk_.at_ 1 rfl
            simp only [List.getElem_toArray, List.getElem_cons_succ, List.getElem_cons_zero] at m1
            have HW2 := Lib.hid (HW1.out w6 hS6.s2.rows_ (by have := HRj.out; omega) HCc.out)
            have HS6 := Lib.hid hS6
            clear hS6 HP2 HW1
            go_wp2_with fail
            (with_reducible refine HW2.out.mono ?_)
            rintro e w7 ⟨v7, rfl, ho7, hb7⟩
            obtain ⟨A7, c7, rfl, hc7, hS7⟩ := (HS6.out.s2.drop).fixR hb7 ho7
            have HS7 := Lib.hid (hS7.s1.s2).s4.drop
            have HC7 := Lib.hid hc7
            clear ho7 hb7 hS7 hc7 HS6 HW2
            go_wp2_with fail
            go_roundg (N - (j + 1))
            case measure => omega
            case rel => exact ⟨j + 1, rows', A7, c7, P1, P2, by omega, by omega, rfl, rfl, rfl, rfl, HC7, Lib.hid hnx, H1, H2, HS7⟩
      · have hrn : rows.length ≤ 60 := by have := HRj.out; omega
        have hl1 : Ps.flatten.length ≤ 100000 := by rw [HP.out.f]; omega
        have hl2 : Pt.flatten.length ≤ 100000 := by rw [HT.out.f]; omega
        have hsc1 : ∀ x, Below wr.heap.size wr x → Calls Try.prog 16 #[.pointer (some ⟨p, 0, none⟩), .string ⟨#[]⟩, .string ⟨#[]⟩] x (ScanPost rows x) := fun x hb => by
          obtain ⟨L2, vs2, hF2, _⟩ := (HSr.out.below hb).stF
          have h9 := stScan p a _ L2 vs2 Ps ⟨#[]⟩ ⟨#[]⟩ x hF2 hl1 (Nat.le_trans (pgs_len HP.out.g.p) hl1)
          rw [scan_all, HP.out.f] at h9
          exact h9
        have hsc2 : ∀ x, Below wr.heap.size wr x → Calls Try.prog 16 #[.pointer (some ⟨q, 0, none⟩), .string ⟨#[]⟩, .string ⟨#[]⟩] x (ScanPost rows x) := fun x hb => by
          obtain ⟨L2, vs2, hF2, _⟩ := (HSr.out.below hb).s1.stF
          have h9 := stScan q b _ L2 vs2 Pt ⟨#[]⟩ ⟨#[]⟩ x hF2 hl2 (Nat.le_trans (pgs_len HT.out.g.p) hl2)
          rw [scan_all, HT.out.f] at h9
          exact h9
        have HC1 := Lib.hid hsc1
        have HC2 := Lib.hid hsc2
        clear hsc1 hsc2 hl1 hl2
        rcases (show j = N ∨ (j < N ∧ j = 60) from by omega) with hend | ⟨hend, h60⟩
        · obtain rfl : j = N := hend
          go_wp2_with fail
          (with_reducible refine (HC1.out _ (Below.refl _ _)).mono ?_)
          rintro e w5 ⟨v5, rfl, ho5, hb5⟩
          obtain ⟨A5, c5, rfl, hc5, hS5⟩ := (HSr.out.below (Below.refl _ _)).fixR hb5 ho5
          have HR5 := Lib.hid (rrows A5 A c5 c rows w5 hS5.rows_ hS5.s3.rows_ (by omega) hc5 HCc.out)
          have HB5 := Lib.hid (below_then (Below.refl _ _) hb5)
          clear ho5 hb5 hS5 hc5 HC1
          go_wp2_with fail
          (with_reducible refine HR5.out.mono ?_)
          rintro e w6 ⟨rfl, hb6⟩
          have HB6 := Lib.hid (below_then HB5.out hb6)
          clear hb6 HR5 HB5
          go_wp2_with fail
          (with_reducible refine (HC2.out _ HB6.out).mono ?_)
          rintro e w7 ⟨v7, rfl, ho7, hb7⟩
          obtain ⟨A7, c7, rfl, hc7, hS7⟩ := (HSr.out.below HB6.out).fixR hb7 ho7
          have HR7 := Lib.hid (rrows A7 A c7 c rows w7 hS7.rows_ hS7.s3.rows_ (by omega) hc7 HCc.out)
          have HS7 := Lib.hid hS7.s4
          clear ho7 hb7 hS7 hc7 HC2 HB6
          go_wp2_with fail
          (with_reducible refine HR7.out.mono ?_)
          rintro e w8 ⟨rfl, hb8⟩
          have HA := Lib.hid (lawake _ w8 (HS7.out.below hb8))
          clear hb8 HR7 HS7
          go_wp2_with fail
          (with_reducible refine HA.out.mono ?_)
          rintro e w9 ⟨rfl, hS9⟩
          have HB := Lib.hid hS9.old_
          clear hS9
          go_wp2_with fail
          exact ⟨rfl, HB.out⟩
        · subst h60
          have hx : l[60]? = some (l[60]'(by rw [HNL.out]; exact hend)) := List.getElem?_eq_getElem _
          generalize l[60]'(by rw [HNL.out]; exact hend) = o at hx
          obtain ⟨b3, o3, rfl, d0, d1, d2, d3⟩ := oppAt (HR.out.below HSr.out.s3.old_) hx
          obtain ⟨k, key, tt, n⟩ := o
          simp only at d0 d1 d2 d3
          have HBa := Lib.hid (show Below wr.heap.size wr (wr.alloc (.cells #[.int .i64 k, .string key, .string tt, .int .i64 n] 36)) from (Below.refl _ _).alloc (Nat.le_refl _) _)
          clear hx
          go_wp2_with fail
          (with_reducible refine (HC1.out _ HBa.out).mono ?_)
          rintro e w5 ⟨v5, rfl, ho5, hb5⟩
          obtain ⟨A5, c5, rfl, hc5, hS5⟩ := (HSr.out.below HBa.out).fixR hb5 ho5
          have HR5 := Lib.hid (rrows A5 A c5 c rows w5 hS5.rows_ hS5.s3.rows_ (by omega) hc5 HCc.out)
          have HB5 := Lib.hid (below_then HBa.out hb5)
          clear ho5 hb5 hS5 hc5 HC1
          go_wp2_with fail
          (with_reducible refine HR5.out.mono ?_)
          rintro e w6 ⟨rfl, hb6⟩
          have HB6 := Lib.hid (below_then HB5.out hb6)
          clear hb6 HR5 HB5
          go_wp2_with fail
          (with_reducible refine (HC2.out _ HB6.out).mono ?_)
          rintro e w7 ⟨v7, rfl, ho7, hb7⟩
          obtain ⟨A7, c7, rfl, hc7, hS7⟩ := (HSr.out.below HB6.out).fixR hb7 ho7
          have HR7 := Lib.hid (rrows A7 A c7 c rows w7 hS7.rows_ hS7.s3.rows_ (by omega) hc7 HCc.out)
          have HS7 := Lib.hid hS7.s4
          clear ho7 hb7 hS7 hc7 HC2 HB6
          go_wp2_with fail
          (with_reducible refine HR7.out.mono ?_)
          rintro e w8 ⟨rfl, hb8⟩
          have HA := Lib.hid (lawake _ w8 (HS7.out.below hb8))
          clear hb8 HR7 HS7
          go_wp2_with fail
          (with_reducible refine HA.out.mono ?_)
          rintro e w9 ⟨rfl, hS9⟩
          have HB := Lib.hid hS9.old_
          clear hS9
          go_wp2_with fail
          exact ⟨rfl, HB.out⟩
  · have hor : a < 2 ∨ (2 ≤ a ∧ 64 < a) ∨ (2 ≤ a ∧ a ≤ 64 ∧ b < 2) ∨ (2 ≤ a ∧ a ≤ 64 ∧ 2 ≤ b ∧ 64 < b) := by omega
    have HA := Lib.hid (lawake _ W (Sat.start W))
    clear hab hr0 hm0 hc0
    generalize l.length = N
    rcases hor with h | ⟨h1, h⟩ | ⟨h1, h2, h⟩ | ⟨h1, h2, h3, h⟩
    all_goals
      go_enter Try.func4, Try.ntmps4
      go_wp2_with fail
      (with_reducible refine HA.out.mono ?_)
      rintro e w9 ⟨rfl, hS⟩
      have HB := Lib.hid hS.old_
      clear hS
      go_wp2_with fail
      exact ⟨rfl, HB.out⟩
end Go.Proofs.Ytlekfpeonehggaa
