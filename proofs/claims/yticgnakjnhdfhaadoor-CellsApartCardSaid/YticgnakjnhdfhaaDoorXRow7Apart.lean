/- CellsPieces, walked. CellsApart, walked. CellsApart: two operations on unlike keys, one behind the other, do and tell the same the other way round: for every argument the law's call returns true and leaves its arguments as they were. Conditions: none beyond the given statement's own. -/
import Derived.Test.YticgnakjnhdfhaaDoorJL
import Derived.StillTailTactics
import Derived.Test.YticgnakjnhdfhaaDoorJW
section
set_option linter.unusedVariables false
set_option maxRecDepth 100000
namespace Go.Proofs.YticgnakjnhdfhaaDoor
open Go.Proofs.BL Go.Proofs.Peel Go.RowKit Go.Proofs.Ky

theorem Sat.fixO2 {l : List Part} {w w' : World} {v : Value} {E : TypeId} {rows : List Opr} (h : Sat l w) (hb : Below w.heap.size w w') (ho : Own w' w.heap.size E 4 v (rwO rows)) (ht : isErrT E = false := by rfl) :
    ∃ A c, v = .slice A rows.length c ∧ rows.length ≤ c ∧ ((A = none ∧ c = 0) ∨ ∃ b o, A = some ⟨b, o, none⟩) ∧ Sat (roR 4 A (rwO rows) :: l) w' := by
  obtain ⟨A, c, e, hc, hn, hS⟩ := (h.made hb ho ht).still
  rw [rwO_len] at e hc
  refine ⟨A, c, e, hc, ?_, hS⟩
  rcases ho.1.2 with ⟨h1, _⟩ | ⟨g, cap, cur, h1, _⟩
  · rw [e] at h1; injection h1 with h1 _ h2; exact .inl ⟨h1, h2⟩
  · rw [e] at h1; injection h1 with h1 _ _; exact .inr ⟨g, 0, h1⟩
theorem tmod_range (a : Int) (n : Nat) : -(n : Int) ≤ a.tmod ((n : Int) + 1) ∧ a.tmod ((n : Int) + 1) ≤ (n : Int) := by
  have h1 := Int.tmod_lt_of_pos a (show (0 : Int) < (n : Int) + 1 by omega)
  have h2 : -((n : Int) + 1) < a.tmod ((n : Int) + 1) := by
    rcases Int.le_total 0 a with h | h
    · have := Int.tmod_nonneg ((n : Int) + 1) h
      omega
    · have h3 := Int.tmod_lt_of_pos (-a) (show (0 : Int) < (n : Int) + 1 by omega)
      rw [Int.neg_tmod] at h3
      omega
  omega
theorem cutAbs (a : Int) (n : Nat) : ∃ k : Nat, k ≤ n ∧ ((k : Int) = a.tmod ((n : Int) + 1) ∧ ¬ a.tmod ((n : Int) + 1) < 0 ∨ (k : Int) = -(a.tmod ((n : Int) + 1)) ∧ a.tmod ((n : Int) + 1) < 0) := by
  have h := tmod_range a n
  by_cases hn : a.tmod ((n : Int) + 1) < 0
  · exact ⟨(-(a.tmod ((n : Int) + 1))).toNat, by omega, .inr ⟨by omega, hn⟩⟩
  · exact ⟨(a.tmod ((n : Int) + 1)).toNat, by omega, .inl ⟨by omega, hn⟩⟩
set_option maxHeartbeats 8000000 in
theorem lawPieces (rows : List Rw) (os : List Opr) (z : Int) (A0 : Option Addr) (c0 : Nat) (A1 : Option Addr) (c1 : Nat) (W : World) (hE : ErrT W)
    (hc0 : rows.length ≤ c0) (hr0 : RowsAt W 2 A0 (rwR rows)) (hm0 : rows.length ≤ 9223372036854775807) (hw0 : ∀ o ∈ rows, in64 o.2)
    (hc1 : os.length ≤ c1) (hr1 : RowsAt W 4 A1 (rwO os)) (hm1 : os.length ≤ 9223372036854775807) (hw1 : ∀ o ∈ os, in64 o.n ∧ in64 o.lo) :
    Calls Tryd.prog 4 #[.slice A0 rows.length c0, .slice A1 os.length c1, .int .i64 z] W (LawPost W) := by
  refine via fun Q hQ => ?_
  have H64 := Lib.hid (r64_cut hw0)
  have H64o := Lib.hid (o64_cut hw1)
  have HS0 := Lib.hid ((Sat.start W).old_err hE)
  have HC1 := Lib.hid (cutO_calls A1 c1 os W hr1 hm1 hc1)
  have HC2 : Hid (∀ w, Below W.heap.size W w → Calls Tryd.prog 10 #[.slice A0 rows.length c0] w (CutRPost rows w)) := Lib.hid (fun w hb => lcutR A0 c0 rows w (hr0.below hb) hm0 hc0)
  clear hr0 hr1 hw1 hw0 hE
  generalize rows.length = n0 at *
  generalize os.length = n1 at *
  have hcl := cutRs_len rows
  generalize hcr : cutRs rows = cr at *
  have HCr := Lib.hid hcr
  have hol := cutOs_len os
  generalize hoc : cutOs os = oc at *
  have HOc := Lib.hid hoc
  clear hcr hoc
  obtain ⟨k, hk, hkz⟩ := cutAbs z oc.length
  go_enter Tryd.func4, Tryd.ntmps4
  go_wp2_with fail
  refine HC1.out.mono ?_
  rintro e w1 ⟨v1, rfl, ho1, hb1⟩
  rw [HOc.out] at ho1
  obtain ⟨A2, c2, rfl, hc2, hA2, hS1⟩ := HS0.out.fixO2 hb1 ho1
  have HCu := Lib.hid (HC2.out w1 hS1.s2.old_)
  have HS1 := Lib.hid hS1
  have HCc := Lib.hid hc2
  clear hb1 ho1 hS1 HC1
  have hz1 := tmod_range z oc.length
  obtain ⟨hz1, hz2⟩ := hz1
  rcases hkz with ⟨hkz, hneg⟩ | ⟨hkz, hneg⟩
  all_goals
    have HKz := Lib.hid hkz
    clear hkz
    go_wp2_with fail
    rw [← HKz.out]
    clear hz1 hz2 hneg HKz
    refine HCu.out.mono ?_
    rintro e w2 ⟨v2, rfl, ho2, hb2⟩
    rw [HCr.out] at ho2
    obtain ⟨A4, c4, rfl, hc4, hS2⟩ := HS1.out.fixR hb2 ho2
    have HNw := Lib.hid (cNew A4 c4 cr _ _ hS2 (by omega) hc4)
    clear hb2 ho2 hS2 HCu
    go_wp2_with fail
    refine HNw.out.mono ?_
    rintro e w3 ⟨p, rfl, hS3⟩
    have hS3b := hS3.s1.drop
    have HCu := Lib.hid (HC2.out w3 hS3b.s3.old_)
    have HS3 := Lib.hid hS3b
    clear hS3 hS3b HNw
    go_wp2_with fail
    refine HCu.out.mono ?_
    rintro e w4 ⟨v4, rfl, ho4, hb4⟩
    rw [HCr.out] at ho4
    obtain ⟨A5, c5, rfl, hc5, hS4⟩ := HS3.out.fixR hb4 ho4
    have HNw := Lib.hid (cNew A5 c5 cr _ _ hS4 (by omega) hc5)
    clear hb4 ho4 hS4 HCu
    go_wp2_with fail
    refine HNw.out.mono ?_
    rintro e w5 ⟨q, rfl, hS5⟩
    have hS5b := hS5.s1.drop
    have HG := Lib.hid (good_new H64.out)
    generalize newP tx okK cr [] = l0 at HG hS5b
    have hS6 := (hS5b.s2.roTake k).s4.s4
    rw [show (rwO oc).take k = rwO (oc.take k) from by rw [rwO, rwO, List.map_take]] at hS6
    have htk : (oc.take k).length = k := by rw [List.length_take]; omega
    have hRu := cRun p l0 A2 c2 (oc.take k) _ w5 hS6 HG.out.1 HG.out.2.1 (fun o ho => H64o.out o (List.mem_of_mem_take ho)) (by omega) (by omega)
    rw [htk] at hRu
    have HRu := Lib.hid hRu
    have HP := Lib.hid (pieces (l := l0) HG.out (a := oc.take k) (b := oc.drop k) (fun o ho => H64o.out o (List.mem_of_mem_take ho)))
    have HPl := Lib.hid (show oc.take k ++ oc.drop k = oc from List.take_append_drop _ _)
    have HG1 := Lib.hid (good_runV HG.out (os := oc.take k) (fun o ho => H64o.out o (List.mem_of_mem_take ho)))
    have htl1 := runV_told (l := l0) (os := oc.take k)
    generalize runV l0 (oc.take k) = r1 at HRu HP HG1 htl1
    obtain ⟨m1, ts1, pl1, er1⟩ := r1
    try simp only at htl1
    have HTk := Lib.hid htk
    have HTl1 := Lib.hid htl1
    clear hS5 hS5b hS6 hRu HNw htk htl1
    have hkc : (k : Int) ≤ (oc.length : Int) := by omega
    have hkc2 : (oc.length : Int) ≤ (c2 : Int) := by have := HCc.out; omega
    go_wp2_with fail
    refine HRu.out.mono ?_
    rintro e w6 ⟨v6, rfl, hS7⟩
    have HS7 := Lib.hid hS7
    clear hS7 HRu
    have htl2 := runV_told (l := m1) (os := oc.drop k)
    have HG2 := Lib.hid (good_runV HG1.out (os := oc.drop k) (fun o ho => H64o.out o (List.mem_of_mem_drop ho)))
    have hR2 : ∀ (B : Option Addr) (d : Nat) (l2 : List Part) (w : World), Sat (ceP p m1 :: errP :: roR 4 B (rwO (oc.drop k)) :: l2) w → (oc.drop k).length ≤ d → Calls Tryd.prog 13 #[.pointer (some ⟨p, 0, none⟩), .slice B (oc.drop k).length d] w (RunPost p (roR 4 B (rwO (oc.drop k)) :: l2) (runV m1 (oc.drop k))) := fun B d l2 w h hd =>
      cRun p m1 B d (oc.drop k) l2 w h HG1.out.1 HG1.out.2.1 (fun o ho => H64o.out o (List.mem_of_mem_drop ho)) (by rw [List.length_drop]; omega) hd
    have hP2 := HP.out
    try simp only at hP2
    have hdl : (oc.drop k).length = oc.length - k := List.length_drop
    rw [hdl] at hR2 htl2
    generalize runV m1 (oc.drop k) = r2 at hR2 hP2 htl2 HG2
    obtain ⟨m2, ts2, pl2, er2⟩ := r2
    try simp only at hP2 htl2 HG2
    have HP2 := Lib.hid hP2
    have HR2 := Lib.hid hR2
    have HTl2 := Lib.hid htl2
    have HDl := Lib.hid hdl
    clear hP2 hR2 htl2 hdl HP
    by_cases hck : c2 = k
    · have hkl : oc.length = k := by have := HCc.out; omega
      have HRu2 : Hid (Calls Tryd.prog 13 #[.pointer (some ⟨p, 0, none⟩), .slice A2 0 0] w6 (RunPost p (roR 4 A2 (rwO (oc.drop k)) :: _) (m2, ts2, pl2, er2))) := Lib.hid (by
        have h0 : oc.drop k = [] := List.drop_of_length_le (by omega)
        have := HR2.out A2 0 _ w6 ((by rw [h0]; exact HS7.out.s4.roNil 4 A2 : Sat (roR 4 A2 (rwO (oc.drop k)) :: _) w6).s4.s4) (by omega)
        rwa [show oc.length - k = 0 by omega] at this)
      have HKl := Lib.hid hkl
      clear hkl
      subst hck
      go_wp2_with fail
      (with_reducible refine HRu2.out.mono ?_)
      rintro e w7 ⟨v7, rfl, hS8⟩
      obtain ⟨A7, c7, hv7, hc7, hA7, _⟩ := hS8.own_.slv'
      rw [rwI_len] at hv7 hc7
      simp only at hv7 hc7
      subst hv7
      have hS9 := hS8.s3.drop.s5.drop.s3.s3.s5
      have hR3 := cRun q l0 _ c2 oc _ w7 hS9 HG.out.1 HG.out.2.1 H64o.out (by omega) HCc.out
      have hP := HP2.out
      rw [HPl.out] at hP
      have htl3 := runV_told (l := l0) (os := oc)
      generalize runV l0 oc = r3 at hR3 hP htl3
      obtain ⟨m3, ts3, pl3, er3⟩ := r3
      simp only at hP htl3
      have HR3 := Lib.hid hR3
      have HP3 := Lib.hid hP
      have HA7 := Lib.hid hA7
      have HC7 := Lib.hid hc7
      clear hS8 hS9 hR3 hP HRu2 hA7 hc7
      go_wp2_with fail
      (with_reducible refine HR3.out.mono ?_)
      rintro e w8 ⟨v8, rfl, hS10⟩
      obtain ⟨A8, c8, hv8, hc8, _, _⟩ := hS10.own_.slv'
      rw [rwI_len] at hv8 hc8
      simp only at hv8 hc8
      subst hv8
      have HS10 := Lib.hid hS10
      have HC8 := Lib.hid hc8
      clear hS10 HR3 hc8
      by_cases hbad : er1 ≠ 0 ∨ er2 ≠ 0
      · have he3 := HP3.out.2 hbad
        have hb3 : (er3 != 0) = true := bne_iff_ne.2 he3
        have HAw := Lib.hid (lawake (old W :: []) w8 HS10.out.s2.s1.drop.s1.drop.s1.drop.s1.drop.s1.drop.s1.drop)
        by_cases h1 : er1 ≠ 0
        · have hb1 : (er1 != 0) = true := bne_iff_ne.2 h1
          clear hbad he3 h1
          go_wp2_with fail
          (with_reducible refine HAw.out.mono ?_)
          rintro e w10 ⟨rfl, hS11⟩
          have HB := Lib.hid hS11.s1.old_
          clear hS11 HAw
          go_wp2
          exact ⟨rfl, HB.out⟩
        · have h10 : er1 = 0 := Classical.not_not.1 h1
          have hb2 : (er2 != 0) = true := bne_iff_ne.2 (hbad.resolve_left h1)
          subst h10
          clear hbad he3 h1
          go_wp2_with fail
          (with_reducible refine HAw.out.mono ?_)
          rintro e w10 ⟨rfl, hS11⟩
          have HB := Lib.hid hS11.s1.old_
          clear hS11 HAw
          go_wp2
          exact ⟨rfl, HB.out⟩
      · have h1 : er1 = 0 := Classical.not_not.1 (fun h => hbad (.inl h))
        have h2 : er2 = 0 := Classical.not_not.1 (fun h => hbad (.inr h))
        subst h1 h2
        have hP4 := HP3.out.1 rfl rfl
        simp only [Prod.mk.injEq] at hP4
        obtain ⟨rfl, hts3, rfl, rfl⟩ := hP4
        have HT3 := Lib.hid hts3
        have hln : ts3.length ≤ 1000 := by rw [hts3, List.length_append]; have := HTl1.out; have := HTl2.out; have := HTk.out; omega
        clear hts3
        have hS11 := HS10.out.s3.drop.s5
        have HS11 := Lib.hid hS11
        have HAp := Lib.hid (show (rwI ts1).length + (rwI ts2).length ≤ 100 from by rw [rwI_len, rwI_len]; have := HTl1.out; have := HTl2.out; have := HTk.out; omega)
        clear hbad hS11 HP3 htl3
        go_wp2_with (at_builtin; (refine satAppN (W := w8) 2 1 8 (.int .i64 0) rfl (.tmp 79) (.tmp 80) 29 rfl Tryd.underlying29 (by kernel_rfl) rfl (by decide) (by decide) _ (rwI ts1) (rwI ts2) rfl A7 ts2.length c7 rfl (by rw [rwI_len]) HA7.out HS11.out.s4.ownRows (fun r hr => by obtain ⟨x, _, rfl⟩ := List.mem_map.1 hr; rfl) (fun r hr u hu => by obtain ⟨x, _, rfl⟩ := List.mem_map.1 hr; simp at hu; subst hu; rfl) HS11.out rfl (by have := HAp.out; omega) ?_); intro v9 w9 hS12; rw [show rwI ts1 ++ rwI ts2 = rwI ts3 from by rw [HT3.out]; simp [rwI]] at hS12; obtain ⟨A9, c9, hv9, hc9, _, _⟩ := hS12.own_.slv'; rw [rwI_len] at hv9 hc9; subst hv9; have HS12 := Lib.hid hS12; have HNu := Lib.hid (rnums A9 A8 c9 c8 ts3 w9 hS12.ownRows hS12.s1.ownRows (by omega) hc9 HC8.out); clear hS12 hc9)
        (with_reducible refine HNu.out.mono ?_)
        rintro e w10 ⟨rfl, hb10⟩
        have hS13 := HS12.out.below hb10
        obtain ⟨vp, hFp, _⟩ := hS13.s5.ceF
        obtain ⟨vq, hFq, _⟩ := hS13.s2.ceF
        have hm2 := HG2.out.1.2
        have hSm := cSame p q vp vq m3 m3 w10 hFp hFq (by omega) (by omega)
        rw [decide_eq_true rfl] at hSm
        have HSm := Lib.hid hSm
        have HS13 := Lib.hid hS13
        clear hb10 hS13 hFp hFq hSm HNu
        go_wp2_with fail
        (with_reducible refine HSm.out.mono ?_)
        rintro e w11 ⟨rfl, hb11⟩
        have HAw := Lib.hid (lawake (old W :: []) w11 (HS13.out.below hb11).s3.s1.drop.s1.drop.s1.drop.s1.drop.s1.drop)
        clear hb11 HSm
        go_wp2_with fail
        (with_reducible refine HAw.out.mono ?_)
        rintro e w12 ⟨rfl, hS14⟩
        have HB := Lib.hid hS14.s1.old_
        clear hS14 HAw
        go_wp2
        exact ⟨rfl, HB.out⟩

    · rcases hA2 with ⟨rfl, h0⟩ | ⟨b, o, rfl⟩
      · exact absurd h0 (by have := HCc.out; omega)
      · have HRu2 : Hid (Calls Tryd.prog 13 #[.pointer (some ⟨p, 0, none⟩), .slice (some ⟨b, o + k * 4, none⟩) (oc.length - k) (c2 - k)] w6 (RunPost p (roR 4 (some ⟨b, o + k * 4, none⟩) (rwO (oc.drop k)) :: _) (m2, ts2, pl2, er2))) := Lib.hid (by
          have h0 := HS7.out.s4.roDrop k
          rw [show (rwO oc).drop k = rwO (oc.drop k) from by rw [rwO, rwO, List.map_drop]] at h0
          exact HR2.out _ (c2 - k) _ w6 h0.s4.s4 (by have := HCc.out; omega))
        go_wp2_with fail
        (with_reducible refine HRu2.out.mono ?_)
        rintro e w7 ⟨v7, rfl, hS8⟩
        obtain ⟨A7, c7, hv7, hc7, hA7, _⟩ := hS8.own_.slv'
        rw [rwI_len] at hv7 hc7
        simp only at hv7 hc7
        subst hv7
        have hS9 := hS8.s3.drop.s5.drop.s3.s3.s5
        have hR3 := cRun q l0 _ c2 oc _ w7 hS9 HG.out.1 HG.out.2.1 H64o.out (by omega) HCc.out
        have hP := HP2.out
        rw [HPl.out] at hP
        have htl3 := runV_told (l := l0) (os := oc)
        generalize runV l0 oc = r3 at hR3 hP htl3
        obtain ⟨m3, ts3, pl3, er3⟩ := r3
        simp only at hP htl3
        have HR3 := Lib.hid hR3
        have HP3 := Lib.hid hP
        have HA7 := Lib.hid hA7
        have HC7 := Lib.hid hc7
        clear hS8 hS9 hR3 hP HRu2 hA7 hc7
        go_wp2_with fail
        (with_reducible refine HR3.out.mono ?_)
        rintro e w8 ⟨v8, rfl, hS10⟩
        obtain ⟨A8, c8, hv8, hc8, _, _⟩ := hS10.own_.slv'
        rw [rwI_len] at hv8 hc8
        simp only at hv8 hc8
        subst hv8
        have HS10 := Lib.hid hS10
        have HC8 := Lib.hid hc8
        clear hS10 HR3 hc8
        by_cases hbad : er1 ≠ 0 ∨ er2 ≠ 0
        · have he3 := HP3.out.2 hbad
          have hb3 : (er3 != 0) = true := bne_iff_ne.2 he3
          have HAw := Lib.hid (lawake (old W :: []) w8 HS10.out.s2.s1.drop.s1.drop.s1.drop.s1.drop.s1.drop.s1.drop)
          by_cases h1 : er1 ≠ 0
          · have hb1 : (er1 != 0) = true := bne_iff_ne.2 h1
            clear hbad he3 h1
            go_wp2_with fail
            (with_reducible refine HAw.out.mono ?_)
            rintro e w10 ⟨rfl, hS11⟩
            have HB := Lib.hid hS11.s1.old_
            clear hS11 HAw
            go_wp2
            exact ⟨rfl, HB.out⟩
          · have h10 : er1 = 0 := Classical.not_not.1 h1
            have hb2 : (er2 != 0) = true := bne_iff_ne.2 (hbad.resolve_left h1)
            subst h10
            clear hbad he3 h1
            go_wp2_with fail
            (with_reducible refine HAw.out.mono ?_)
            rintro e w10 ⟨rfl, hS11⟩
            have HB := Lib.hid hS11.s1.old_
            clear hS11 HAw
            go_wp2
            exact ⟨rfl, HB.out⟩
        · have h1 : er1 = 0 := Classical.not_not.1 (fun h => hbad (.inl h))
          have h2 : er2 = 0 := Classical.not_not.1 (fun h => hbad (.inr h))
          subst h1 h2
          have hP4 := HP3.out.1 rfl rfl
          simp only [Prod.mk.injEq] at hP4
          obtain ⟨rfl, hts3, rfl, rfl⟩ := hP4
          have HT3 := Lib.hid hts3
          have hln : ts3.length ≤ 1000 := by rw [hts3, List.length_append]; have := HTl1.out; have := HTl2.out; have := HTk.out; omega
          clear hts3
          have hS11 := HS10.out.s3.drop.s5
          have HS11 := Lib.hid hS11
          have HAp := Lib.hid (show (rwI ts1).length + (rwI ts2).length ≤ 100 from by rw [rwI_len, rwI_len]; have := HTl1.out; have := HTl2.out; have := HTk.out; omega)
          clear hbad hS11 HP3 htl3
          go_wp2_with (at_builtin; (refine satAppN (W := w8) 2 1 8 (.int .i64 0) rfl (.tmp 79) (.tmp 80) 29 rfl Tryd.underlying29 (by kernel_rfl) rfl (by decide) (by decide) _ (rwI ts1) (rwI ts2) rfl A7 ts2.length c7 rfl (by rw [rwI_len]) HA7.out HS11.out.s4.ownRows (fun r hr => by obtain ⟨x, _, rfl⟩ := List.mem_map.1 hr; rfl) (fun r hr u hu => by obtain ⟨x, _, rfl⟩ := List.mem_map.1 hr; simp at hu; subst hu; rfl) HS11.out rfl (by have := HAp.out; omega) ?_); intro v9 w9 hS12; rw [show rwI ts1 ++ rwI ts2 = rwI ts3 from by rw [HT3.out]; simp [rwI]] at hS12; obtain ⟨A9, c9, hv9, hc9, _, _⟩ := hS12.own_.slv'; rw [rwI_len] at hv9 hc9; subst hv9; have HS12 := Lib.hid hS12; have HNu := Lib.hid (rnums A9 A8 c9 c8 ts3 w9 hS12.ownRows hS12.s1.ownRows (by omega) hc9 HC8.out); clear hS12 hc9)
          (with_reducible refine HNu.out.mono ?_)
          rintro e w10 ⟨rfl, hb10⟩
          have hS13 := HS12.out.below hb10
          obtain ⟨vp, hFp, _⟩ := hS13.s5.ceF
          obtain ⟨vq, hFq, _⟩ := hS13.s2.ceF
          have hm2 := HG2.out.1.2
          have hSm := cSame p q vp vq m3 m3 w10 hFp hFq (by omega) (by omega)
          rw [decide_eq_true rfl] at hSm
          have HSm := Lib.hid hSm
          have HS13 := Lib.hid hS13
          clear hb10 hS13 hFp hFq hSm HNu
          go_wp2_with fail
          (with_reducible refine HSm.out.mono ?_)
          rintro e w11 ⟨rfl, hb11⟩
          have HAw := Lib.hid (lawake (old W :: []) w11 (HS13.out.below hb11).s3.s1.drop.s1.drop.s1.drop.s1.drop.s1.drop)
          clear hb11 HSm
          go_wp2_with fail
          (with_reducible refine HAw.out.mono ?_)
          rintro e w12 ⟨rfl, hS14⟩
          have HB := Lib.hid hS14.s1.old_
          clear hS14 HAw
          go_wp2
          exact ⟨rfl, HB.out⟩

end Go.Proofs.YticgnakjnhdfhaaDoor
end

section
set_option linter.unusedVariables false
set_option maxRecDepth 100000
namespace Go.Proofs.YticgnakjnhdfhaaDoor
open Go.Proofs.BL Go.Proofs.Peel Go.RowKit Go.Proofs.Ky

theorem apartV {l : List Rw} (hl : Good l) (h30 : l.length ≤ 30) (a b : Opr) (h : a.key ≠ b.key) :
    (∃ m s t, runV l [a, b] = (m, [s, t], 0, 0) ∧ runV l [b, a] = (m, [t, s], 0, 0)) ∨ ((runV l [a, b]).2.2.2 ≠ 0 ∧ (runV l [b, a]).2.2.2 ≠ 0) := by
  have hw := fun os => runW_V hl.1 os
  rw [← hw, ← hw]
  unfold runW
  rcases apart tx Opr.key evO a b h hl.1.1 (by omega) with ⟨m, s, t, h1, h2⟩ | ⟨⟨e, h1⟩, ⟨f, h2⟩⟩
  · left
    refine ⟨m, s, t, ?_, ?_⟩
    · rw [show runB 0 l [a, b] = _ from h1]
    · rw [show runB 0 l [b, a] = _ from h2]
  · right
    have e1 := runB_err _ _ _ _ (show runB 0 l [a, b] = _ from h1)
    have e2 := runB_err _ _ _ _ (show runB 0 l [b, a] = _ from h2)
    rw [show runB 0 l [a, b] = _ from h1, show runB 0 l [b, a] = _ from h2]
    exact ⟨e1, e2⟩
theorem newP_len (rows : List Rw) : (newP tx okK rows []).length ≤ rows.length := by
  have go : ∀ (rows l : List Rw), Fit tx l → (newP tx okK rows l).length ≤ l.length + rows.length := by
    intro rows
    induction rows with
    | nil => intro l _; exact Nat.le_refl _
    | cons r rows ih =>
      intro l hl
      unfold newP
      rw [List.foldl_cons]
      have hstep := new_step tx okK r hl
      have h1 := ih _ (hstep.1 ▸ hstep.2)
      unfold newP at h1
      have h2 : (if okK r.1 = true then (setP tx r.1 r.2 l).getD l else l).length ≤ l.length + 1 := by
        rw [hstep.1]
        split
        · exact len_with tx (k := r.1) (some r.2) hl.1
        · omega
      rw [List.length_cons]
      omega
  have := go rows [] fit_nil
  simpa using this
theorem awakeB (x : World) (hE : ErrT x) : Calls Tryd.prog 17 #[] x (fun e x' => e = .returned (.bool true) ∧ Below x.heap.size x x') := by
  refine (lawake [old x] x ((Sat.start x).old_err hE)).mono ?_
  rintro e x' ⟨he, hS⟩
  exact ⟨he, hS.s1.old_⟩
theorem keepC {x x' : World} {a : Addr} {v : Value} (h : x.cell? a = some v) (hb : Below x.heap.size x x') : x'.cell? a = some v := (hb.cell (World.block_lt_of_cell? x a h)).trans h
set_option maxHeartbeats 8000000 in
theorem lawApart (rows : List Rw) (a b : Opr) (A0 : Option Addr) (c0 : Nat) (W : World) (hE : ErrT W)
    (hc0 : rows.length ≤ c0) (hr0 : RowsAt W 2 A0 (rwR rows)) (hm0 : rows.length ≤ 9223372036854775807) (hw0 : ∀ o ∈ rows, in64 o.2) (ha : in64 a.n) (hb : in64 b.n) :
    Calls Tryd.prog 5 #[.slice A0 rows.length c0, .agg (enO a).toArray, .agg (enO b).toArray] W (LawPost W) := by
  refine via fun Q hQ => ?_
  have H64 := Lib.hid (r64_cut hw0)
  have hoc : cutOs [a, b] = [cutO a, cutO b] := rfl
  have HOc := Lib.hid hoc
  have HA := Lib.hid (show in64 (cutO a).n from ha)
  have HB := Lib.hid (show in64 (cutO b).n from hb)
  have hS0 := (Sat.start W).old_err hE
  obtain ⟨ak, akey, an, alo⟩ := a
  obtain ⟨bk, bkey, bn, blo⟩ := b
  generalize cutO ⟨ak, akey, an, alo⟩ = x0 at HOc HA
  generalize cutO ⟨bk, bkey, bn, blo⟩ = x1 at HOc HB
  have hB2 : Below W.heap.size W ((W.alloc (.cells #[.int .i64 ak, .string akey, .int .i64 an, .int .i64 alo] 42)).alloc (.cells #[.int .i64 bk, .string bkey, .int .i64 bn, .int .i64 blo] 42)) := ((Below.refl _ _).alloc (Nat.le_refl _) _).alloc (by simp) _
  have hS2 := hS0.below hB2
  have hS3 := hS2.litR 42 4 2 (rwO [⟨ak, akey, an, alo⟩, ⟨bk, bkey, bn, blo⟩]) #[.int .i64 ak, .string akey, .int .i64 an, .int .i64 alo, .int .i64 bk, .string bkey, .int .i64 bn, .int .i64 blo] rfl (by decide) rfl (fun r hr => by obtain ⟨x, _, rfl⟩ := List.mem_map.1 hr; rfl) rfl
  have hC1 := cutO_calls _ 2 [⟨ak, akey, an, alo⟩, ⟨bk, bkey, bn, blo⟩] _ hS3.rows_ (by simp) (by simp)
  have hl2 : ([⟨ak, akey, an, alo⟩, ⟨bk, bkey, bn, blo⟩] : List Opr).length = 2 := rfl
  rw [hl2] at hC1
  simp only [alloc_sz] at hC1
  have HC1 := Lib.hid hC1
  have HS3 := Lib.hid hS3
  have HC2 : Hid (∀ w, Below W.heap.size W w → Calls Tryd.prog 10 #[.slice A0 rows.length c0] w (CutRPost rows w)) := Lib.hid (fun w hb => lcutR A0 c0 rows w (hr0.below hb) hm0 hc0)
  clear hr0 hw0 hE hB2 hS2 hS3 hC1 hS0 hl2 hoc ha hb
  generalize rows.length = n0 at *
  have hcl := cutRs_len rows
  generalize hcr : cutRs rows = cr at *
  have HCr := Lib.hid hcr
  clear hcr
  show Calls Tryd.prog 5 #[.slice A0 n0 c0, .agg #[.int .i64 ak, .string akey, .int .i64 an, .int .i64 alo], .agg #[.int .i64 bk, .string bkey, .int .i64 bn, .int .i64 blo]] W Q
  go_enter Tryd.func5, Tryd.ntmps5
  go_wp2_with fail
  (with_reducible refine HC1.out.mono ?_)
  rintro e w1 ⟨v1, rfl, ho1, hb1⟩
  rw [HOc.out] at ho1
  obtain ⟨A2, c2, rfl, hc2, hA2, hS1⟩ := HS3.out.drop.fixO2 hb1 ho1
  have HCu := Lib.hid (HC2.out w1 hS1.s2.old_)
  obtain ⟨b2, o2, hA2e, g00, g01, g02, g03⟩ := opAt hS1.rows_ (i := 0) (r := x0) rfl
  subst hA2e
  have HS1 := Lib.hid hS1
  clear hb1 ho1 hS1 HC1 hA2 g00 g01 g02 g03
  go_wp2_with fail
  (with_reducible refine HCu.out.mono ?_)
  rintro e w2 ⟨v2, rfl, ho2, hb2⟩
  rw [HCr.out] at ho2
  obtain ⟨A4, c4, rfl, hc4, hS2⟩ := HS1.out.fixR hb2 ho2
  have HNw := Lib.hid (cNew A4 c4 cr _ _ hS2 (by omega) hc4)
  clear hb2 ho2 hS2 HCu
  go_wp2_with fail
  (with_reducible refine HNw.out.mono ?_)
  rintro e w3 ⟨p, rfl, hS3⟩
  have hS3b := hS3.s1.drop
  have HCu := Lib.hid (HC2.out w3 hS3b.s3.old_)
  have HS3 := Lib.hid hS3b
  clear hS3 hS3b HNw
  go_wp2_with fail
  (with_reducible refine HCu.out.mono ?_)
  rintro e w4 ⟨v4, rfl, ho4, hb4⟩
  rw [HCr.out] at ho4
  obtain ⟨A5, c5, rfl, hc5, hS4⟩ := HS3.out.fixR hb4 ho4
  have HNw := Lib.hid (cNew A5 c5 cr _ _ hS4 (by omega) hc5)
  clear hb4 ho4 hS4 HCu
  go_wp2_with fail
  (with_reducible refine HNw.out.mono ?_)
  rintro e w5 ⟨q, rfl, hS5⟩
  have hS5b := hS5.s1.drop
  have HG := Lib.hid (good_new H64.out)
  have hl0 := newP_len cr
  generalize newP tx okK cr [] = l0 at HG hS5b hl0
  have HS5 := Lib.hid hS5b
  have HAp := Lib.hid (fun h => apartV (l := l0) HG.out (by omega) x0 x1 h)
  obtain ⟨xk, xkey, xn, xlo⟩ := x0
  obtain ⟨yk, ykey, yn, ylo⟩ := x1
  have HL : Hid (∀ w, RowsAt w 4 (some ⟨b2, o2, none⟩) (rwO [⟨xk, xkey, xn, xlo⟩, ⟨yk, ykey, yn, ylo⟩]) → w.cell? ⟨b2, o2, none⟩ = some (.int .i64 xk) ∧ w.cell? ⟨b2, o2 + 1, none⟩ = some (.string xkey) ∧ w.cell? ⟨b2, o2 + 2, none⟩ = some (.int .i64 xn) ∧ w.cell? ⟨b2, o2 + 3, none⟩ = some (.int .i64 xlo) ∧ w.cell? ⟨b2, o2 + 4, none⟩ = some (.int .i64 yk) ∧ w.cell? ⟨b2, o2 + 4 + 1, none⟩ = some (.string ykey) ∧ w.cell? ⟨b2, o2 + 4 + 2, none⟩ = some (.int .i64 yn) ∧ w.cell? ⟨b2, o2 + 4 + 3, none⟩ = some (.int .i64 ylo)) := Lib.hid (fun w h => by
    obtain ⟨b', o', e, g0, g1, g2, g3⟩ := opAt h (i := 0) (r := ⟨xk, xkey, xn, xlo⟩) rfl
    obtain ⟨b'', o'', e', k0, k1, k2, k3⟩ := opAt h (i := 1) (r := ⟨yk, ykey, yn, ylo⟩) rfl
    injection e with e; injection e with e1 e2; subst e1 e2
    injection e' with e'; injection e' with e1 e2; subst e1 e2
    rw [Nat.zero_mul, Nat.add_zero] at g0 g1 g2 g3
    rw [Nat.one_mul] at k0 k1 k2 k3
    exact ⟨g0, g1, g2, g3, k0, k1, k2, k3⟩)
  clear hS5 hS5b HNw
  have hd := HL.out w5.drew (HS5.out.s2.rows_.below (drew_below _ 1))
  have hRun := cRun p l0 (some ⟨w5.heap.size, 0, none⟩) 2 [⟨xk, xkey, xn, xlo⟩, ⟨yk, ykey, yn, ylo⟩] _ _ (HS5.out.litR 42 4 2 (rwO [⟨xk, xkey, xn, xlo⟩, ⟨yk, ykey, yn, ylo⟩]) #[.int .i64 xk, .string xkey, .int .i64 xn, .int .i64 xlo, .int .i64 yk, .string ykey, .int .i64 yn, .int .i64 ylo] rfl (by decide) rfl (fun r hr => by obtain ⟨x, _, rfl⟩ := List.mem_map.1 hr; rfl) rfl).s4.s3.drew HG.out.1 HG.out.2.1 (by intro o ho; simp at ho; rcases ho with rfl | rfl; exact HA.out; exact HB.out) (by simp) (by simp)
  generalize hr1 : runV l0 [⟨xk, xkey, xn, xlo⟩, ⟨yk, ykey, yn, ylo⟩] = r1 at hRun
  obtain ⟨m1, ts1, pl1, er1⟩ := r1
  have hl2 : ([⟨xk, xkey, xn, xlo⟩, ⟨yk, ykey, yn, ylo⟩] : List Opr).length = 2 := rfl
  rw [hl2] at hRun
  have HRun := Lib.hid hRun
  have HR1 := Lib.hid hr1
  clear hRun hr1 hl2
  go_wp2_with fail
  go_region_held3 (fun x => x.cell? ⟨b2, o2, none⟩ = some (.int .i64 xk) ∧ x.cell? ⟨b2, o2 + 1, none⟩ = some (.string xkey) ∧ x.cell? ⟨b2, o2 + 2, none⟩ = some (.int .i64 xn) ∧ x.cell? ⟨b2, o2 + 3, none⟩ = some (.int .i64 xlo) ∧ x.cell? ⟨b2, o2 + 4, none⟩ = some (.int .i64 yk) ∧ x.cell? ⟨b2, o2 + 4 + 1, none⟩ = some (.string ykey) ∧ x.cell? ⟨b2, o2 + 4 + 2, none⟩ = some (.int .i64 yn) ∧ x.cell? ⟨b2, o2 + 4 + 3, none⟩ = some (.int .i64 ylo)) ((first | assumption | exact hd | exact ⟨upA hd.1 _, upA hd.2.1 _, upA hd.2.2.1 _, upA hd.2.2.2.1 _, upA hd.2.2.2.2.1 _, upA hd.2.2.2.2.2.1 _, upA hd.2.2.2.2.2.2.1 _, upA hd.2.2.2.2.2.2.2 _⟩)) ((first | (go_at_call 13; (with_reducible refine HRun.out.mono ?_); rintro e w6 ⟨v6, rfl, hS6⟩; have hd6 := HL.out w6 hS6.s5.rows_)))
  have HS6 := Lib.hid hS6.s3.drop
  have hd7 := HL.out w6.drew (HS6.out.s4.rows_.below (drew_below _ 1))
  have hRun := cRun q l0 (some ⟨w6.heap.size, 0, none⟩) 2 [⟨yk, ykey, yn, ylo⟩, ⟨xk, xkey, xn, xlo⟩] _ _ (HS6.out.litR 42 4 2 (rwO [⟨yk, ykey, yn, ylo⟩, ⟨xk, xkey, xn, xlo⟩]) #[.int .i64 yk, .string ykey, .int .i64 yn, .int .i64 ylo, .int .i64 xk, .string xkey, .int .i64 xn, .int .i64 xlo] rfl (by decide) rfl (fun r hr => by obtain ⟨x, _, rfl⟩ := List.mem_map.1 hr; rfl) rfl).s3.s4.drew HG.out.1 HG.out.2.1 (by intro o ho; simp at ho; rcases ho with rfl | rfl; exact HB.out; exact HA.out) (by simp) (by simp)
  generalize hr2 : runV l0 [⟨yk, ykey, yn, ylo⟩, ⟨xk, xkey, xn, xlo⟩] = r2 at hRun
  obtain ⟨m2, ts2, pl2, er2⟩ := r2
  have hl2 : ([⟨yk, ykey, yn, ylo⟩, ⟨xk, xkey, xn, xlo⟩] : List Opr).length = 2 := rfl
  rw [hl2] at hRun
  have HRun2 := Lib.hid hRun
  have HR2 := Lib.hid hr2
  clear hRun hr2 hl2 hS6 hd hd6 HRun
  go_wp2_with fail
  go_region_held3 (fun x => x.cell? ⟨b2, o2, none⟩ = some (.int .i64 xk) ∧ x.cell? ⟨b2, o2 + 1, none⟩ = some (.string xkey) ∧ x.cell? ⟨b2, o2 + 2, none⟩ = some (.int .i64 xn) ∧ x.cell? ⟨b2, o2 + 3, none⟩ = some (.int .i64 xlo) ∧ x.cell? ⟨b2, o2 + 4, none⟩ = some (.int .i64 yk) ∧ x.cell? ⟨b2, o2 + 4 + 1, none⟩ = some (.string ykey) ∧ x.cell? ⟨b2, o2 + 4 + 2, none⟩ = some (.int .i64 yn) ∧ x.cell? ⟨b2, o2 + 4 + 3, none⟩ = some (.int .i64 ylo)) ((first | assumption | exact hd7 | exact ⟨upA hd7.1 _, upA hd7.2.1 _, upA hd7.2.2.1 _, upA hd7.2.2.2.1 _, upA hd7.2.2.2.2.1 _, upA hd7.2.2.2.2.2.1 _, upA hd7.2.2.2.2.2.2.1 _, upA hd7.2.2.2.2.2.2.2 _⟩)) ((first | (go_at_call 13; (with_reducible refine HRun2.out.mono ?_); rintro e w7 ⟨v7, rfl, hS7⟩; have hd8 := HL.out w7 (hS7.s3.drop.s5.rows_))))
  have HS7 := Lib.hid hS7.s3.drop
  have hE1 := hd8.2.1
  have hE2 := hd8.2.2.2.2.2.1
  have hd5 : World.cell? w7.drew ⟨b2, o2 + 1, none⟩ = some (.string xkey) ∧ World.cell? w7.drew ⟨b2, o2 + 4 + 1, none⟩ = some (.string ykey) ∧ Below w7.heap.size w7 w7.drew := ⟨hE1, hE2, drew_below _ 1⟩
  have HEr := Lib.hid (HS7.out.s2.err_)
  have HW7 := Lib.hid (HS7.out.s2.s1.drop.s1.drop.s1.drop.s1.drop.s1.drop.s1.old_)
  clear hS7 hd7 HRun2 hd8
  go_wp2_with fail
  by_cases hk : xkey = ykey
  · have hst := str_same hk
    clear hk
    go_quiet (fail)
    go_wp2_with fail
    have hd9 : World.cell? (w7.drewN (nq + 1)) ⟨b2, o2 + 1, none⟩ = some (.string xkey) ∧ World.cell? (w7.drewN (nq + 1)) ⟨b2, o2 + 4 + 1, none⟩ = some (.string ykey) ∧ Below w7.heap.size w7 (w7.drewN (nq + 1)) := ⟨hE1, hE2, drew_below _ (nq + 1)⟩
    have hA9 : ∀ x, (World.cell? x ⟨b2, o2 + 1, none⟩ = some (.string xkey) ∧ World.cell? x ⟨b2, o2 + 4 + 1, none⟩ = some (.string ykey) ∧ Below w7.heap.size w7 x) → Calls Tryd.prog 17 #[] x (fun e x' => e = .returned (.bool true) ∧ (World.cell? x' ⟨b2, o2 + 1, none⟩ = some (.string xkey) ∧ World.cell? x' ⟨b2, o2 + 4 + 1, none⟩ = some (.string ykey) ∧ Below w7.heap.size w7 x')) := fun x h => (awakeB x (HEr.out.below h.2.2)).mono fun e x' ⟨he, hb⟩ => ⟨he, keepC h.1 hb, keepC h.2.1 hb, below_then h.2.2 hb⟩
    have HA9 := Lib.hid hA9
    clear hA9
    have k1 : (w7.drewN nq).cell? ⟨b2, o2 + 1, none⟩ = some (.string xkey) := hE1
    have k2 : (w7.drewN nq).cell? ⟨b2, o2 + 4 + 1, none⟩ = some (.string ykey) := hE2
    have HEn := Lib.hid (show ErrT (w7.drewN nq) from HEr.out.below (drew_below w7 nq))
    have HWn := Lib.hid (below_then HW7.out (drew_below w7 nq))
    clear HA9 hd9 hd5 hE1 hE2
    generalize w7.drewN nq = wn at k1 k2 HEn HWn ⊢
    have k3 : wn.drew.cell? ⟨b2, o2 + 1, none⟩ = some (.string xkey) := k1
    have k4 : wn.drew.cell? ⟨b2, o2 + 4 + 1, none⟩ = some (.string ykey) := k2
    have HAK := Lib.hid (awakeB wn.drew (HEn.out.below (drew_below wn 1)))
    go_still_tail 17, (by kernel_rfl)
    change wpList _ _ _ _ _ wn.drew
    go_wp2_with fail
    (with_reducible refine HAK.out.mono ?_)
    rintro e w9 ⟨rfl, hb9⟩
    have HB9 := Lib.hid (below_then HWn.out (below_then (drew_below wn 1) hb9))
    clear hb9 HAK
    go_wp2
    exact ⟨rfl, HB9.out⟩
  · have hst := str_diff hk
    rcases HAp.out hk with ⟨m, s, u, h1, h2⟩ | ⟨h1, h2⟩
    · rw [HR1.out] at h1
      rw [HR2.out] at h2
      simp only [Prod.mk.injEq] at h1 h2
      obtain ⟨rfl, rfl, rfl, rfl⟩ := h1
      obtain ⟨rfl, rfl, rfl, rfl⟩ := h2
      clear hk
      obtain ⟨g7, c7, hv7, hc7, _⟩ := own_some HS7.out.own_ (by simp [rwI])
      obtain ⟨g6, c6, hv6, hc6, _⟩ := own_some HS7.out.s3.own_ (by simp [rwI])
      have hv7' : v7 = .slice (some ⟨g7, 0, none⟩) 2 c7 := hv7
      have hv6' : v6 = .slice (some ⟨g6, 0, none⟩) 2 c6 := hv6
      clear hv7 hv6
      subst hv7' hv6'
      have f0 := (own_at HS7.out.s3.own_ (i := 0) (r := [.int .i64 s]) rfl 0 rfl).1
      have f1 := (own_at HS7.out.s3.own_ (i := 1) (r := [.int .i64 u]) rfl 0 rfl).1
      have f2 := (own_at HS7.out.own_ (i := 0) (r := [.int .i64 u]) rfl 0 rfl).1
      have f3 := (own_at HS7.out.own_ (i := 1) (r := [.int .i64 s]) rfl 0 rfl).1
      simp only [Nat.zero_mul, Nat.zero_add, Nat.one_mul] at f0 f1 f2 f3
      have hss : (s == s) = true := beq_self_eq_true s
      have huu : (u == u) = true := beq_self_eq_true u
      obtain ⟨vq, hFq, _⟩ := HS7.out.s1.ceF
      obtain ⟨vp, hFp, _⟩ := HS7.out.s4.ceF
      have hm1 : m2.length ≤ 256 := by have := (good_runV HG.out (os := [⟨xk, xkey, xn, xlo⟩, ⟨yk, ykey, yn, ylo⟩]) (by intro o ho; simp at ho; rcases ho with rfl | rfl; exact HA.out; exact HB.out)).1.2; rw [HR1.out] at this; exact this
      have hSm : ∀ x, (World.cell? x ⟨g6, 0, none⟩ = some (.int .i64 s) ∧ World.cell? x ⟨g6, 1, none⟩ = some (.int .i64 u) ∧ World.cell? x ⟨g7, 0, none⟩ = some (.int .i64 u) ∧ World.cell? x ⟨g7, 1, none⟩ = some (.int .i64 s) ∧ Below w7.heap.size w7 x) → Calls Tryd.prog 18 #[.pointer (some ⟨p, 0, none⟩), .pointer (some ⟨q, 0, none⟩)] x (fun e x' => e = .returned (.bool true) ∧ (World.cell? x' ⟨g6, 0, none⟩ = some (.int .i64 s) ∧ World.cell? x' ⟨g6, 1, none⟩ = some (.int .i64 u) ∧ World.cell? x' ⟨g7, 0, none⟩ = some (.int .i64 u) ∧ World.cell? x' ⟨g7, 1, none⟩ = some (.int .i64 s) ∧ Below w7.heap.size w7 x')) := fun x h => by
        have hc := cSame p q vp vq m2 m2 x (hFp.below h.2.2.2.2) (hFq.below h.2.2.2.2) (by omega) (by omega)
        rw [decide_eq_true rfl] at hc
        refine hc.mono ?_
        rintro e x' ⟨he, hb⟩
        exact ⟨he, (hb.cell (World.block_lt_of_cell? x _ h.1)).trans h.1, (hb.cell (World.block_lt_of_cell? x _ h.2.1)).trans h.2.1, (hb.cell (World.block_lt_of_cell? x _ h.2.2.1)).trans h.2.2.1, (hb.cell (World.block_lt_of_cell? x _ h.2.2.2.1)).trans h.2.2.2.1, below_then h.2.2.2.2 hb⟩
      have hA9 : ∀ x, (World.cell? x ⟨g6, 0, none⟩ = some (.int .i64 s) ∧ World.cell? x ⟨g6, 1, none⟩ = some (.int .i64 u) ∧ World.cell? x ⟨g7, 0, none⟩ = some (.int .i64 u) ∧ World.cell? x ⟨g7, 1, none⟩ = some (.int .i64 s) ∧ Below w7.heap.size w7 x) → Calls Tryd.prog 17 #[] x (fun e x' => e = .returned (.bool true) ∧ (World.cell? x' ⟨g6, 0, none⟩ = some (.int .i64 s) ∧ World.cell? x' ⟨g6, 1, none⟩ = some (.int .i64 u) ∧ World.cell? x' ⟨g7, 0, none⟩ = some (.int .i64 u) ∧ World.cell? x' ⟨g7, 1, none⟩ = some (.int .i64 s) ∧ Below w7.heap.size w7 x')) := fun x h => (awakeB x (HEr.out.below h.2.2.2.2)).mono fun e x' ⟨he, hb⟩ => ⟨he, keepC h.1 hb, keepC h.2.1 hb, keepC h.2.2.1 hb, keepC h.2.2.2.1 hb, below_then h.2.2.2.2 hb⟩
      have HA9 := Lib.hid hA9
      have HSm := Lib.hid hSm
      clear hA9 hSm hFp hFq hm1
      go_quiet (fail)
      go_wp2_with fail
      have hd9 : World.cell? (w7.drewN (nq + 1)) ⟨g6, 0, none⟩ = some (.int .i64 s) ∧ World.cell? (w7.drewN (nq + 1)) ⟨g6, 1, none⟩ = some (.int .i64 u) ∧ World.cell? (w7.drewN (nq + 1)) ⟨g7, 0, none⟩ = some (.int .i64 u) ∧ World.cell? (w7.drewN (nq + 1)) ⟨g7, 1, none⟩ = some (.int .i64 s) ∧ Below w7.heap.size w7 (w7.drewN (nq + 1)) := ⟨f0, f1, f2, f3, drew_below _ (nq + 1)⟩
      go_region_held3 (fun x => x.cell? ⟨g6, 0, none⟩ = some (.int .i64 s) ∧ x.cell? ⟨g6, 1, none⟩ = some (.int .i64 u) ∧ x.cell? ⟨g7, 0, none⟩ = some (.int .i64 u) ∧ x.cell? ⟨g7, 1, none⟩ = some (.int .i64 s) ∧ Below w7.heap.size w7 x) ((first | assumption | exact hd9)) ((first | (go_at_call 17; (with_reducible refine (HA9.out _ (by assumption)).mono ?_); rintro e w9 ⟨rfl, hb9⟩) | (go_at_call 18; (with_reducible refine (HSm.out _ (by assumption)).mono ?_); rintro e w8 ⟨rfl, hx8⟩)))
      have HB9 := Lib.hid (below_then HW7.out hb9.2.2.2.2)
      clear hb9 hd9 hd5 hx8
      go_wp2
      exact ⟨rfl, HB9.out⟩
    · rw [HR1.out] at h1
      rw [HR2.out] at h2
      have hb1 : (er1 != 0) = true := bne_iff_ne.2 h1
      have hb2 : (er2 != 0) = true := bne_iff_ne.2 h2
      have hc1 : (er1 == 0) = false := int_diff h1
      have hc2 : (er2 == 0) = false := int_diff h2
      clear h1 h2 hk
      go_quiet (fail)
      go_wp2_with fail
      have hd9 : World.cell? (w7.drewN (nq + 1)) ⟨b2, o2 + 1, none⟩ = some (.string xkey) ∧ World.cell? (w7.drewN (nq + 1)) ⟨b2, o2 + 4 + 1, none⟩ = some (.string ykey) ∧ Below w7.heap.size w7 (w7.drewN (nq + 1)) := ⟨hE1, hE2, drew_below _ (nq + 1)⟩
      have hA9 : ∀ x, (World.cell? x ⟨b2, o2 + 1, none⟩ = some (.string xkey) ∧ World.cell? x ⟨b2, o2 + 4 + 1, none⟩ = some (.string ykey) ∧ Below w7.heap.size w7 x) → Calls Tryd.prog 17 #[] x (fun e x' => e = .returned (.bool true) ∧ (World.cell? x' ⟨b2, o2 + 1, none⟩ = some (.string xkey) ∧ World.cell? x' ⟨b2, o2 + 4 + 1, none⟩ = some (.string ykey) ∧ Below w7.heap.size w7 x')) := fun x h => (awakeB x (HEr.out.below h.2.2)).mono fun e x' ⟨he, hb⟩ => ⟨he, keepC h.1 hb, keepC h.2.1 hb, below_then h.2.2 hb⟩
      have HA9 := Lib.hid hA9
      clear hA9
      first | (go_region_held3 (fun x => x.cell? ⟨b2, o2 + 1, none⟩ = some (.string xkey) ∧ x.cell? ⟨b2, o2 + 4 + 1, none⟩ = some (.string ykey) ∧ Below w7.heap.size w7 x) ((first | assumption | exact hd9)) ((first | (go_at_call 17; (with_reducible refine (HA9.out _ (by assumption)).mono ?_); rintro e w9 ⟨rfl, hb9⟩)))) | fail
      all_goals
        have HB9 := Lib.hid (below_then HW7.out hb9.2.2)
        clear hb9 hd9 hd5
        try go_wp2
        exact ⟨rfl, HB9.out⟩
end Go.Proofs.YticgnakjnhdfhaaDoor
end

section
namespace Go.Proofs.YticgnakjnhdfhaaDoor
open Go.Proofs.BL Go.ChangeShapes Go.WideShapes Go.ChangeAt Go.RowKit Go.Deep
set_option maxRecDepth 100000
set_option linter.unusedVariables false

/-- CellsApart: what the walk gives, for every argument. -/
theorem cellsApart_contract (H : Type) (enc : TypeId × Value → H) (W : World) (base : Nat) (args : Array Value) (ds gs : List (DataW H)) (before : List MemPlace)
    (hval : ∀ (j : Nat) t v, Tryd.f5.params[j]? = some t → args[j]? = some v → Value.okWide Tryd.prog W .any base t v)
    (hW : DataW.Whole enc Tryd.prog Tryd.f5.params.toList Rows.cellsApartSpec.vars false W args.toList ds gs before) (hL : laidMetH Tryd.prog Rows.cellsApartRow.laid W) :
    Calls Tryd.prog 5 args W fun e W' => ∃ v, e = .returned v ∧ Rows.cellsApartSpec.post enc Tryd.prog Tryd.f5 false true false false W args v W' := by
  have hE := errT_of_laid hL
  have hW' := hW
  obtain ⟨p, q, hA0, hV, hpq, hfz, hnd⟩ := hW
  have hA : DataW.TrodAll enc Tryd.prog W 0 (fun _ => true) true Tryd.f5.params.toList args.toList ds p := hA0
  rw [Tryd.params5] at hA hval
  obtain ⟨v0, vs0, d0, ds0, p0, q0, hargs, rfl, rfl, h0, r0⟩ := trodAll_cons hA
  obtain ⟨v1, vs1, d1, ds1, p1, q1, rfl, rfl, rfl, h1, r1⟩ := trodAll_cons r0
  obtain ⟨v2, vs2, d2, ds2, p2, q2, rfl, rfl, rfl, h2, r2⟩ := trodAll_cons r1
  obtain ⟨rfl, rfl, rfl⟩ := trodAll_nil r2
  obtain rfl : args = #[v0, v1, v2] := by cases args; simp_all
  obtain ⟨l0, A0, c0, rfl, hc0, hr0, hm0, hw0⟩ := open_rows (hval 0 _ v0 rfl rfl) h0
  obtain ⟨o1, rfl, hw1⟩ := open_op1 (hval 1 _ v1 rfl rfl) h1
  obtain ⟨o2, rfl, hw2⟩ := open_op1 (hval 2 _ v2 rfl rfl) h2
  obtain ⟨rfl, rfl⟩ := trodVars_none hV
  clear hA0
  have hlt : ∀ x ∈ before, x.block < W.heap.size := fun x hx => by simpa using hW'.lt x hx
  have hlt0 : ∀ x ∈ p0, x.block < W.heap.size := fun x hx => hlt x (by rw [hpq]; simp [hx])
  have hlt1 : ∀ x ∈ p1, x.block < W.heap.size := fun x hx => hlt x (by rw [hpq]; simp [hx])
  have hlt2 : ∀ x ∈ p2, x.block < W.heap.size := fun x hx => hlt x (by rw [hpq]; simp [hx])
  refine (lawApart l0 o1 o2 A0 c0 W hE hc0 hr0 hm0 hw0 hw1.1 hw2.1).mono fun e W' ⟨he, hb⟩ => ?_
  subst he
  refine ⟨_, rfl, law_post (pa := p0 ++ (p1 ++ (p2 ++ []))) (by kernel_rfl) Tryd.underlying4 hW' rfl rfl rfl ?_ hb⟩
  rw [Tryd.params5]
  exact trodAll_cons_mk (Below.trod laidO (by kernel_rfl) (of_decide_eq_true (by kernel_rfl)) h0 hb hlt0) (trodAll_cons_mk (Below.trod laidO (by kernel_rfl) (of_decide_eq_true (by kernel_rfl)) h1 hb hlt1) (trodAll_cons_mk (Below.trod laidO (by kernel_rfl) (of_decide_eq_true (by kernel_rfl)) h2 hb hlt2) trodAll_mk0))

set_option maxRecDepth 100000 in
theorem cellsApart_lifted (os : Os) (started : os.Started) (H : Type) (enc : TypeId × Value → H) (F : Stop.Interp) :
    ReturnsInHanded {} Tryd.checked os 5 .any ((OpenSpec.ofChange Rows.cellsApartSpec).preRow enc Tryd.prog Tryd.f5 Rows.cellsApartRow.domain false Rows.cellsApartRow.laid) (((OpenSpec.ofChange Rows.cellsApartSpec).at F).post enc Tryd.prog Tryd.f5 false true false false) := by
  obtain ⟨places, hx⟩ : ∃ places, DataW.whole enc Tryd.prog ((laidWorld os).forCall (fun _ _ => 0) ⟨#[], #[.slice none 0 0, .agg #[.int .i64 0, .string ⟨#[]⟩, .int .i64 0, .int .i64 0], .agg #[.int .i64 0, .string ⟨#[]⟩, .int .i64 0, .int .i64 0]], []⟩).memory Tryd.f5.params.toList Rows.cellsApartSpec.vars false #[.slice none 0 0, .agg #[.int .i64 0, .string ⟨#[]⟩, .int .i64 0, .int .i64 0], .agg #[.int .i64 0, .string ⟨#[]⟩, .int .i64 0, .int .i64 0]].toList 8 = some ([.nil, .agg [.lit (.int .i64 0), .lit (.string []), .lit (.int .i64 0), .lit (.int .i64 0)], .agg [.lit (.int .i64 0), .lit (.string []), .lit (.int .i64 0), .lit (.int .i64 0)]], [], places) := ⟨[], by kernel_rfl⟩
  refine returnsInHanded_of_row (C := Tryd.checked) (s := OpenSpec.ofChange Rows.cellsApartSpec) ownK started (by kernel_rfl) Tryd.func5
    (witness_row_atRef (enc := enc) (C := Tryd.checked) false (laidWorld os) #[.slice none 0 0, .agg #[.int .i64 0, .string ⟨#[]⟩, .int .i64 0, .int .i64 0], .agg #[.int .i64 0, .string ⟨#[]⟩, .int .i64 0, .int .i64 0]] rfl (by kernel_rfl) (by kernel_rfl) (by kernel_rfl)
      (OpenSpec.preRow_of_cond 8 hx (by kernel_rfl) (fun k hk => by cases hk) (by kernel_rfl) (laid_met os _))) ?_
  intro W base args ds gs before hval hW _ _ _ hL _ _
  exact cellsApart_contract H enc W base args ds gs before hval hW hL
theorem cellsApart_said : Rows.CellsApartSaid :=
  OpenClaim.holds_of_cond 5 Tryd.f5 rfl rfl rfl rfl rfl rfl rfl ⟨rfl, rfl, rfl, rfl, rfl⟩ rfl rfl rfl rfl rfl (by kernel_rfl) Tryd.func5 (by kernel_rfl)
    (of_decide_eq_true (by kernel_rfl)) (by unfold Func.isWrapper; first | (rw [if_pos (by decide +kernel)]; kernel_rfl) | (rw [if_neg (by decide +kernel)]; exact ⟨rfl, rfl⟩))
    (fun os started H enc _ F => by rw [OpenClaim.pre_eq_preRow]; exact cellsApart_lifted os started H enc F)
theorem cellsApart_plain (f : FuncId) (fn : Func) (hf : Tryd.pinned.checked.prog.funcNamed "byroad/byroadlaw07.CellsApart" = some f) (hfn : Tryd.pinned.checked.prog.funcs[f]? = some fn) :
    true = Tryd.pinned.checked.prog.looks [] ∧ ∀ (j : Nat) t, fn.params[j]? = some t → Tryd.pinned.checked.prog.wantsStandIn t = false := by
  obtain rfl : f = 5 := Option.some.inj ((show Tryd.prog.funcNamed "byroad/byroadlaw07.CellsApart" = some 5 by kernel_rfl).symm.trans hf) |>.symm
  obtain rfl : fn = Tryd.f5 := (Option.some.inj (Tryd.func5.symm.trans hfn)).symm
  refine ⟨by kernel_rfl, fun j t ht => ?_⟩
  rw [Tryd.params5] at ht
  have hall : (#[22, 42, 42] : Array Nat).all (fun t => !Tryd.prog.wantsStandIn t) = true := by kernel_rfl
  have := Array.all_eq_true'.1 hall t (Array.mem_of_getElem? ht)
  show Tryd.prog.wantsStandIn t = false
  simpa using this
/-- The card of CellsApart. -/
theorem cellsApart_card : Rows.CellsApartCardSaid :=
  Claim7.holds_tied_plain_at .later [] _ _ _ _ cellsApart_said (fun _ h => by cases h) (by kernel_rfl) (fun _ h => by cases h) cellsApart_row_tie rfl ⟨rfl, rfl⟩ (by kernel_rfl) rfl cellsApart_plain (by kernel_rfl)

end Go.Proofs.YticgnakjnhdfhaaDoor
end
