/- CellsPieces, walked. CellsPieces: operations done in two pieces, both without an error, do what they do in one: for every argument the law's call returns true and leaves its arguments as they were. Conditions: none beyond the given statement's own. -/
import Derived.Test.YticgnakjnhdfhaaDoorJL
import Derived.Test.YticgnakjnhdfhaaDoorJW
section
set_option linter.unusedVariables false
set_option maxRecDepth 100000
namespace Go.Proofs.YticgnakjnhdfhaaDoor
open Go.Proofs.BL Go.Proofs.Peel Go.RowKit Go.Proofs.Ky

theorem Sat.fixO2 {l : List Part} {w w' : World} {v : Value} {E : TypeId} {rows : List Opr} (h : Sat l w) (hb : Below w.heap.size w w') (ho : Own w' w.heap.size E 4 v (rwO rows)) (ht : isErrT E = false := by rfl) :
    ∃ A c, v = .slice A rows.length c ∧ rows.length ≤ c ∧ ((A = none ∧ c = 0) ∨ ∃ b o, A = some ⟨b, o, none⟩) ∧ Sat (roR 4 A (rwO rows) :: l) w' := by
  obtain ⟨A, c, e, hc, hn, hS⟩ := (h.made hb ho ht).still
  rw [rwO_len] at e hc
  refine ⟨A, c, e, hc, ?_, hS⟩
  rcases ho.1.2 with ⟨h1, _⟩ | ⟨g, cap, cur, h1, _⟩
  · rw [e] at h1; injection h1 with h1 _ h2; exact .inl ⟨h1, h2⟩
  · rw [e] at h1; injection h1 with h1 _ _; exact .inr ⟨g, 0, h1⟩
theorem tmod_range (a : Int) (n : Nat) : -(n : Int) ≤ a.tmod ((n : Int) + 1) ∧ a.tmod ((n : Int) + 1) ≤ (n : Int) := by
  have h1 := Int.tmod_lt_of_pos a (show (0 : Int) < (n : Int) + 1 by omega)
  have h2 : -((n : Int) + 1) < a.tmod ((n : Int) + 1) := by
    rcases Int.le_total 0 a with h | h
    · have := Int.tmod_nonneg ((n : Int) + 1) h
      omega
    · have h3 := Int.tmod_lt_of_pos (-a) (show (0 : Int) < (n : Int) + 1 by omega)
      rw [Int.neg_tmod] at h3
      omega
  omega
theorem cutAbs (a : Int) (n : Nat) : ∃ k : Nat, k ≤ n ∧ ((k : Int) = a.tmod ((n : Int) + 1) ∧ ¬ a.tmod ((n : Int) + 1) < 0 ∨ (k : Int) = -(a.tmod ((n : Int) + 1)) ∧ a.tmod ((n : Int) + 1) < 0) := by
  have h := tmod_range a n
  by_cases hn : a.tmod ((n : Int) + 1) < 0
  · exact ⟨(-(a.tmod ((n : Int) + 1))).toNat, by omega, .inr ⟨by omega, hn⟩⟩
  · exact ⟨(a.tmod ((n : Int) + 1)).toNat, by omega, .inl ⟨by omega, hn⟩⟩
set_option maxHeartbeats 8000000 in
theorem lawPieces (rows : List Rw) (os : List Opr) (z : Int) (A0 : Option Addr) (c0 : Nat) (A1 : Option Addr) (c1 : Nat) (W : World) (hE : ErrT W)
    (hc0 : rows.length ≤ c0) (hr0 : RowsAt W 2 A0 (rwR rows)) (hm0 : rows.length ≤ 9223372036854775807) (hw0 : ∀ o ∈ rows, in64 o.2)
    (hc1 : os.length ≤ c1) (hr1 : RowsAt W 4 A1 (rwO os)) (hm1 : os.length ≤ 9223372036854775807) (hw1 : ∀ o ∈ os, in64 o.n ∧ in64 o.lo) :
    Calls Tryd.prog 4 #[.slice A0 rows.length c0, .slice A1 os.length c1, .int .i64 z] W (LawPost W) := by
  refine via fun Q hQ => ?_
  have H64 := Lib.hid (r64_cut hw0)
  have H64o := Lib.hid (o64_cut hw1)
  have HS0 := Lib.hid ((Sat.start W).old_err hE)
  have HC1 := Lib.hid (cutO_calls A1 c1 os W hr1 hm1 hc1)
  have HC2 : Hid (∀ w, Below W.heap.size W w → Calls Tryd.prog 10 #[.slice A0 rows.length c0] w (CutRPost rows w)) := Lib.hid (fun w hb => lcutR A0 c0 rows w (hr0.below hb) hm0 hc0)
  clear hr0 hr1 hw1 hw0 hE
  generalize rows.length = n0 at *
  generalize os.length = n1 at *
  have hcl := cutRs_len rows
  generalize hcr : cutRs rows = cr at *
  have HCr := Lib.hid hcr
  have hol := cutOs_len os
  generalize hoc : cutOs os = oc at *
  have HOc := Lib.hid hoc
  clear hcr hoc
  obtain ⟨k, hk, hkz⟩ := cutAbs z oc.length
  go_enter Tryd.func4, Tryd.ntmps4
  go_wp2_with fail
  refine HC1.out.mono ?_
  rintro e w1 ⟨v1, rfl, ho1, hb1⟩
  rw [HOc.out] at ho1
  obtain ⟨A2, c2, rfl, hc2, hA2, hS1⟩ := HS0.out.fixO2 hb1 ho1
  have HCu := Lib.hid (HC2.out w1 hS1.s2.old_)
  have HS1 := Lib.hid hS1
  have HCc := Lib.hid hc2
  clear hb1 ho1 hS1 HC1
  have hz1 := tmod_range z oc.length
  obtain ⟨hz1, hz2⟩ := hz1
  rcases hkz with ⟨hkz, hneg⟩ | ⟨hkz, hneg⟩
  all_goals
    have HKz := Lib.hid hkz
    clear hkz
    go_wp2_with fail
    rw [← HKz.out]
    clear hz1 hz2 hneg HKz
    refine HCu.out.mono ?_
    rintro e w2 ⟨v2, rfl, ho2, hb2⟩
    rw [HCr.out] at ho2
    obtain ⟨A4, c4, rfl, hc4, hS2⟩ := HS1.out.fixR hb2 ho2
    have HNw := Lib.hid (cNew A4 c4 cr _ _ hS2 (by omega) hc4)
    clear hb2 ho2 hS2 HCu
    go_wp2_with fail
    refine HNw.out.mono ?_
    rintro e w3 ⟨p, rfl, hS3⟩
    have hS3b := hS3.s1.drop
    have HCu := Lib.hid (HC2.out w3 hS3b.s3.old_)
    have HS3 := Lib.hid hS3b
    clear hS3 hS3b HNw
    go_wp2_with fail
    refine HCu.out.mono ?_
    rintro e w4 ⟨v4, rfl, ho4, hb4⟩
    rw [HCr.out] at ho4
    obtain ⟨A5, c5, rfl, hc5, hS4⟩ := HS3.out.fixR hb4 ho4
    have HNw := Lib.hid (cNew A5 c5 cr _ _ hS4 (by omega) hc5)
    clear hb4 ho4 hS4 HCu
    go_wp2_with fail
    refine HNw.out.mono ?_
    rintro e w5 ⟨q, rfl, hS5⟩
    have hS5b := hS5.s1.drop
    have HG := Lib.hid (good_new H64.out)
    generalize newP tx okK cr [] = l0 at HG hS5b
    have hS6 := (hS5b.s2.roTake k).s4.s4
    rw [show (rwO oc).take k = rwO (oc.take k) from by rw [rwO, rwO, List.map_take]] at hS6
    have htk : (oc.take k).length = k := by rw [List.length_take]; omega
    have hRu := cRun p l0 A2 c2 (oc.take k) _ w5 hS6 HG.out.1 HG.out.2.1 (fun o ho => H64o.out o (List.mem_of_mem_take ho)) (by omega) (by omega)
    rw [htk] at hRu
    have HRu := Lib.hid hRu
    have HP := Lib.hid (pieces (l := l0) HG.out (a := oc.take k) (b := oc.drop k) (fun o ho => H64o.out o (List.mem_of_mem_take ho)))
    have HPl := Lib.hid (show oc.take k ++ oc.drop k = oc from List.take_append_drop _ _)
    have HG1 := Lib.hid (good_runV HG.out (os := oc.take k) (fun o ho => H64o.out o (List.mem_of_mem_take ho)))
    have htl1 := runV_told (l := l0) (os := oc.take k)
    generalize runV l0 (oc.take k) = r1 at HRu HP HG1 htl1
    obtain ⟨m1, ts1, pl1, er1⟩ := r1
    try simp only at htl1
    have HTk := Lib.hid htk
    have HTl1 := Lib.hid htl1
    clear hS5 hS5b hS6 hRu HNw htk htl1
    have hkc : (k : Int) ≤ (oc.length : Int) := by omega
    have hkc2 : (oc.length : Int) ≤ (c2 : Int) := by have := HCc.out; omega
    go_wp2_with fail
    refine HRu.out.mono ?_
    rintro e w6 ⟨v6, rfl, hS7⟩
    have HS7 := Lib.hid hS7
    clear hS7 HRu
    have htl2 := runV_told (l := m1) (os := oc.drop k)
    have HG2 := Lib.hid (good_runV HG1.out (os := oc.drop k) (fun o ho => H64o.out o (List.mem_of_mem_drop ho)))
    have hR2 : ∀ (B : Option Addr) (d : Nat) (l2 : List Part) (w : World), Sat (ceP p m1 :: errP :: roR 4 B (rwO (oc.drop k)) :: l2) w → (oc.drop k).length ≤ d → Calls Tryd.prog 13 #[.pointer (some ⟨p, 0, none⟩), .slice B (oc.drop k).length d] w (RunPost p (roR 4 B (rwO (oc.drop k)) :: l2) (runV m1 (oc.drop k))) := fun B d l2 w h hd =>
      cRun p m1 B d (oc.drop k) l2 w h HG1.out.1 HG1.out.2.1 (fun o ho => H64o.out o (List.mem_of_mem_drop ho)) (by rw [List.length_drop]; omega) hd
    have hP2 := HP.out
    try simp only at hP2
    have hdl : (oc.drop k).length = oc.length - k := List.length_drop
    rw [hdl] at hR2 htl2
    generalize runV m1 (oc.drop k) = r2 at hR2 hP2 htl2 HG2
    obtain ⟨m2, ts2, pl2, er2⟩ := r2
    try simp only at hP2 htl2 HG2
    have HP2 := Lib.hid hP2
    have HR2 := Lib.hid hR2
    have HTl2 := Lib.hid htl2
    have HDl := Lib.hid hdl
    clear hP2 hR2 htl2 hdl HP
    by_cases hck : c2 = k
    · have hkl : oc.length = k := by have := HCc.out; omega
      have HRu2 : Hid (Calls Tryd.prog 13 #[.pointer (some ⟨p, 0, none⟩), .slice A2 0 0] w6 (RunPost p (roR 4 A2 (rwO (oc.drop k)) :: _) (m2, ts2, pl2, er2))) := Lib.hid (by
        have h0 : oc.drop k = [] := List.drop_of_length_le (by omega)
        have := HR2.out A2 0 _ w6 ((by rw [h0]; exact HS7.out.s4.roNil 4 A2 : Sat (roR 4 A2 (rwO (oc.drop k)) :: _) w6).s4.s4) (by omega)
        rwa [show oc.length - k = 0 by omega] at this)
      have HKl := Lib.hid hkl
      clear hkl
      subst hck
      go_wp2_with fail
      (with_reducible refine HRu2.out.mono ?_)
      rintro e w7 ⟨v7, rfl, hS8⟩
      obtain ⟨A7, c7, hv7, hc7, hA7, _⟩ := hS8.own_.slv'
      rw [rwI_len] at hv7 hc7
      simp only at hv7 hc7
      subst hv7
      have hS9 := hS8.s3.drop.s5.drop.s3.s3.s5
      have hR3 := cRun q l0 _ c2 oc _ w7 hS9 HG.out.1 HG.out.2.1 H64o.out (by omega) HCc.out
      have hP := HP2.out
      rw [HPl.out] at hP
      have htl3 := runV_told (l := l0) (os := oc)
      generalize runV l0 oc = r3 at hR3 hP htl3
      obtain ⟨m3, ts3, pl3, er3⟩ := r3
      simp only at hP htl3
      have HR3 := Lib.hid hR3
      have HP3 := Lib.hid hP
      have HA7 := Lib.hid hA7
      have HC7 := Lib.hid hc7
      clear hS8 hS9 hR3 hP HRu2 hA7 hc7
      go_wp2_with fail
      (with_reducible refine HR3.out.mono ?_)
      rintro e w8 ⟨v8, rfl, hS10⟩
      obtain ⟨A8, c8, hv8, hc8, _, _⟩ := hS10.own_.slv'
      rw [rwI_len] at hv8 hc8
      simp only at hv8 hc8
      subst hv8
      have HS10 := Lib.hid hS10
      have HC8 := Lib.hid hc8
      clear hS10 HR3 hc8
      by_cases hbad : er1 ≠ 0 ∨ er2 ≠ 0
      · have he3 := HP3.out.2 hbad
        have hb3 : (er3 != 0) = true := bne_iff_ne.2 he3
        have HAw := Lib.hid (lawake (old W :: []) w8 HS10.out.s2.s1.drop.s1.drop.s1.drop.s1.drop.s1.drop.s1.drop)
        by_cases h1 : er1 ≠ 0
        · have hb1 : (er1 != 0) = true := bne_iff_ne.2 h1
          clear hbad he3 h1
          go_wp2_with fail
          (with_reducible refine HAw.out.mono ?_)
          rintro e w10 ⟨rfl, hS11⟩
          have HB := Lib.hid hS11.s1.old_
          clear hS11 HAw
          go_wp2
          exact ⟨rfl, HB.out⟩
        · have h10 : er1 = 0 := Classical.not_not.1 h1
          have hb2 : (er2 != 0) = true := bne_iff_ne.2 (hbad.resolve_left h1)
          subst h10
          clear hbad he3 h1
          go_wp2_with fail
          (with_reducible refine HAw.out.mono ?_)
          rintro e w10 ⟨rfl, hS11⟩
          have HB := Lib.hid hS11.s1.old_
          clear hS11 HAw
          go_wp2
          exact ⟨rfl, HB.out⟩
      · have h1 : er1 = 0 := Classical.not_not.1 (fun h => hbad (.inl h))
        have h2 : er2 = 0 := Classical.not_not.1 (fun h => hbad (.inr h))
        subst h1 h2
        have hP4 := HP3.out.1 rfl rfl
        simp only [Prod.mk.injEq] at hP4
        obtain ⟨rfl, hts3, rfl, rfl⟩ := hP4
        have HT3 := Lib.hid hts3
        have hln : ts3.length ≤ 1000 := by rw [hts3, List.length_append]; have := HTl1.out; have := HTl2.out; have := HTk.out; omega
        clear hts3
        have hS11 := HS10.out.s3.drop.s5
        have HS11 := Lib.hid hS11
        have HAp := Lib.hid (show (rwI ts1).length + (rwI ts2).length ≤ 100 from by rw [rwI_len, rwI_len]; have := HTl1.out; have := HTl2.out; have := HTk.out; omega)
        clear hbad hS11 HP3 htl3
        go_wp2_with (at_builtin; (refine satAppN (W := w8) 2 1 8 (.int .i64 0) rfl (.tmp 79) (.tmp 80) 29 rfl Tryd.underlying29 (by kernel_rfl) rfl (by decide) (by decide) _ (rwI ts1) (rwI ts2) rfl A7 ts2.length c7 rfl (by rw [rwI_len]) HA7.out HS11.out.s4.ownRows (fun r hr => by obtain ⟨x, _, rfl⟩ := List.mem_map.1 hr; rfl) (fun r hr u hu => by obtain ⟨x, _, rfl⟩ := List.mem_map.1 hr; simp at hu; subst hu; rfl) HS11.out rfl (by have := HAp.out; omega) ?_); intro v9 w9 hS12; rw [show rwI ts1 ++ rwI ts2 = rwI ts3 from by rw [HT3.out]; simp [rwI]] at hS12; obtain ⟨A9, c9, hv9, hc9, _, _⟩ := hS12.own_.slv'; rw [rwI_len] at hv9 hc9; subst hv9; have HS12 := Lib.hid hS12; have HNu := Lib.hid (rnums A9 A8 c9 c8 ts3 w9 hS12.ownRows hS12.s1.ownRows (by omega) hc9 HC8.out); clear hS12 hc9)
        (with_reducible refine HNu.out.mono ?_)
        rintro e w10 ⟨rfl, hb10⟩
        have hS13 := HS12.out.below hb10
        obtain ⟨vp, hFp, _⟩ := hS13.s5.ceF
        obtain ⟨vq, hFq, _⟩ := hS13.s2.ceF
        have hm2 := HG2.out.1.2
        have hSm := cSame p q vp vq m3 m3 w10 hFp hFq (by omega) (by omega)
        rw [decide_eq_true rfl] at hSm
        have HSm := Lib.hid hSm
        have HS13 := Lib.hid hS13
        clear hb10 hS13 hFp hFq hSm HNu
        go_wp2_with fail
        (with_reducible refine HSm.out.mono ?_)
        rintro e w11 ⟨rfl, hb11⟩
        have HAw := Lib.hid (lawake (old W :: []) w11 (HS13.out.below hb11).s3.s1.drop.s1.drop.s1.drop.s1.drop.s1.drop)
        clear hb11 HSm
        go_wp2_with fail
        (with_reducible refine HAw.out.mono ?_)
        rintro e w12 ⟨rfl, hS14⟩
        have HB := Lib.hid hS14.s1.old_
        clear hS14 HAw
        go_wp2
        exact ⟨rfl, HB.out⟩

    · rcases hA2 with ⟨rfl, h0⟩ | ⟨b, o, rfl⟩
      · exact absurd h0 (by have := HCc.out; omega)
      · have HRu2 : Hid (Calls Tryd.prog 13 #[.pointer (some ⟨p, 0, none⟩), .slice (some ⟨b, o + k * 4, none⟩) (oc.length - k) (c2 - k)] w6 (RunPost p (roR 4 (some ⟨b, o + k * 4, none⟩) (rwO (oc.drop k)) :: _) (m2, ts2, pl2, er2))) := Lib.hid (by
          have h0 := HS7.out.s4.roDrop k
          rw [show (rwO oc).drop k = rwO (oc.drop k) from by rw [rwO, rwO, List.map_drop]] at h0
          exact HR2.out _ (c2 - k) _ w6 h0.s4.s4 (by have := HCc.out; omega))
        go_wp2_with fail
        (with_reducible refine HRu2.out.mono ?_)
        rintro e w7 ⟨v7, rfl, hS8⟩
        obtain ⟨A7, c7, hv7, hc7, hA7, _⟩ := hS8.own_.slv'
        rw [rwI_len] at hv7 hc7
        simp only at hv7 hc7
        subst hv7
        have hS9 := hS8.s3.drop.s5.drop.s3.s3.s5
        have hR3 := cRun q l0 _ c2 oc _ w7 hS9 HG.out.1 HG.out.2.1 H64o.out (by omega) HCc.out
        have hP := HP2.out
        rw [HPl.out] at hP
        have htl3 := runV_told (l := l0) (os := oc)
        generalize runV l0 oc = r3 at hR3 hP htl3
        obtain ⟨m3, ts3, pl3, er3⟩ := r3
        simp only at hP htl3
        have HR3 := Lib.hid hR3
        have HP3 := Lib.hid hP
        have HA7 := Lib.hid hA7
        have HC7 := Lib.hid hc7
        clear hS8 hS9 hR3 hP HRu2 hA7 hc7
        go_wp2_with fail
        (with_reducible refine HR3.out.mono ?_)
        rintro e w8 ⟨v8, rfl, hS10⟩
        obtain ⟨A8, c8, hv8, hc8, _, _⟩ := hS10.own_.slv'
        rw [rwI_len] at hv8 hc8
        simp only at hv8 hc8
        subst hv8
        have HS10 := Lib.hid hS10
        have HC8 := Lib.hid hc8
        clear hS10 HR3 hc8
        by_cases hbad : er1 ≠ 0 ∨ er2 ≠ 0
        · have he3 := HP3.out.2 hbad
          have hb3 : (er3 != 0) = true := bne_iff_ne.2 he3
          have HAw := Lib.hid (lawake (old W :: []) w8 HS10.out.s2.s1.drop.s1.drop.s1.drop.s1.drop.s1.drop.s1.drop)
          by_cases h1 : er1 ≠ 0
          · have hb1 : (er1 != 0) = true := bne_iff_ne.2 h1
            clear hbad he3 h1
            go_wp2_with fail
            (with_reducible refine HAw.out.mono ?_)
            rintro e w10 ⟨rfl, hS11⟩
            have HB := Lib.hid hS11.s1.old_
            clear hS11 HAw
            go_wp2
            exact ⟨rfl, HB.out⟩
          · have h10 : er1 = 0 := Classical.not_not.1 h1
            have hb2 : (er2 != 0) = true := bne_iff_ne.2 (hbad.resolve_left h1)
            subst h10
            clear hbad he3 h1
            go_wp2_with fail
            (with_reducible refine HAw.out.mono ?_)
            rintro e w10 ⟨rfl, hS11⟩
            have HB := Lib.hid hS11.s1.old_
            clear hS11 HAw
            go_wp2
            exact ⟨rfl, HB.out⟩
        · have h1 : er1 = 0 := Classical.not_not.1 (fun h => hbad (.inl h))
          have h2 : er2 = 0 := Classical.not_not.1 (fun h => hbad (.inr h))
          subst h1 h2
          have hP4 := HP3.out.1 rfl rfl
          simp only [Prod.mk.injEq] at hP4
          obtain ⟨rfl, hts3, rfl, rfl⟩ := hP4
          have HT3 := Lib.hid hts3
          have hln : ts3.length ≤ 1000 := by rw [hts3, List.length_append]; have := HTl1.out; have := HTl2.out; have := HTk.out; omega
          clear hts3
          have hS11 := HS10.out.s3.drop.s5
          have HS11 := Lib.hid hS11
          have HAp := Lib.hid (show (rwI ts1).length + (rwI ts2).length ≤ 100 from by rw [rwI_len, rwI_len]; have := HTl1.out; have := HTl2.out; have := HTk.out; omega)
          clear hbad hS11 HP3 htl3
          go_wp2_with (at_builtin; (refine satAppN (W := w8) 2 1 8 (.int .i64 0) rfl (.tmp 79) (.tmp 80) 29 rfl Tryd.underlying29 (by kernel_rfl) rfl (by decide) (by decide) _ (rwI ts1) (rwI ts2) rfl A7 ts2.length c7 rfl (by rw [rwI_len]) HA7.out HS11.out.s4.ownRows (fun r hr => by obtain ⟨x, _, rfl⟩ := List.mem_map.1 hr; rfl) (fun r hr u hu => by obtain ⟨x, _, rfl⟩ := List.mem_map.1 hr; simp at hu; subst hu; rfl) HS11.out rfl (by have := HAp.out; omega) ?_); intro v9 w9 hS12; rw [show rwI ts1 ++ rwI ts2 = rwI ts3 from by rw [HT3.out]; simp [rwI]] at hS12; obtain ⟨A9, c9, hv9, hc9, _, _⟩ := hS12.own_.slv'; rw [rwI_len] at hv9 hc9; subst hv9; have HS12 := Lib.hid hS12; have HNu := Lib.hid (rnums A9 A8 c9 c8 ts3 w9 hS12.ownRows hS12.s1.ownRows (by omega) hc9 HC8.out); clear hS12 hc9)
          (with_reducible refine HNu.out.mono ?_)
          rintro e w10 ⟨rfl, hb10⟩
          have hS13 := HS12.out.below hb10
          obtain ⟨vp, hFp, _⟩ := hS13.s5.ceF
          obtain ⟨vq, hFq, _⟩ := hS13.s2.ceF
          have hm2 := HG2.out.1.2
          have hSm := cSame p q vp vq m3 m3 w10 hFp hFq (by omega) (by omega)
          rw [decide_eq_true rfl] at hSm
          have HSm := Lib.hid hSm
          have HS13 := Lib.hid hS13
          clear hb10 hS13 hFp hFq hSm HNu
          go_wp2_with fail
          (with_reducible refine HSm.out.mono ?_)
          rintro e w11 ⟨rfl, hb11⟩
          have HAw := Lib.hid (lawake (old W :: []) w11 (HS13.out.below hb11).s3.s1.drop.s1.drop.s1.drop.s1.drop.s1.drop)
          clear hb11 HSm
          go_wp2_with fail
          (with_reducible refine HAw.out.mono ?_)
          rintro e w12 ⟨rfl, hS14⟩
          have HB := Lib.hid hS14.s1.old_
          clear hS14 HAw
          go_wp2
          exact ⟨rfl, HB.out⟩

end Go.Proofs.YticgnakjnhdfhaaDoor
end

section
namespace Go.Proofs.YticgnakjnhdfhaaDoor
open Go.Proofs.BL Go.ChangeShapes Go.WideShapes Go.ChangeAt Go.RowKit Go.Deep
set_option maxRecDepth 100000
set_option linter.unusedVariables false

/-- CellsPieces: what the walk gives, for every argument. -/
theorem cellsPieces_contract (H : Type) (enc : TypeId × Value → H) (W : World) (base : Nat) (args : Array Value) (ds gs : List (DataW H)) (before : List MemPlace)
    (hval : ∀ (j : Nat) t v, Tryd.f4.params[j]? = some t → args[j]? = some v → Value.okWide Tryd.prog W .any base t v)
    (hW : DataW.Whole enc Tryd.prog Tryd.f4.params.toList Rows.cellsPiecesSpec.vars false W args.toList ds gs before) (hL : laidMetH Tryd.prog Rows.cellsPiecesRow.laid W) :
    Calls Tryd.prog 4 args W fun e W' => ∃ v, e = .returned v ∧ Rows.cellsPiecesSpec.post enc Tryd.prog Tryd.f4 false true false false W args v W' := by
  have hE := errT_of_laid hL
  have hW' := hW
  obtain ⟨p, q, hA0, hV, hpq, hfz, hnd⟩ := hW
  have hA : DataW.TrodAll enc Tryd.prog W 0 (fun _ => true) true Tryd.f4.params.toList args.toList ds p := hA0
  rw [Tryd.params4] at hA hval
  obtain ⟨v0, vs0, d0, ds0, p0, q0, hargs, rfl, rfl, h0, r0⟩ := trodAll_cons hA
  obtain ⟨v1, vs1, d1, ds1, p1, q1, rfl, rfl, rfl, h1, r1⟩ := trodAll_cons r0
  obtain ⟨v2, vs2, d2, ds2, p2, q2, rfl, rfl, rfl, h2, r2⟩ := trodAll_cons r1
  obtain ⟨rfl, rfl, rfl⟩ := trodAll_nil r2
  obtain rfl : args = #[v0, v1, v2] := by cases args; simp_all
  obtain ⟨l0, A0, c0, rfl, hc0, hr0, hm0, hw0⟩ := open_rows (hval 0 _ v0 rfl rfl) h0
  obtain ⟨l1, A1, c1, rfl, hc1, hr1, hm1, hw1⟩ := open_ops (hval 1 _ v1 rfl rfl) h1
  obtain ⟨n2, rfl, _, _, hw2⟩ := open_int Tryd.underlying3 (hval 2 _ v2 rfl rfl) h2
  obtain ⟨rfl, rfl⟩ := trodVars_none hV
  clear hA0
  have hlt : ∀ x ∈ before, x.block < W.heap.size := fun x hx => by simpa using hW'.lt x hx
  have hlt0 : ∀ x ∈ p0, x.block < W.heap.size := fun x hx => hlt x (by rw [hpq]; simp [hx])
  have hlt1 : ∀ x ∈ p1, x.block < W.heap.size := fun x hx => hlt x (by rw [hpq]; simp [hx])
  have hlt2 : ∀ x ∈ p2, x.block < W.heap.size := fun x hx => hlt x (by rw [hpq]; simp [hx])
  refine (lawPieces l0 l1 n2 A0 c0 A1 c1 W hE hc0 hr0 hm0 hw0 hc1 hr1 hm1 hw1).mono fun e W' ⟨he, hb⟩ => ?_
  subst he
  refine ⟨_, rfl, law_post (pa := p0 ++ (p1 ++ (p2 ++ []))) (by kernel_rfl) Tryd.underlying4 hW' rfl rfl rfl ?_ hb⟩
  rw [Tryd.params4]
  exact trodAll_cons_mk (Below.trod laidO (by kernel_rfl) (of_decide_eq_true (by kernel_rfl)) h0 hb hlt0) (trodAll_cons_mk (Below.trod laidO (by kernel_rfl) (of_decide_eq_true (by kernel_rfl)) h1 hb hlt1) (trodAll_cons_mk (Below.trod laidO (by kernel_rfl) (of_decide_eq_true (by kernel_rfl)) h2 hb hlt2) trodAll_mk0))

set_option maxRecDepth 100000 in
theorem cellsPieces_lifted (os : Os) (started : os.Started) (H : Type) (enc : TypeId × Value → H) (F : Stop.Interp) :
    ReturnsInHanded {} Tryd.checked os 4 .any ((OpenSpec.ofChange Rows.cellsPiecesSpec).preRow enc Tryd.prog Tryd.f4 Rows.cellsPiecesRow.domain false Rows.cellsPiecesRow.laid) (((OpenSpec.ofChange Rows.cellsPiecesSpec).at F).post enc Tryd.prog Tryd.f4 false true false false) := by
  obtain ⟨places, hx⟩ : ∃ places, DataW.whole enc Tryd.prog ((laidWorld os).forCall (fun _ _ => 0) ⟨#[], #[.slice none 0 0, .slice none 0 0, .int .i64 0], []⟩).memory Tryd.f4.params.toList Rows.cellsPiecesSpec.vars false #[.slice none 0 0, .slice none 0 0, .int .i64 0].toList 8 = some ([.nil, .nil, .lit (.int .i64 0)], [], places) := ⟨[], by kernel_rfl⟩
  refine returnsInHanded_of_row (C := Tryd.checked) (s := OpenSpec.ofChange Rows.cellsPiecesSpec) ownK started (by kernel_rfl) Tryd.func4
    (witness_row_atRef (enc := enc) (C := Tryd.checked) false (laidWorld os) #[.slice none 0 0, .slice none 0 0, .int .i64 0] rfl (by kernel_rfl) (by kernel_rfl) (by kernel_rfl)
      (OpenSpec.preRow_of_cond 8 hx (by kernel_rfl) (fun k hk => by cases hk) (by kernel_rfl) (laid_met os _))) ?_
  intro W base args ds gs before hval hW _ _ _ hL _ _
  exact cellsPieces_contract H enc W base args ds gs before hval hW hL
theorem cellsPieces_said : Rows.CellsPiecesSaid :=
  OpenClaim.holds_of_cond 4 Tryd.f4 rfl rfl rfl rfl rfl rfl rfl ⟨rfl, rfl, rfl, rfl, rfl⟩ rfl rfl rfl rfl rfl (by kernel_rfl) Tryd.func4 (by kernel_rfl)
    (of_decide_eq_true (by kernel_rfl)) (by unfold Func.isWrapper; first | (rw [if_pos (by decide +kernel)]; kernel_rfl) | (rw [if_neg (by decide +kernel)]; exact ⟨rfl, rfl⟩))
    (fun os started H enc _ F => by rw [OpenClaim.pre_eq_preRow]; exact cellsPieces_lifted os started H enc F)
theorem cellsPieces_plain (f : FuncId) (fn : Func) (hf : Tryd.pinned.checked.prog.funcNamed "byroad/byroadlaw07.CellsPieces" = some f) (hfn : Tryd.pinned.checked.prog.funcs[f]? = some fn) :
    true = Tryd.pinned.checked.prog.looks [] ∧ ∀ (j : Nat) t, fn.params[j]? = some t → Tryd.pinned.checked.prog.wantsStandIn t = false := by
  obtain rfl : f = 4 := Option.some.inj ((show Tryd.prog.funcNamed "byroad/byroadlaw07.CellsPieces" = some 4 by kernel_rfl).symm.trans hf) |>.symm
  obtain rfl : fn = Tryd.f4 := (Option.some.inj (Tryd.func4.symm.trans hfn)).symm
  refine ⟨by kernel_rfl, fun j t ht => ?_⟩
  rw [Tryd.params4] at ht
  have hall : (#[22, 27, 3] : Array Nat).all (fun t => !Tryd.prog.wantsStandIn t) = true := by kernel_rfl
  have := Array.all_eq_true'.1 hall t (Array.mem_of_getElem? ht)
  show Tryd.prog.wantsStandIn t = false
  simpa using this
/-- The card of CellsPieces. -/
theorem cellsPieces_card : Rows.CellsPiecesCardSaid :=
  Claim7.holds_tied_plain_at .later [] _ _ _ _ cellsPieces_said (fun _ h => by cases h) (by kernel_rfl) (fun _ h => by cases h) cellsPieces_row_tie rfl ⟨rfl, rfl⟩ (by kernel_rfl) rfl cellsPieces_plain (by kernel_rfl)

end Go.Proofs.YticgnakjnhdfhaaDoor
end
