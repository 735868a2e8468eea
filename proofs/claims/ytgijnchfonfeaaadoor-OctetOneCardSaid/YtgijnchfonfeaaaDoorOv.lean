/- Chapter 2's laws, walked: OctetOne. -/
import Derived.Test.YtgijnchfonfeaaaDoorOw
import Derived.Test.YtgijnchfonfeaaaDoorRg
import Derived.Deep.DeepCutAuto
namespace Go.Proofs.YtgijnchfonfeaaaDoor
open Go.Proofs.BL Go.Proofs.Peel Go.RowKit
set_option maxRecDepth 100000
set_option linter.unusedVariables false
set_option linter.unusedSimpArgs false

set_option maxHeartbeats 8000000 in
theorem lawOne (A : Option Addr) (cp : Nat) (bs : List UInt8) (w : World) (hE : ErrT w) (hcp : bs.length ≤ cp) (hr : RowsAt w 1 A (bys bs)) (hm : bs.length ≤ 9223372036854775807) :
    Calls Tryd.prog 3 #[.slice A bs.length cp] w (Ans w (.bool true)) := by
  have HE := Lib.hid hE
  have hr3 : RowsAt w 1 A (bys (bs.take 300)) := by rw [bys, List.map_take]; exact hr.take 300
  have hkl : (bs.take 300).length = if bs.length ≤ 300 then bs.length else 300 := by
    rw [List.length_take]
    split <;> omega
  have hK : (if bs.length ≤ 300 then bs.length else 300) ≤ 300 ∧ (if bs.length ≤ 300 then bs.length else 300) ≤ cp := by split <;> omega
  have hK1 : bs.length ≤ 300 → (if bs.length ≤ 300 then bs.length else 300) = bs.length := fun h => if_pos h
  have hK2 : ¬ bs.length ≤ 300 → (if bs.length ≤ 300 then bs.length else 300) = 300 := fun h => if_neg h
  generalize (if bs.length ≤ 300 then bs.length else 300) = K at hkl hK hK1 hK2
  generalize bs.take 300 = bl at hr3 hkl
  have HKL := Lib.hid hkl
  have HR := Lib.hid hr3
  have hl1000 : bl.length ≤ 1000 := by rw [hkl]; omega
  have HL1 := Lib.hid hl1000
  have HK1 := Lib.hid hK1
  have HK2 := Lib.hid hK2
  clear hE hr hr3 hkl hK1 hK2 hl1000
  refine via fun Q hQ => ?_
  go_enter Tryd.func3, Tryd.ntmps3
  go_upto_if 13 with fail
  go_cut [0] (fun s0 W => s0 = .slice A K cp ∧ w = W)
  case first =>
    by_cases h300 : bs.length ≤ 300
    · go_wp2_with fail
      go_meet
      exact ⟨by rw [HK1.out h300], rfl⟩
    · go_wp2_with fail
      go_meet
      exact ⟨by rw [HK2.out h300], rfl⟩
  case rest =>
    obtain ⟨rfl, rfl⟩ := hcut
    clear HK1 HK2 hcp hm
    have hcp := hK.2
    go_wp2_with fail
    refine (oofK A cp bl K HKL.out w hcp HR.out).mono ?_
    rintro e x1 ⟨rfl, hr, hb⟩
    have HR1 := Lib.hid hr
    have HRb1 := Lib.hid (HR.out.below hb)
    have HB1 := Lib.hid hb
    clear hr hb
    go_wp2_with fail
    refine (oofK A cp bl K HKL.out x1 hcp HRb1.out).mono ?_
    rintro e x2 ⟨rfl, hr, hb⟩
    have HR2 := Lib.hid hr
    have HR12 := Lib.hid (HR1.out.below hb)
    have HRb2 := Lib.hid (HRb1.out.below hb)
    have HB2 := Lib.hid (below_then HB1.out hb)
    clear hr hb
    go_wp2_with fail
    refine (oofK A cp bl K HKL.out x2 hcp HRb2.out).mono ?_
    rintro e x3 ⟨rfl, hr, hb⟩
    have HR3 := Lib.hid hr
    have HR13 := Lib.hid (HR12.out.below hb)
    have HR23 := Lib.hid (HR2.out.below hb)
    have HRb3 := Lib.hid (HRb2.out.below hb)
    have HB3 := Lib.hid (below_then HB2.out hb)
    clear hr hb
    go_wp2_with fail
    refine (oofK A cp bl K HKL.out x3 hcp HRb3.out).mono ?_
    rintro e x4 ⟨rfl, hr, hb⟩
    have HR4 := Lib.hid hr
    have HR14 := Lib.hid (HR13.out.below hb)
    have HR24 := Lib.hid (HR23.out.below hb)
    have HR34 := Lib.hid (HR3.out.below hb)
    have HRb4 := Lib.hid (HRb3.out.below hb)
    have HB4 := Lib.hid (below_then HB3.out hb)
    clear hr hb
    have l1 : w.heap.size < x1.heap.size := by obtain ⟨_, _, _, hB, _⟩ := HR1.out; exact hB.lt
    have l2 : x1.heap.size < x2.heap.size := by obtain ⟨_, _, _, hB, _⟩ := HR2.out; exact hB.lt
    have l3 : x2.heap.size < x3.heap.size := by obtain ⟨_, _, _, hB, _⟩ := HR3.out; exact hB.lt
    have l0 : w.heap.size ≤ w.heap.size := Nat.le_refl _
    clear HR1 HR2 HR3 HR12 HR13 HR23 HRb1 HRb2 HRb3 HB1 HB2 HB3
    generalize hp1 : w.heap.size = p1 at HR14 l1 l0 ⊢
    generalize x1.heap.size = p2 at HR24 l1 l2 ⊢
    generalize x2.heap.size = p3 at HR34 l2 l3 ⊢
    generalize x3.heap.size = p4 at HR4 l3 ⊢
    have hll : bl.length ≤ 1099511627776 := by have := HL1.out; omega
    go_wp2_with fail
    refine (mNat x4 hll HR14.out).mono ?_
    generalize hq1 : rdNat bl 0 [] = st1
    obtain ⟨n, a1, c1⟩ := st1
    rintro e x5 ⟨rfl, hr, hf⟩
    have HQ1 := Lib.hid hq1
    have HA1 := Lib.hid hr
    have HA2 := Lib.hid (Rd.other HR24.out HR14.out (by omega) hf)
    have HA3 := Lib.hid (Rd.other HR34.out HR14.out (by omega) hf)
    have HA4 := Lib.hid (Rd.other HR4.out HR14.out (by omega) hf)
    have HAb := Lib.hid (rows_rd HR14.out HRb4.out hf)
    have HAB := Lib.hid (below_step HB4.out (Nat.le_of_eq hp1) hf)
    clear hq1 hr hf HR14 HR24 HR34 HR4 HRb4 HB4
    go_wp2_with fail
    refine (mNum x5 hll HA2.out).mono ?_
    generalize hq1 : rdNum bl 0 [] = st1
    obtain ⟨m, a2, c2⟩ := st1
    rintro e x6 ⟨rfl, hr, hf⟩
    have HQ2 := Lib.hid hq1
    have HC1 := Lib.hid (Rd.other HA1.out HA2.out (by omega) hf)
    have HC2 := Lib.hid hr
    have HC3 := Lib.hid (Rd.other HA3.out HA2.out (by omega) hf)
    have HC4 := Lib.hid (Rd.other HA4.out HA2.out (by omega) hf)
    have HCb := Lib.hid (rows_rd HA2.out HAb.out hf)
    have HCB := Lib.hid (below_step HAB.out (by omega) hf)
    clear hq1 hr hf HA1 HA2 HA3 HA4 HAb HAB
    go_wp2_with fail
    refine (mStr x6 300 hll (by decide) (by decide) HC3.out).mono ?_
    generalize hq1 : rdStr bl 0 [] 300 = st1
    obtain ⟨sx, a3, c3⟩ := st1
    rintro e x7 ⟨rfl, hr, hf⟩
    have HQ3 := Lib.hid hq1
    have HD1 := Lib.hid (Rd.other HC1.out HC3.out (by omega) hf)
    have HD2 := Lib.hid (Rd.other HC2.out HC3.out (by omega) hf)
    have HD3 := Lib.hid hr
    have HD4 := Lib.hid (Rd.other HC4.out HC3.out (by omega) hf)
    have HDb := Lib.hid (rows_rd HC3.out HCb.out hf)
    have HDB := Lib.hid (below_step HCB.out (by omega) hf)
    clear hq1 hr hf HC1 HC2 HC3 HC4 HCb HCB
    go_wp2_with fail
    refine (mStrs x7 300 300 hll (by decide) (by decide) (by decide) (by decide) HD4.out).mono ?_
    generalize hq1 : rdStrs bl 0 [] 300 300 = st1
    obtain ⟨lx, a4, c4⟩ := st1
    rintro e x8 ⟨vl, rfl, ho, hr, hf⟩
    have HQ4 := Lib.hid hq1
    have HF1 := Lib.hid (Rd.other HD1.out HD4.out (by omega) hf)
    have HF2 := Lib.hid (Rd.other HD2.out HD4.out (by omega) hf)
    have HF3 := Lib.hid (Rd.other HD3.out HD4.out (by omega) hf)
    have HF4 := Lib.hid hr
    have HFo := Lib.hid ho
    have HFb := Lib.hid (rows_rd HD4.out HDb.out hf)
    have HFB := Lib.hid (below_step HDB.out (by omega) hf)
    have HFE := Lib.hid (HE.out.below HFB.out)
    clear hq1 hr hf ho HD1 HD2 HD3 HD4 HDb HDB
    have hG8 : GR w bl A vl lx [(p1, a1, c1), (p2, a2, c2), (p3, a3, c3), (p4, a4, c4)] x8 := by
      refine ⟨HFB.out, HFb.out, ⟨⟨HFo.out.1.1, HFo.out.1.2.elim .inl (fun ⟨g, cap, cur, hv, hbb, r⟩ => .inr ⟨g, cap, cur, hv, Nat.zero_le _, r⟩)⟩, HFo.out.2⟩, ?_, ?_⟩
      · intro x hx
        simp only [List.mem_cons, List.not_mem_nil, or_false] at hx
        rcases hx with rfl | rfl | rfl | rfl
        · exact ⟨HF1.out, by omega⟩
        · exact ⟨HF2.out, by omega⟩
        · exact ⟨HF3.out, by omega⟩
        · exact ⟨HF4.out, by omega⟩
      · simp only [List.pairwise_cons, List.mem_cons, List.not_mem_nil, or_false, forall_eq_or_imp, forall_eq, List.Pairwise.nil, and_true, false_implies, implies_true]
        omega
    have HG8 := Lib.hid hG8
    have h12 : ¬ p1 = p2 := by omega
    have h34 : ¬ p3 = p4 := by omega
    have ht1 : Tells (rdEnd bl a1 c1) := tells_end (by have := tells_nat bl 0 (.inl rfl); rw [HQ1.out] at this; exact this)
    have ht2 : Tells (rdEnd bl a2 c2) := tells_end (by have := tells_num bl 0 (.inl rfl); rw [HQ2.out] at this; exact this)
    have ht3 : Tells (rdEnd bl a3 c3) := tells_end (by have := tells_str bl 0 300 (.inl rfl); rw [HQ3.out] at this; exact this)
    have ht4 : Tells (rdEnd bl a4 c4) := tells_end (by have := tells_strs bl 0 300 300 (.inl rfl); rw [HQ4.out] at this; exact this)
    have HT1 := Lib.hid ht1
    have HT2 := Lib.hid ht2
    have HT3 := Lib.hid ht3
    have HT4 := Lib.hid ht4
    clear hG8 ht1 ht2 ht3 ht4 HF1 HF2 HF3 HF4 HFB HFb HFo HFE hp1
    go_upto_region 5 with fail
    go_cut [55] (fun s55 W => s55 = .bool false ∧ GR w bl A vl lx [(p3, a3, c3), (p4, a4, c4)] W)
    case first =>
      have hE2 : ∀ W, GR w bl A vl lx [(p1, a1, c1), (p2, a2, c2), (p3, a3, c3), (p4, a4, c4)] W → Calls Tryd.prog 9 #[.pointer (some ⟨p1, 0, none⟩)] W (fun e W' => e = .returned (.int .i64 (codeOf (rdEnd bl a1 c1))) ∧ GR w bl A vl lx [(p2, a2, c2), (p3, a3, c3), (p4, a4, c4)] W') := fun W h => GR.end_ HE.out hll h
      have hE1 : ∀ W, GR w bl A vl lx [(p2, a2, c2), (p3, a3, c3), (p4, a4, c4)] W → Calls Tryd.prog 9 #[.pointer (some ⟨p2, 0, none⟩)] W (fun e W' => e = .returned (.int .i64 (codeOf (rdEnd bl a2 c2))) ∧ GR w bl A vl lx [(p3, a3, c3), (p4, a4, c4)] W') := fun W h => GR.end_ HE.out hll h
      have hcv2 : ∀ W, GR w bl A vl lx [(p1, a1, c1), (p2, a2, c2), (p3, a3, c3), (p4, a4, c4)] W → (convert 22 9 (.slice A K cp)).run Tryd.prog W = .ok (.string ⟨bl.toArray⟩) W := fun W h => h.conv K cp HKL.out
      have hcv1 : ∀ W, GR w bl A vl lx [(p2, a2, c2), (p3, a3, c3), (p4, a4, c4)] W → (convert 22 9 (.slice A K cp)).run Tryd.prog W = .ok (.string ⟨bl.toArray⟩) W := fun W h => h.conv K cp HKL.out
      have hcv0 : ∀ W, GR w bl A vl lx [(p3, a3, c3), (p4, a4, c4)] W → (convert 22 9 (.slice A K cp)).run Tryd.prog W = .ok (.string ⟨bl.toArray⟩) W := fun W h => h.conv K cp HKL.out
      have hA : codeOf (rdEnd bl a1 c1) = 0 → ∀ W l, GR w bl A vl lx l W → Calls Tryd.prog 10 #[.int .u64 n] W (GAns w bl A vl lx l ⟨bl.toArray⟩) := fun h0 W l h => GR.nat h HQ1.out (tells_nil HT1.out h0)
      have hB : codeOf (rdEnd bl a2 c2) = 0 → ∀ W l, GR w bl A vl lx l W → Calls Tryd.prog 11 #[.int .i64 m] W (GAns w bl A vl lx l ⟨bl.toArray⟩) := fun h0 W l h => GR.num h HQ2.out (tells_nil HT2.out h0)
      have HE2 := Lib.hid hE2
      have HE1 := Lib.hid hE1
      have HC2 := Lib.hid hcv2
      have HC1 := Lib.hid hcv1
      have HC0 := Lib.hid hcv0
      have HA := Lib.hid hA
      have HB := Lib.hid hB
      clear hE2 hE1 hcv2 hcv1 hcv0 hA hB
      have hstr : ((⟨bl.toArray⟩ : ByteArray).toList == (⟨bl.toArray⟩ : ByteArray).toList) = true := beq_self_eq_true _
      generalize codeOf (rdEnd bl a1 c1) = ka at HE2 HA
      generalize codeOf (rdEnd bl a2 c2) = kb at HE1 HB
      generalize (⟨bl.toArray⟩ : ByteArray) = sb at HC2 HC1 HC0 HA HB hstr
      have hd0 : GR w bl A vl lx [(p1, a1, c1), (p2, a2, c2), (p3, a3, c3), (p4, a4, c4)] x8.drew := HG8.out.below (drew_below _ 1)
      have hc0 := HC2.out _ HG8.out
      have hc00 := HC2.out _ hd0

      have hg0' := HG8.out
      by_cases hka : ka = 0
      · subst hka
        have HA0 := Lib.hid (HA.out rfl)
        clear HA
        by_cases hkb : kb = 0
        · subst hkb
          have HB0 := Lib.hid (HB.out rfl)
          clear HB
          refine Rg.beginH (fun x => (convert 22 9 (.slice A K cp)).run Tryd.prog x = .ok (.string sb) x) (by kernel_rfl) ?_
          have hS0 : (fun x => (convert 22 9 (.slice A K cp)).run Tryd.prog x = .ok (.string sb) x) (World.drew x8) := hc00
          refine Rg.takeH (i := 0) (v := ?_) rfl (by kernel_rfl) (fun _ _ _ h => h) hS0 (Or.inl ⟨by rfl, ?_⟩) ?_
          rotate_left
          · ((intro w hSw; (try dsimp only at hSw); go_simp) <;> (with_reducible rfl))
          try simp only [Act.put, List.setIfInBounds_toArray, List.set_cons_zero, List.set_cons_succ]
          refine Rg.oneH (i := 1) rfl (by kernel_rfl) (fun KK hK => ?_)
          go_simp
          (with_reducible refine (HE2.out _ hd0).mono ?_)
          rintro e y1 ⟨rfl, g1⟩
          change KK _ _
          have hS1 : (fun x => (convert 22 9 (.slice A K cp)).run Tryd.prog x = .ok (.string sb) x) y1 := HC1.out _ g1
          refine hK.out _ _ hS1 ?_
          clear hK KK
          try simp only [Act.put, List.setIfInBounds_toArray, List.set_cons_zero, List.set_cons_succ]
          refine Rg.oneH (i := 2) rfl (by kernel_rfl) (fun KK hK => ?_)
          go_simp
          refine hK.out _ _ hS1 ?_
          clear hK KK
          try simp only [Act.put, List.setIfInBounds_toArray, List.set_cons_zero, List.set_cons_succ]
          refine Rg.oneH (i := 3) rfl (by kernel_rfl) (fun KK hK => ?_)
          go_simp
          refine hK.out _ _ hS1 ?_
          clear hK KK
          try simp only [Act.put, List.setIfInBounds_toArray, List.set_cons_zero, List.set_cons_succ]
          refine Rg.takeH (i := 4) (v := ?_) rfl (by kernel_rfl) (fun _ _ _ h => h) hS1 (Or.inl ⟨by rfl, ?_⟩) ?_
          rotate_left
          · ((intro w hSw; (try dsimp only at hSw); go_simp) <;> (with_reducible rfl))
          try simp only [Act.put, List.setIfInBounds_toArray, List.set_cons_zero, List.set_cons_succ]
          refine Rg.takeH (i := 7) (v := ?_) rfl (by kernel_rfl) (fun _ _ _ h => h) hS1 (Or.inl ⟨by rfl, ?_⟩) ?_
          rotate_left
          · ((intro w hSw; (try dsimp only at hSw); go_simp) <;> (with_reducible rfl))
          try simp only [Act.put, List.setIfInBounds_toArray, List.set_cons_zero, List.set_cons_succ]
          refine Rg.takeH (i := 8) (v := ?_) rfl (by kernel_rfl) (fun _ _ _ h => h) hS1 (Or.inl ⟨by rfl, ?_⟩) ?_
          rotate_left
          · ((intro w hSw; (try dsimp only at hSw); go_simp) <;> (with_reducible rfl))
          try simp only [Act.put, List.setIfInBounds_toArray, List.set_cons_zero, List.set_cons_succ]
          refine Rg.oneH (i := 5) rfl (by kernel_rfl) (fun KK hK => ?_)
          go_simp
          (with_reducible refine (HA0.out _ _ g1).mono ?_)
          rintro e y5 ⟨A5, k5, c5, rfl, hcv5, g5⟩
          have hcv5 := hcv5 _ (Below.refl _ _)
          change KK _ _
          have hS2 : (fun x => (convert 22 9 (.slice A K cp)).run Tryd.prog x = .ok (.string sb) x) y5 := HC1.out _ g5
          refine hK.out _ _ hS2 ?_
          clear hK KK
          try simp only [Act.put, List.setIfInBounds_toArray, List.set_cons_zero, List.set_cons_succ]
          refine Rg.oneH (i := 6) rfl (by kernel_rfl) (fun KK hK => ?_)
          go_simp
          refine hK.out _ _ hS2 ?_
          clear hK KK
          try simp only [Act.put, List.setIfInBounds_toArray, List.set_cons_zero, List.set_cons_succ]
          refine Rg.oneH (i := 9) rfl (by kernel_rfl) (fun KK hK => ?_)
          go_simp
          refine hK.out _ _ hS2 ?_
          clear hK KK
          try simp only [Act.put, List.setIfInBounds_toArray, List.set_cons_zero, List.set_cons_succ]
          refine Rg.oneH (i := 10) rfl (by kernel_rfl) (fun KK hK => ?_)
          go_simp
          refine hK.out _ _ hS2 ?_
          clear hK KK
          try simp only [Act.put, List.setIfInBounds_toArray, List.set_cons_zero, List.set_cons_succ]
          refine Rg.oneH (i := 11) rfl (by kernel_rfl) (fun KK hK => ?_)
          go_simp
          refine hK.out _ _ hS2 ?_
          clear hK KK
          try simp only [Act.put, List.setIfInBounds_toArray, List.set_cons_zero, List.set_cons_succ]
          refine Rg.oneH (i := 12) rfl (by kernel_rfl) (fun KK hK => ?_)
          go_simp
          refine hK.out _ _ hS2 ?_
          clear hK KK
          try simp only [Act.put, List.setIfInBounds_toArray, List.set_cons_zero, List.set_cons_succ]
          refine Rg.oneH (i := 13) rfl (by kernel_rfl) (fun KK hK => ?_)
          go_simp
          (with_reducible refine (HE1.out _ g5).mono ?_)
          rintro e y13 ⟨rfl, g13⟩
          change KK _ _
          have hS3 : (fun x => (convert 22 9 (.slice A K cp)).run Tryd.prog x = .ok (.string sb) x) y13 := HC0.out _ g13
          refine hK.out _ _ hS3 ?_
          clear hK KK
          try simp only [Act.put, List.setIfInBounds_toArray, List.set_cons_zero, List.set_cons_succ]
          refine Rg.oneH (i := 14) rfl (by kernel_rfl) (fun KK hK => ?_)
          go_simp
          refine hK.out _ _ hS3 ?_
          clear hK KK
          try simp only [Act.put, List.setIfInBounds_toArray, List.set_cons_zero, List.set_cons_succ]
          refine Rg.oneH (i := 15) rfl (by kernel_rfl) (fun KK hK => ?_)
          go_simp
          refine hK.out _ _ hS3 ?_
          clear hK KK
          try simp only [Act.put, List.setIfInBounds_toArray, List.set_cons_zero, List.set_cons_succ]
          refine Rg.takeH (i := 16) (v := ?_) rfl (by kernel_rfl) (fun _ _ _ h => h) hS3 (Or.inl ⟨by rfl, ?_⟩) ?_
          rotate_left
          · ((intro w hSw; (try dsimp only at hSw); go_simp) <;> (with_reducible rfl))
          try simp only [Act.put, List.setIfInBounds_toArray, List.set_cons_zero, List.set_cons_succ]
          refine Rg.takeH (i := 19) (v := ?_) rfl (by kernel_rfl) (fun _ _ _ h => h) hS3 (Or.inl ⟨by rfl, ?_⟩) ?_
          rotate_left
          · ((intro w hSw; (try dsimp only at hSw); go_simp) <;> (with_reducible rfl))
          try simp only [Act.put, List.setIfInBounds_toArray, List.set_cons_zero, List.set_cons_succ]
          refine Rg.takeH (i := 20) (v := ?_) rfl (by kernel_rfl) (fun _ _ _ h => h) hS3 (Or.inl ⟨by rfl, ?_⟩) ?_
          rotate_left
          · ((intro w hSw; (try dsimp only at hSw); go_simp) <;> (with_reducible rfl))
          try simp only [Act.put, List.setIfInBounds_toArray, List.set_cons_zero, List.set_cons_succ]
          refine Rg.oneH (i := 17) rfl (by kernel_rfl) (fun KK hK => ?_)
          go_simp
          (with_reducible refine (HB0.out _ _ g13).mono ?_)
          rintro e y17 ⟨A17, k17, c17, rfl, hcv17, g17⟩
          have hcv17 := hcv17 _ (Below.refl _ _)
          change KK _ _
          have hS4 : (fun x => (convert 22 9 (.slice A K cp)).run Tryd.prog x = .ok (.string sb) x) y17 := HC0.out _ g17
          refine hK.out _ _ hS4 ?_
          clear hK KK
          try simp only [Act.put, List.setIfInBounds_toArray, List.set_cons_zero, List.set_cons_succ]
          refine Rg.oneH (i := 18) rfl (by kernel_rfl) (fun KK hK => ?_)
          go_simp
          refine hK.out _ _ hS4 ?_
          clear hK KK
          try simp only [Act.put, List.setIfInBounds_toArray, List.set_cons_zero, List.set_cons_succ]
          refine Rg.oneH (i := 21) rfl (by kernel_rfl) (fun KK hK => ?_)
          go_simp
          refine hK.out _ _ hS4 ?_
          clear hK KK
          try simp only [Act.put, List.setIfInBounds_toArray, List.set_cons_zero, List.set_cons_succ]
          refine Rg.oneH (i := 22) rfl (by kernel_rfl) (fun KK hK => ?_)
          go_simp
          refine hK.out _ _ hS4 ?_
          clear hK KK
          try simp only [Act.put, List.setIfInBounds_toArray, List.set_cons_zero, List.set_cons_succ]
          refine Rg.oneH (i := 23) rfl (by kernel_rfl) (fun KK hK => ?_)
          go_simp
          refine hK.out _ _ hS4 ?_
          clear hK KK
          try simp only [Act.put, List.setIfInBounds_toArray, List.set_cons_zero, List.set_cons_succ]
          refine wpAnyH_done (by kernel_rfl) ?_ _
          go_wp2_with fail
          go_meet
          exact ⟨rfl, g17⟩
        · have hkb2 : (kb == 0) = false := by simpa using hkb
          clear hkb
          refine Rg.beginH (fun x => (convert 22 9 (.slice A K cp)).run Tryd.prog x = .ok (.string sb) x) (by kernel_rfl) ?_
          have hS0 : (fun x => (convert 22 9 (.slice A K cp)).run Tryd.prog x = .ok (.string sb) x) (World.drew x8) := hc00
          refine Rg.takeH (i := 0) (v := ?_) rfl (by kernel_rfl) (fun _ _ _ h => h) hS0 (Or.inl ⟨by rfl, ?_⟩) ?_
          rotate_left
          · ((intro w hSw; (try dsimp only at hSw); go_simp) <;> (with_reducible rfl))
          try simp only [Act.put, List.setIfInBounds_toArray, List.set_cons_zero, List.set_cons_succ]
          refine Rg.oneH (i := 1) rfl (by kernel_rfl) (fun KK hK => ?_)
          go_simp
          (with_reducible refine (HE2.out _ hd0).mono ?_)
          rintro e y1 ⟨rfl, g1⟩
          change KK _ _
          have hS1 : (fun x => (convert 22 9 (.slice A K cp)).run Tryd.prog x = .ok (.string sb) x) y1 := HC1.out _ g1
          refine hK.out _ _ hS1 ?_
          clear hK KK
          try simp only [Act.put, List.setIfInBounds_toArray, List.set_cons_zero, List.set_cons_succ]
          refine Rg.oneH (i := 2) rfl (by kernel_rfl) (fun KK hK => ?_)
          go_simp
          refine hK.out _ _ hS1 ?_
          clear hK KK
          try simp only [Act.put, List.setIfInBounds_toArray, List.set_cons_zero, List.set_cons_succ]
          refine Rg.oneH (i := 3) rfl (by kernel_rfl) (fun KK hK => ?_)
          go_simp
          refine hK.out _ _ hS1 ?_
          clear hK KK
          try simp only [Act.put, List.setIfInBounds_toArray, List.set_cons_zero, List.set_cons_succ]
          refine Rg.takeH (i := 4) (v := ?_) rfl (by kernel_rfl) (fun _ _ _ h => h) hS1 (Or.inl ⟨by rfl, ?_⟩) ?_
          rotate_left
          · ((intro w hSw; (try dsimp only at hSw); go_simp) <;> (with_reducible rfl))
          try simp only [Act.put, List.setIfInBounds_toArray, List.set_cons_zero, List.set_cons_succ]
          refine Rg.takeH (i := 7) (v := ?_) rfl (by kernel_rfl) (fun _ _ _ h => h) hS1 (Or.inl ⟨by rfl, ?_⟩) ?_
          rotate_left
          · ((intro w hSw; (try dsimp only at hSw); go_simp) <;> (with_reducible rfl))
          try simp only [Act.put, List.setIfInBounds_toArray, List.set_cons_zero, List.set_cons_succ]
          refine Rg.takeH (i := 8) (v := ?_) rfl (by kernel_rfl) (fun _ _ _ h => h) hS1 (Or.inl ⟨by rfl, ?_⟩) ?_
          rotate_left
          · ((intro w hSw; (try dsimp only at hSw); go_simp) <;> (with_reducible rfl))
          try simp only [Act.put, List.setIfInBounds_toArray, List.set_cons_zero, List.set_cons_succ]
          refine Rg.oneH (i := 5) rfl (by kernel_rfl) (fun KK hK => ?_)
          go_simp
          (with_reducible refine (HA0.out _ _ g1).mono ?_)
          rintro e y5 ⟨A5, k5, c5, rfl, hcv5, g5⟩
          have hcv5 := hcv5 _ (Below.refl _ _)
          change KK _ _
          have hS2 : (fun x => (convert 22 9 (.slice A K cp)).run Tryd.prog x = .ok (.string sb) x) y5 := HC1.out _ g5
          refine hK.out _ _ hS2 ?_
          clear hK KK
          try simp only [Act.put, List.setIfInBounds_toArray, List.set_cons_zero, List.set_cons_succ]
          refine Rg.oneH (i := 6) rfl (by kernel_rfl) (fun KK hK => ?_)
          go_simp
          refine hK.out _ _ hS2 ?_
          clear hK KK
          try simp only [Act.put, List.setIfInBounds_toArray, List.set_cons_zero, List.set_cons_succ]
          refine Rg.oneH (i := 9) rfl (by kernel_rfl) (fun KK hK => ?_)
          go_simp
          refine hK.out _ _ hS2 ?_
          clear hK KK
          try simp only [Act.put, List.setIfInBounds_toArray, List.set_cons_zero, List.set_cons_succ]
          refine Rg.oneH (i := 10) rfl (by kernel_rfl) (fun KK hK => ?_)
          go_simp
          refine hK.out _ _ hS2 ?_
          clear hK KK
          try simp only [Act.put, List.setIfInBounds_toArray, List.set_cons_zero, List.set_cons_succ]
          refine Rg.oneH (i := 11) rfl (by kernel_rfl) (fun KK hK => ?_)
          go_simp
          refine hK.out _ _ hS2 ?_
          clear hK KK
          try simp only [Act.put, List.setIfInBounds_toArray, List.set_cons_zero, List.set_cons_succ]
          refine Rg.oneH (i := 12) rfl (by kernel_rfl) (fun KK hK => ?_)
          go_simp
          refine hK.out _ _ hS2 ?_
          clear hK KK
          try simp only [Act.put, List.setIfInBounds_toArray, List.set_cons_zero, List.set_cons_succ]
          refine Rg.oneH (i := 13) rfl (by kernel_rfl) (fun KK hK => ?_)
          go_simp
          (with_reducible refine (HE1.out _ g5).mono ?_)
          rintro e y13 ⟨rfl, g13⟩
          change KK _ _
          have hS3 : (fun x => (convert 22 9 (.slice A K cp)).run Tryd.prog x = .ok (.string sb) x) y13 := HC0.out _ g13
          refine hK.out _ _ hS3 ?_
          clear hK KK
          try simp only [Act.put, List.setIfInBounds_toArray, List.set_cons_zero, List.set_cons_succ]
          refine Rg.oneH (i := 14) rfl (by kernel_rfl) (fun KK hK => ?_)
          go_simp
          refine hK.out _ _ hS3 ?_
          clear hK KK
          try simp only [Act.put, List.setIfInBounds_toArray, List.set_cons_zero, List.set_cons_succ]
          refine Rg.oneH (i := 15) rfl (by kernel_rfl) (fun KK hK => ?_)
          go_simp
          refine hK.out _ _ hS3 ?_
          clear hK KK
          try simp only [Act.put, List.setIfInBounds_toArray, List.set_cons_zero, List.set_cons_succ]
          refine Rg.takeH (i := 16) (v := undef) rfl (by kernel_rfl) (fun _ _ _ h => h) hS3 (Or.inr ⟨by rfl, rfl⟩) ?_
          try simp only [Act.put, List.setIfInBounds_toArray, List.set_cons_zero, List.set_cons_succ]
          refine Rg.takeH (i := 17) (v := undef) rfl (by kernel_rfl) (fun _ _ _ h => h) hS3 (Or.inr ⟨by rfl, rfl⟩) ?_
          try simp only [Act.put, List.setIfInBounds_toArray, List.set_cons_zero, List.set_cons_succ]
          refine Rg.takeH (i := 18) (v := undef) rfl (by kernel_rfl) (fun _ _ _ h => h) hS3 (Or.inr ⟨by rfl, rfl⟩) ?_
          try simp only [Act.put, List.setIfInBounds_toArray, List.set_cons_zero, List.set_cons_succ]
          refine Rg.oneH (i := 19) rfl (by kernel_rfl) (fun KK hK => ?_)
          go_simp
          refine hK.out _ _ hS3 ?_
          clear hK KK
          try simp only [Act.put, List.setIfInBounds_toArray, List.set_cons_zero, List.set_cons_succ]
          refine Rg.oneH (i := 20) rfl (by kernel_rfl) (fun KK hK => ?_)
          go_simp
          refine hK.out _ _ hS3 ?_
          clear hK KK
          try simp only [Act.put, List.setIfInBounds_toArray, List.set_cons_zero, List.set_cons_succ]
          refine Rg.oneH (i := 21) rfl (by kernel_rfl) (fun KK hK => ?_)
          go_simp
          refine hK.out _ _ hS3 ?_
          clear hK KK
          try simp only [Act.put, List.setIfInBounds_toArray, List.set_cons_zero, List.set_cons_succ]
          refine Rg.oneH (i := 22) rfl (by kernel_rfl) (fun KK hK => ?_)
          go_simp
          refine hK.out _ _ hS3 ?_
          clear hK KK
          try simp only [Act.put, List.setIfInBounds_toArray, List.set_cons_zero, List.set_cons_succ]
          refine Rg.oneH (i := 23) rfl (by kernel_rfl) (fun KK hK => ?_)
          go_simp
          refine hK.out _ _ hS3 ?_
          clear hK KK
          try simp only [Act.put, List.setIfInBounds_toArray, List.set_cons_zero, List.set_cons_succ]
          refine wpAnyH_done (by kernel_rfl) ?_ _
          go_wp2_with fail
          go_meet
          exact ⟨rfl, g13⟩
      · have hka2 : (ka == 0) = false := by simpa using hka
        clear hka
        by_cases hkb : kb = 0
        · subst hkb
          have HB0 := Lib.hid (HB.out rfl)
          clear HB
          refine Rg.beginH (fun x => (convert 22 9 (.slice A K cp)).run Tryd.prog x = .ok (.string sb) x) (by kernel_rfl) ?_
          have hS0 : (fun x => (convert 22 9 (.slice A K cp)).run Tryd.prog x = .ok (.string sb) x) (World.drew x8) := hc00
          refine Rg.takeH (i := 0) (v := ?_) rfl (by kernel_rfl) (fun _ _ _ h => h) hS0 (Or.inl ⟨by rfl, ?_⟩) ?_
          rotate_left
          · ((intro w hSw; (try dsimp only at hSw); go_simp) <;> (with_reducible rfl))
          try simp only [Act.put, List.setIfInBounds_toArray, List.set_cons_zero, List.set_cons_succ]
          refine Rg.oneH (i := 1) rfl (by kernel_rfl) (fun KK hK => ?_)
          go_simp
          (with_reducible refine (HE2.out _ hd0).mono ?_)
          rintro e y1 ⟨rfl, g1⟩
          change KK _ _
          have hS1 : (fun x => (convert 22 9 (.slice A K cp)).run Tryd.prog x = .ok (.string sb) x) y1 := HC1.out _ g1
          refine hK.out _ _ hS1 ?_
          clear hK KK
          try simp only [Act.put, List.setIfInBounds_toArray, List.set_cons_zero, List.set_cons_succ]
          refine Rg.oneH (i := 2) rfl (by kernel_rfl) (fun KK hK => ?_)
          go_simp
          refine hK.out _ _ hS1 ?_
          clear hK KK
          try simp only [Act.put, List.setIfInBounds_toArray, List.set_cons_zero, List.set_cons_succ]
          refine Rg.oneH (i := 3) rfl (by kernel_rfl) (fun KK hK => ?_)
          go_simp
          refine hK.out _ _ hS1 ?_
          clear hK KK
          try simp only [Act.put, List.setIfInBounds_toArray, List.set_cons_zero, List.set_cons_succ]
          refine Rg.takeH (i := 4) (v := undef) rfl (by kernel_rfl) (fun _ _ _ h => h) hS1 (Or.inr ⟨by rfl, rfl⟩) ?_
          try simp only [Act.put, List.setIfInBounds_toArray, List.set_cons_zero, List.set_cons_succ]
          refine Rg.takeH (i := 5) (v := undef) rfl (by kernel_rfl) (fun _ _ _ h => h) hS1 (Or.inr ⟨by rfl, rfl⟩) ?_
          try simp only [Act.put, List.setIfInBounds_toArray, List.set_cons_zero, List.set_cons_succ]
          refine Rg.takeH (i := 6) (v := undef) rfl (by kernel_rfl) (fun _ _ _ h => h) hS1 (Or.inr ⟨by rfl, rfl⟩) ?_
          try simp only [Act.put, List.setIfInBounds_toArray, List.set_cons_zero, List.set_cons_succ]
          refine Rg.oneH (i := 7) rfl (by kernel_rfl) (fun KK hK => ?_)
          go_simp
          refine hK.out _ _ hS1 ?_
          clear hK KK
          try simp only [Act.put, List.setIfInBounds_toArray, List.set_cons_zero, List.set_cons_succ]
          refine Rg.oneH (i := 8) rfl (by kernel_rfl) (fun KK hK => ?_)
          go_simp
          refine hK.out _ _ hS1 ?_
          clear hK KK
          try simp only [Act.put, List.setIfInBounds_toArray, List.set_cons_zero, List.set_cons_succ]
          refine Rg.oneH (i := 9) rfl (by kernel_rfl) (fun KK hK => ?_)
          go_simp
          refine hK.out _ _ hS1 ?_
          clear hK KK
          try simp only [Act.put, List.setIfInBounds_toArray, List.set_cons_zero, List.set_cons_succ]
          refine Rg.oneH (i := 10) rfl (by kernel_rfl) (fun KK hK => ?_)
          go_simp
          refine hK.out _ _ hS1 ?_
          clear hK KK
          try simp only [Act.put, List.setIfInBounds_toArray, List.set_cons_zero, List.set_cons_succ]
          refine Rg.oneH (i := 11) rfl (by kernel_rfl) (fun KK hK => ?_)
          go_simp
          refine hK.out _ _ hS1 ?_
          clear hK KK
          try simp only [Act.put, List.setIfInBounds_toArray, List.set_cons_zero, List.set_cons_succ]
          refine Rg.oneH (i := 12) rfl (by kernel_rfl) (fun KK hK => ?_)
          go_simp
          refine hK.out _ _ hS1 ?_
          clear hK KK
          try simp only [Act.put, List.setIfInBounds_toArray, List.set_cons_zero, List.set_cons_succ]
          refine Rg.oneH (i := 13) rfl (by kernel_rfl) (fun KK hK => ?_)
          go_simp
          (with_reducible refine (HE1.out _ g1).mono ?_)
          rintro e y13 ⟨rfl, g13⟩
          change KK _ _
          have hS2 : (fun x => (convert 22 9 (.slice A K cp)).run Tryd.prog x = .ok (.string sb) x) y13 := HC0.out _ g13
          refine hK.out _ _ hS2 ?_
          clear hK KK
          try simp only [Act.put, List.setIfInBounds_toArray, List.set_cons_zero, List.set_cons_succ]
          refine Rg.oneH (i := 14) rfl (by kernel_rfl) (fun KK hK => ?_)
          go_simp
          refine hK.out _ _ hS2 ?_
          clear hK KK
          try simp only [Act.put, List.setIfInBounds_toArray, List.set_cons_zero, List.set_cons_succ]
          refine Rg.oneH (i := 15) rfl (by kernel_rfl) (fun KK hK => ?_)
          go_simp
          refine hK.out _ _ hS2 ?_
          clear hK KK
          try simp only [Act.put, List.setIfInBounds_toArray, List.set_cons_zero, List.set_cons_succ]
          refine Rg.takeH (i := 16) (v := ?_) rfl (by kernel_rfl) (fun _ _ _ h => h) hS2 (Or.inl ⟨by rfl, ?_⟩) ?_
          rotate_left
          · ((intro w hSw; (try dsimp only at hSw); go_simp) <;> (with_reducible rfl))
          try simp only [Act.put, List.setIfInBounds_toArray, List.set_cons_zero, List.set_cons_succ]
          refine Rg.takeH (i := 19) (v := ?_) rfl (by kernel_rfl) (fun _ _ _ h => h) hS2 (Or.inl ⟨by rfl, ?_⟩) ?_
          rotate_left
          · ((intro w hSw; (try dsimp only at hSw); go_simp) <;> (with_reducible rfl))
          try simp only [Act.put, List.setIfInBounds_toArray, List.set_cons_zero, List.set_cons_succ]
          refine Rg.takeH (i := 20) (v := ?_) rfl (by kernel_rfl) (fun _ _ _ h => h) hS2 (Or.inl ⟨by rfl, ?_⟩) ?_
          rotate_left
          · ((intro w hSw; (try dsimp only at hSw); go_simp) <;> (with_reducible rfl))
          try simp only [Act.put, List.setIfInBounds_toArray, List.set_cons_zero, List.set_cons_succ]
          refine Rg.oneH (i := 17) rfl (by kernel_rfl) (fun KK hK => ?_)
          go_simp
          (with_reducible refine (HB0.out _ _ g13).mono ?_)
          rintro e y17 ⟨A17, k17, c17, rfl, hcv17, g17⟩
          have hcv17 := hcv17 _ (Below.refl _ _)
          change KK _ _
          have hS3 : (fun x => (convert 22 9 (.slice A K cp)).run Tryd.prog x = .ok (.string sb) x) y17 := HC0.out _ g17
          refine hK.out _ _ hS3 ?_
          clear hK KK
          try simp only [Act.put, List.setIfInBounds_toArray, List.set_cons_zero, List.set_cons_succ]
          refine Rg.oneH (i := 18) rfl (by kernel_rfl) (fun KK hK => ?_)
          go_simp
          refine hK.out _ _ hS3 ?_
          clear hK KK
          try simp only [Act.put, List.setIfInBounds_toArray, List.set_cons_zero, List.set_cons_succ]
          refine Rg.oneH (i := 21) rfl (by kernel_rfl) (fun KK hK => ?_)
          go_simp
          refine hK.out _ _ hS3 ?_
          clear hK KK
          try simp only [Act.put, List.setIfInBounds_toArray, List.set_cons_zero, List.set_cons_succ]
          refine Rg.oneH (i := 22) rfl (by kernel_rfl) (fun KK hK => ?_)
          go_simp
          refine hK.out _ _ hS3 ?_
          clear hK KK
          try simp only [Act.put, List.setIfInBounds_toArray, List.set_cons_zero, List.set_cons_succ]
          refine Rg.oneH (i := 23) rfl (by kernel_rfl) (fun KK hK => ?_)
          go_simp
          refine hK.out _ _ hS3 ?_
          clear hK KK
          try simp only [Act.put, List.setIfInBounds_toArray, List.set_cons_zero, List.set_cons_succ]
          refine wpAnyH_done (by kernel_rfl) ?_ _
          go_wp2_with fail
          go_meet
          exact ⟨rfl, g17⟩
        · have hkb2 : (kb == 0) = false := by simpa using hkb
          clear hkb
          refine Rg.beginH (fun x => (convert 22 9 (.slice A K cp)).run Tryd.prog x = .ok (.string sb) x) (by kernel_rfl) ?_
          have hS0 : (fun x => (convert 22 9 (.slice A K cp)).run Tryd.prog x = .ok (.string sb) x) (World.drew x8) := hc00
          refine Rg.takeH (i := 0) (v := ?_) rfl (by kernel_rfl) (fun _ _ _ h => h) hS0 (Or.inl ⟨by rfl, ?_⟩) ?_
          rotate_left
          · ((intro w hSw; (try dsimp only at hSw); go_simp) <;> (with_reducible rfl))
          try simp only [Act.put, List.setIfInBounds_toArray, List.set_cons_zero, List.set_cons_succ]
          refine Rg.oneH (i := 1) rfl (by kernel_rfl) (fun KK hK => ?_)
          go_simp
          (with_reducible refine (HE2.out _ hd0).mono ?_)
          rintro e y1 ⟨rfl, g1⟩
          change KK _ _
          have hS1 : (fun x => (convert 22 9 (.slice A K cp)).run Tryd.prog x = .ok (.string sb) x) y1 := HC1.out _ g1
          refine hK.out _ _ hS1 ?_
          clear hK KK
          try simp only [Act.put, List.setIfInBounds_toArray, List.set_cons_zero, List.set_cons_succ]
          refine Rg.oneH (i := 2) rfl (by kernel_rfl) (fun KK hK => ?_)
          go_simp
          refine hK.out _ _ hS1 ?_
          clear hK KK
          try simp only [Act.put, List.setIfInBounds_toArray, List.set_cons_zero, List.set_cons_succ]
          refine Rg.oneH (i := 3) rfl (by kernel_rfl) (fun KK hK => ?_)
          go_simp
          refine hK.out _ _ hS1 ?_
          clear hK KK
          try simp only [Act.put, List.setIfInBounds_toArray, List.set_cons_zero, List.set_cons_succ]
          refine Rg.takeH (i := 4) (v := undef) rfl (by kernel_rfl) (fun _ _ _ h => h) hS1 (Or.inr ⟨by rfl, rfl⟩) ?_
          try simp only [Act.put, List.setIfInBounds_toArray, List.set_cons_zero, List.set_cons_succ]
          refine Rg.takeH (i := 5) (v := undef) rfl (by kernel_rfl) (fun _ _ _ h => h) hS1 (Or.inr ⟨by rfl, rfl⟩) ?_
          try simp only [Act.put, List.setIfInBounds_toArray, List.set_cons_zero, List.set_cons_succ]
          refine Rg.takeH (i := 6) (v := undef) rfl (by kernel_rfl) (fun _ _ _ h => h) hS1 (Or.inr ⟨by rfl, rfl⟩) ?_
          try simp only [Act.put, List.setIfInBounds_toArray, List.set_cons_zero, List.set_cons_succ]
          refine Rg.oneH (i := 7) rfl (by kernel_rfl) (fun KK hK => ?_)
          go_simp
          refine hK.out _ _ hS1 ?_
          clear hK KK
          try simp only [Act.put, List.setIfInBounds_toArray, List.set_cons_zero, List.set_cons_succ]
          refine Rg.oneH (i := 8) rfl (by kernel_rfl) (fun KK hK => ?_)
          go_simp
          refine hK.out _ _ hS1 ?_
          clear hK KK
          try simp only [Act.put, List.setIfInBounds_toArray, List.set_cons_zero, List.set_cons_succ]
          refine Rg.oneH (i := 9) rfl (by kernel_rfl) (fun KK hK => ?_)
          go_simp
          refine hK.out _ _ hS1 ?_
          clear hK KK
          try simp only [Act.put, List.setIfInBounds_toArray, List.set_cons_zero, List.set_cons_succ]
          refine Rg.oneH (i := 10) rfl (by kernel_rfl) (fun KK hK => ?_)
          go_simp
          refine hK.out _ _ hS1 ?_
          clear hK KK
          try simp only [Act.put, List.setIfInBounds_toArray, List.set_cons_zero, List.set_cons_succ]
          refine Rg.oneH (i := 11) rfl (by kernel_rfl) (fun KK hK => ?_)
          go_simp
          refine hK.out _ _ hS1 ?_
          clear hK KK
          try simp only [Act.put, List.setIfInBounds_toArray, List.set_cons_zero, List.set_cons_succ]
          refine Rg.oneH (i := 12) rfl (by kernel_rfl) (fun KK hK => ?_)
          go_simp
          refine hK.out _ _ hS1 ?_
          clear hK KK
          try simp only [Act.put, List.setIfInBounds_toArray, List.set_cons_zero, List.set_cons_succ]
          refine Rg.oneH (i := 13) rfl (by kernel_rfl) (fun KK hK => ?_)
          go_simp
          (with_reducible refine (HE1.out _ g1).mono ?_)
          rintro e y13 ⟨rfl, g13⟩
          change KK _ _
          have hS2 : (fun x => (convert 22 9 (.slice A K cp)).run Tryd.prog x = .ok (.string sb) x) y13 := HC0.out _ g13
          refine hK.out _ _ hS2 ?_
          clear hK KK
          try simp only [Act.put, List.setIfInBounds_toArray, List.set_cons_zero, List.set_cons_succ]
          refine Rg.oneH (i := 14) rfl (by kernel_rfl) (fun KK hK => ?_)
          go_simp
          refine hK.out _ _ hS2 ?_
          clear hK KK
          try simp only [Act.put, List.setIfInBounds_toArray, List.set_cons_zero, List.set_cons_succ]
          refine Rg.oneH (i := 15) rfl (by kernel_rfl) (fun KK hK => ?_)
          go_simp
          refine hK.out _ _ hS2 ?_
          clear hK KK
          try simp only [Act.put, List.setIfInBounds_toArray, List.set_cons_zero, List.set_cons_succ]
          refine Rg.takeH (i := 16) (v := undef) rfl (by kernel_rfl) (fun _ _ _ h => h) hS2 (Or.inr ⟨by rfl, rfl⟩) ?_
          try simp only [Act.put, List.setIfInBounds_toArray, List.set_cons_zero, List.set_cons_succ]
          refine Rg.takeH (i := 17) (v := undef) rfl (by kernel_rfl) (fun _ _ _ h => h) hS2 (Or.inr ⟨by rfl, rfl⟩) ?_
          try simp only [Act.put, List.setIfInBounds_toArray, List.set_cons_zero, List.set_cons_succ]
          refine Rg.takeH (i := 18) (v := undef) rfl (by kernel_rfl) (fun _ _ _ h => h) hS2 (Or.inr ⟨by rfl, rfl⟩) ?_
          try simp only [Act.put, List.setIfInBounds_toArray, List.set_cons_zero, List.set_cons_succ]
          refine Rg.oneH (i := 19) rfl (by kernel_rfl) (fun KK hK => ?_)
          go_simp
          refine hK.out _ _ hS2 ?_
          clear hK KK
          try simp only [Act.put, List.setIfInBounds_toArray, List.set_cons_zero, List.set_cons_succ]
          refine Rg.oneH (i := 20) rfl (by kernel_rfl) (fun KK hK => ?_)
          go_simp
          refine hK.out _ _ hS2 ?_
          clear hK KK
          try simp only [Act.put, List.setIfInBounds_toArray, List.set_cons_zero, List.set_cons_succ]
          refine Rg.oneH (i := 21) rfl (by kernel_rfl) (fun KK hK => ?_)
          go_simp
          refine hK.out _ _ hS2 ?_
          clear hK KK
          try simp only [Act.put, List.setIfInBounds_toArray, List.set_cons_zero, List.set_cons_succ]
          refine Rg.oneH (i := 22) rfl (by kernel_rfl) (fun KK hK => ?_)
          go_simp
          refine hK.out _ _ hS2 ?_
          clear hK KK
          try simp only [Act.put, List.setIfInBounds_toArray, List.set_cons_zero, List.set_cons_succ]
          refine Rg.oneH (i := 23) rfl (by kernel_rfl) (fun KK hK => ?_)
          go_simp
          refine hK.out _ _ hS2 ?_
          clear hK KK
          try simp only [Act.put, List.setIfInBounds_toArray, List.set_cons_zero, List.set_cons_succ]
          refine wpAnyH_done (by kernel_rfl) ?_ _
          go_wp2_with fail
          go_meet
          exact ⟨rfl, g13⟩
    case rest =>
      obtain ⟨rfl, hg9⟩ := hcut
      generalize wc = x9 at hg9 ⊢
      have HG9 := Lib.hid hg9
      have hl1000 := HL1.out
      clear hg9 HG8
      go_wp2_with fail
      go_upto_region 7 with fail
      go_cut [79] (fun s79 W => s79 = .bool false ∧ GR w bl A vl lx [] W)
      case first =>
        have hE2 : ∀ W, GR w bl A vl lx [(p3, a3, c3), (p4, a4, c4)] W → Calls Tryd.prog 9 #[.pointer (some ⟨p3, 0, none⟩)] W (fun e W' => e = .returned (.int .i64 (codeOf (rdEnd bl a3 c3))) ∧ GR w bl A vl lx [(p4, a4, c4)] W') := fun W h => GR.end_ HE.out hll h
        have hE1 : ∀ W, GR w bl A vl lx [(p4, a4, c4)] W → Calls Tryd.prog 9 #[.pointer (some ⟨p4, 0, none⟩)] W (fun e W' => e = .returned (.int .i64 (codeOf (rdEnd bl a4 c4))) ∧ GR w bl A vl lx [] W') := fun W h => GR.end_ HE.out hll h
        have hcv2 : ∀ W, GR w bl A vl lx [(p3, a3, c3), (p4, a4, c4)] W → (convert 22 9 (.slice A K cp)).run Tryd.prog W = .ok (.string ⟨bl.toArray⟩) W := fun W h => h.conv K cp HKL.out
        have hcv1 : ∀ W, GR w bl A vl lx [(p4, a4, c4)] W → (convert 22 9 (.slice A K cp)).run Tryd.prog W = .ok (.string ⟨bl.toArray⟩) W := fun W h => h.conv K cp HKL.out
        have hcv0 : ∀ W, GR w bl A vl lx [] W → (convert 22 9 (.slice A K cp)).run Tryd.prog W = .ok (.string ⟨bl.toArray⟩) W := fun W h => h.conv K cp HKL.out
        have hA : codeOf (rdEnd bl a3 c3) = 0 → ∀ W l, GR w bl A vl lx l W → Calls Tryd.prog 12 #[.string sx] W (GAns w bl A vl lx l ⟨bl.toArray⟩) := fun h0 W l h => GR.str h hl1000 HQ3.out (tells_nil HT3.out h0)
        have hB : codeOf (rdEnd bl a4 c4) = 0 → ∀ W l, GR w bl A vl lx l W → Calls Tryd.prog 13 #[vl] W (GAns w bl A vl lx l ⟨bl.toArray⟩) := fun h0 W l h => GR.strs h hl1000 HQ4.out (tells_nil HT4.out h0)
        have HE2 := Lib.hid hE2
        have HE1 := Lib.hid hE1
        have HC2 := Lib.hid hcv2
        have HC1 := Lib.hid hcv1
        have HC0 := Lib.hid hcv0
        have HA := Lib.hid hA
        have HB := Lib.hid hB
        clear hE2 hE1 hcv2 hcv1 hcv0 hA hB
        have hstr : ((⟨bl.toArray⟩ : ByteArray).toList == (⟨bl.toArray⟩ : ByteArray).toList) = true := beq_self_eq_true _
        generalize codeOf (rdEnd bl a3 c3) = ka at HE2 HA
        generalize codeOf (rdEnd bl a4 c4) = kb at HE1 HB
        generalize (⟨bl.toArray⟩ : ByteArray) = sb at HC2 HC1 HC0 HA HB hstr
        have hd0 : GR w bl A vl lx [(p3, a3, c3), (p4, a4, c4)] x9.drew := HG9.out.below (drew_below _ 1)
        have hc0 := HC2.out _ HG9.out
        have hc00 := HC2.out _ hd0

        have hg0' := HG9.out
        by_cases hka : ka = 0
        · subst hka
          have HA0 := Lib.hid (HA.out rfl)
          clear HA
          by_cases hkb : kb = 0
          · subst hkb
            have HB0 := Lib.hid (HB.out rfl)
            clear HB
            refine Rg.beginH (fun x => (convert 22 9 (.slice A K cp)).run Tryd.prog x = .ok (.string sb) x) (by kernel_rfl) ?_
            have hS0 : (fun x => (convert 22 9 (.slice A K cp)).run Tryd.prog x = .ok (.string sb) x) (World.drew x9) := hc00
            refine Rg.takeH (i := 0) (v := ?_) rfl (by kernel_rfl) (fun _ _ _ h => h) hS0 (Or.inl ⟨by rfl, ?_⟩) ?_
            rotate_left
            · ((intro w hSw; (try dsimp only at hSw); go_simp) <;> (with_reducible rfl))
            try simp only [Act.put, List.setIfInBounds_toArray, List.set_cons_zero, List.set_cons_succ]
            refine Rg.oneH (i := 1) rfl (by kernel_rfl) (fun KK hK => ?_)
            go_simp
            (with_reducible refine (HE2.out _ hd0).mono ?_)
            rintro e y1 ⟨rfl, g1⟩
            change KK _ _
            have hS1 : (fun x => (convert 22 9 (.slice A K cp)).run Tryd.prog x = .ok (.string sb) x) y1 := HC1.out _ g1
            refine hK.out _ _ hS1 ?_
            clear hK KK
            try simp only [Act.put, List.setIfInBounds_toArray, List.set_cons_zero, List.set_cons_succ]
            refine Rg.oneH (i := 2) rfl (by kernel_rfl) (fun KK hK => ?_)
            go_simp
            refine hK.out _ _ hS1 ?_
            clear hK KK
            try simp only [Act.put, List.setIfInBounds_toArray, List.set_cons_zero, List.set_cons_succ]
            refine Rg.oneH (i := 3) rfl (by kernel_rfl) (fun KK hK => ?_)
            go_simp
            refine hK.out _ _ hS1 ?_
            clear hK KK
            try simp only [Act.put, List.setIfInBounds_toArray, List.set_cons_zero, List.set_cons_succ]
            refine Rg.takeH (i := 4) (v := ?_) rfl (by kernel_rfl) (fun _ _ _ h => h) hS1 (Or.inl ⟨by rfl, ?_⟩) ?_
            rotate_left
            · ((intro w hSw; (try dsimp only at hSw); go_simp) <;> (with_reducible rfl))
            try simp only [Act.put, List.setIfInBounds_toArray, List.set_cons_zero, List.set_cons_succ]
            refine Rg.takeH (i := 7) (v := ?_) rfl (by kernel_rfl) (fun _ _ _ h => h) hS1 (Or.inl ⟨by rfl, ?_⟩) ?_
            rotate_left
            · ((intro w hSw; (try dsimp only at hSw); go_simp) <;> (with_reducible rfl))
            try simp only [Act.put, List.setIfInBounds_toArray, List.set_cons_zero, List.set_cons_succ]
            refine Rg.takeH (i := 8) (v := ?_) rfl (by kernel_rfl) (fun _ _ _ h => h) hS1 (Or.inl ⟨by rfl, ?_⟩) ?_
            rotate_left
            · ((intro w hSw; (try dsimp only at hSw); go_simp) <;> (with_reducible rfl))
            try simp only [Act.put, List.setIfInBounds_toArray, List.set_cons_zero, List.set_cons_succ]
            refine Rg.oneH (i := 5) rfl (by kernel_rfl) (fun KK hK => ?_)
            go_simp
            (with_reducible refine (HA0.out _ _ g1).mono ?_)
            rintro e y5 ⟨A5, k5, c5, rfl, hcv5, g5⟩
            have hcv5 := hcv5 _ (Below.refl _ _)
            change KK _ _
            have hS2 : (fun x => (convert 22 9 (.slice A K cp)).run Tryd.prog x = .ok (.string sb) x) y5 := HC1.out _ g5
            refine hK.out _ _ hS2 ?_
            clear hK KK
            try simp only [Act.put, List.setIfInBounds_toArray, List.set_cons_zero, List.set_cons_succ]
            refine Rg.oneH (i := 6) rfl (by kernel_rfl) (fun KK hK => ?_)
            go_simp
            refine hK.out _ _ hS2 ?_
            clear hK KK
            try simp only [Act.put, List.setIfInBounds_toArray, List.set_cons_zero, List.set_cons_succ]
            refine Rg.oneH (i := 9) rfl (by kernel_rfl) (fun KK hK => ?_)
            go_simp
            refine hK.out _ _ hS2 ?_
            clear hK KK
            try simp only [Act.put, List.setIfInBounds_toArray, List.set_cons_zero, List.set_cons_succ]
            refine Rg.oneH (i := 10) rfl (by kernel_rfl) (fun KK hK => ?_)
            go_simp
            refine hK.out _ _ hS2 ?_
            clear hK KK
            try simp only [Act.put, List.setIfInBounds_toArray, List.set_cons_zero, List.set_cons_succ]
            refine Rg.oneH (i := 11) rfl (by kernel_rfl) (fun KK hK => ?_)
            go_simp
            refine hK.out _ _ hS2 ?_
            clear hK KK
            try simp only [Act.put, List.setIfInBounds_toArray, List.set_cons_zero, List.set_cons_succ]
            refine Rg.oneH (i := 12) rfl (by kernel_rfl) (fun KK hK => ?_)
            go_simp
            refine hK.out _ _ hS2 ?_
            clear hK KK
            try simp only [Act.put, List.setIfInBounds_toArray, List.set_cons_zero, List.set_cons_succ]
            refine Rg.oneH (i := 13) rfl (by kernel_rfl) (fun KK hK => ?_)
            go_simp
            (with_reducible refine (HE1.out _ g5).mono ?_)
            rintro e y13 ⟨rfl, g13⟩
            change KK _ _
            have hS3 : (fun x => (convert 22 9 (.slice A K cp)).run Tryd.prog x = .ok (.string sb) x) y13 := HC0.out _ g13
            refine hK.out _ _ hS3 ?_
            clear hK KK
            try simp only [Act.put, List.setIfInBounds_toArray, List.set_cons_zero, List.set_cons_succ]
            refine Rg.oneH (i := 14) rfl (by kernel_rfl) (fun KK hK => ?_)
            go_simp
            refine hK.out _ _ hS3 ?_
            clear hK KK
            try simp only [Act.put, List.setIfInBounds_toArray, List.set_cons_zero, List.set_cons_succ]
            refine Rg.oneH (i := 15) rfl (by kernel_rfl) (fun KK hK => ?_)
            go_simp
            refine hK.out _ _ hS3 ?_
            clear hK KK
            try simp only [Act.put, List.setIfInBounds_toArray, List.set_cons_zero, List.set_cons_succ]
            refine Rg.takeH (i := 16) (v := ?_) rfl (by kernel_rfl) (fun _ _ _ h => h) hS3 (Or.inl ⟨by rfl, ?_⟩) ?_
            rotate_left
            · ((intro w hSw; (try dsimp only at hSw); go_simp) <;> (with_reducible rfl))
            try simp only [Act.put, List.setIfInBounds_toArray, List.set_cons_zero, List.set_cons_succ]
            refine Rg.takeH (i := 19) (v := ?_) rfl (by kernel_rfl) (fun _ _ _ h => h) hS3 (Or.inl ⟨by rfl, ?_⟩) ?_
            rotate_left
            · ((intro w hSw; (try dsimp only at hSw); go_simp) <;> (with_reducible rfl))
            try simp only [Act.put, List.setIfInBounds_toArray, List.set_cons_zero, List.set_cons_succ]
            refine Rg.takeH (i := 20) (v := ?_) rfl (by kernel_rfl) (fun _ _ _ h => h) hS3 (Or.inl ⟨by rfl, ?_⟩) ?_
            rotate_left
            · ((intro w hSw; (try dsimp only at hSw); go_simp) <;> (with_reducible rfl))
            try simp only [Act.put, List.setIfInBounds_toArray, List.set_cons_zero, List.set_cons_succ]
            refine Rg.oneH (i := 17) rfl (by kernel_rfl) (fun KK hK => ?_)
            go_simp
            (with_reducible refine (HB0.out _ _ g13).mono ?_)
            rintro e y17 ⟨A17, k17, c17, rfl, hcv17, g17⟩
            have hcv17 := hcv17 _ (Below.refl _ _)
            change KK _ _
            have hS4 : (fun x => (convert 22 9 (.slice A K cp)).run Tryd.prog x = .ok (.string sb) x) y17 := HC0.out _ g17
            refine hK.out _ _ hS4 ?_
            clear hK KK
            try simp only [Act.put, List.setIfInBounds_toArray, List.set_cons_zero, List.set_cons_succ]
            refine Rg.oneH (i := 18) rfl (by kernel_rfl) (fun KK hK => ?_)
            go_simp
            refine hK.out _ _ hS4 ?_
            clear hK KK
            try simp only [Act.put, List.setIfInBounds_toArray, List.set_cons_zero, List.set_cons_succ]
            refine Rg.oneH (i := 21) rfl (by kernel_rfl) (fun KK hK => ?_)
            go_simp
            refine hK.out _ _ hS4 ?_
            clear hK KK
            try simp only [Act.put, List.setIfInBounds_toArray, List.set_cons_zero, List.set_cons_succ]
            refine Rg.oneH (i := 22) rfl (by kernel_rfl) (fun KK hK => ?_)
            go_simp
            refine hK.out _ _ hS4 ?_
            clear hK KK
            try simp only [Act.put, List.setIfInBounds_toArray, List.set_cons_zero, List.set_cons_succ]
            refine Rg.oneH (i := 23) rfl (by kernel_rfl) (fun KK hK => ?_)
            go_simp
            refine hK.out _ _ hS4 ?_
            clear hK KK
            try simp only [Act.put, List.setIfInBounds_toArray, List.set_cons_zero, List.set_cons_succ]
            refine wpAnyH_done (by kernel_rfl) ?_ _
            go_wp2_with fail
            go_meet
            exact ⟨rfl, g17⟩
          · have hkb2 : (kb == 0) = false := by simpa using hkb
            clear hkb
            refine Rg.beginH (fun x => (convert 22 9 (.slice A K cp)).run Tryd.prog x = .ok (.string sb) x) (by kernel_rfl) ?_
            have hS0 : (fun x => (convert 22 9 (.slice A K cp)).run Tryd.prog x = .ok (.string sb) x) (World.drew x9) := hc00
            refine Rg.takeH (i := 0) (v := ?_) rfl (by kernel_rfl) (fun _ _ _ h => h) hS0 (Or.inl ⟨by rfl, ?_⟩) ?_
            rotate_left
            · ((intro w hSw; (try dsimp only at hSw); go_simp) <;> (with_reducible rfl))
            try simp only [Act.put, List.setIfInBounds_toArray, List.set_cons_zero, List.set_cons_succ]
            refine Rg.oneH (i := 1) rfl (by kernel_rfl) (fun KK hK => ?_)
            go_simp
            (with_reducible refine (HE2.out _ hd0).mono ?_)
            rintro e y1 ⟨rfl, g1⟩
            change KK _ _
            have hS1 : (fun x => (convert 22 9 (.slice A K cp)).run Tryd.prog x = .ok (.string sb) x) y1 := HC1.out _ g1
            refine hK.out _ _ hS1 ?_
            clear hK KK
            try simp only [Act.put, List.setIfInBounds_toArray, List.set_cons_zero, List.set_cons_succ]
            refine Rg.oneH (i := 2) rfl (by kernel_rfl) (fun KK hK => ?_)
            go_simp
            refine hK.out _ _ hS1 ?_
            clear hK KK
            try simp only [Act.put, List.setIfInBounds_toArray, List.set_cons_zero, List.set_cons_succ]
            refine Rg.oneH (i := 3) rfl (by kernel_rfl) (fun KK hK => ?_)
            go_simp
            refine hK.out _ _ hS1 ?_
            clear hK KK
            try simp only [Act.put, List.setIfInBounds_toArray, List.set_cons_zero, List.set_cons_succ]
            refine Rg.takeH (i := 4) (v := ?_) rfl (by kernel_rfl) (fun _ _ _ h => h) hS1 (Or.inl ⟨by rfl, ?_⟩) ?_
            rotate_left
            · ((intro w hSw; (try dsimp only at hSw); go_simp) <;> (with_reducible rfl))
            try simp only [Act.put, List.setIfInBounds_toArray, List.set_cons_zero, List.set_cons_succ]
            refine Rg.takeH (i := 7) (v := ?_) rfl (by kernel_rfl) (fun _ _ _ h => h) hS1 (Or.inl ⟨by rfl, ?_⟩) ?_
            rotate_left
            · ((intro w hSw; (try dsimp only at hSw); go_simp) <;> (with_reducible rfl))
            try simp only [Act.put, List.setIfInBounds_toArray, List.set_cons_zero, List.set_cons_succ]
            refine Rg.takeH (i := 8) (v := ?_) rfl (by kernel_rfl) (fun _ _ _ h => h) hS1 (Or.inl ⟨by rfl, ?_⟩) ?_
            rotate_left
            · ((intro w hSw; (try dsimp only at hSw); go_simp) <;> (with_reducible rfl))
            try simp only [Act.put, List.setIfInBounds_toArray, List.set_cons_zero, List.set_cons_succ]
            refine Rg.oneH (i := 5) rfl (by kernel_rfl) (fun KK hK => ?_)
            go_simp
            (with_reducible refine (HA0.out _ _ g1).mono ?_)
            rintro e y5 ⟨A5, k5, c5, rfl, hcv5, g5⟩
            have hcv5 := hcv5 _ (Below.refl _ _)
            change KK _ _
            have hS2 : (fun x => (convert 22 9 (.slice A K cp)).run Tryd.prog x = .ok (.string sb) x) y5 := HC1.out _ g5
            refine hK.out _ _ hS2 ?_
            clear hK KK
            try simp only [Act.put, List.setIfInBounds_toArray, List.set_cons_zero, List.set_cons_succ]
            refine Rg.oneH (i := 6) rfl (by kernel_rfl) (fun KK hK => ?_)
            go_simp
            refine hK.out _ _ hS2 ?_
            clear hK KK
            try simp only [Act.put, List.setIfInBounds_toArray, List.set_cons_zero, List.set_cons_succ]
            refine Rg.oneH (i := 9) rfl (by kernel_rfl) (fun KK hK => ?_)
            go_simp
            refine hK.out _ _ hS2 ?_
            clear hK KK
            try simp only [Act.put, List.setIfInBounds_toArray, List.set_cons_zero, List.set_cons_succ]
            refine Rg.oneH (i := 10) rfl (by kernel_rfl) (fun KK hK => ?_)
            go_simp
            refine hK.out _ _ hS2 ?_
            clear hK KK
            try simp only [Act.put, List.setIfInBounds_toArray, List.set_cons_zero, List.set_cons_succ]
            refine Rg.oneH (i := 11) rfl (by kernel_rfl) (fun KK hK => ?_)
            go_simp
            refine hK.out _ _ hS2 ?_
            clear hK KK
            try simp only [Act.put, List.setIfInBounds_toArray, List.set_cons_zero, List.set_cons_succ]
            refine Rg.oneH (i := 12) rfl (by kernel_rfl) (fun KK hK => ?_)
            go_simp
            refine hK.out _ _ hS2 ?_
            clear hK KK
            try simp only [Act.put, List.setIfInBounds_toArray, List.set_cons_zero, List.set_cons_succ]
            refine Rg.oneH (i := 13) rfl (by kernel_rfl) (fun KK hK => ?_)
            go_simp
            (with_reducible refine (HE1.out _ g5).mono ?_)
            rintro e y13 ⟨rfl, g13⟩
            change KK _ _
            have hS3 : (fun x => (convert 22 9 (.slice A K cp)).run Tryd.prog x = .ok (.string sb) x) y13 := HC0.out _ g13
            refine hK.out _ _ hS3 ?_
            clear hK KK
            try simp only [Act.put, List.setIfInBounds_toArray, List.set_cons_zero, List.set_cons_succ]
            refine Rg.oneH (i := 14) rfl (by kernel_rfl) (fun KK hK => ?_)
            go_simp
            refine hK.out _ _ hS3 ?_
            clear hK KK
            try simp only [Act.put, List.setIfInBounds_toArray, List.set_cons_zero, List.set_cons_succ]
            refine Rg.oneH (i := 15) rfl (by kernel_rfl) (fun KK hK => ?_)
            go_simp
            refine hK.out _ _ hS3 ?_
            clear hK KK
            try simp only [Act.put, List.setIfInBounds_toArray, List.set_cons_zero, List.set_cons_succ]
            refine Rg.takeH (i := 16) (v := undef) rfl (by kernel_rfl) (fun _ _ _ h => h) hS3 (Or.inr ⟨by rfl, rfl⟩) ?_
            try simp only [Act.put, List.setIfInBounds_toArray, List.set_cons_zero, List.set_cons_succ]
            refine Rg.takeH (i := 17) (v := undef) rfl (by kernel_rfl) (fun _ _ _ h => h) hS3 (Or.inr ⟨by rfl, rfl⟩) ?_
            try simp only [Act.put, List.setIfInBounds_toArray, List.set_cons_zero, List.set_cons_succ]
            refine Rg.takeH (i := 18) (v := undef) rfl (by kernel_rfl) (fun _ _ _ h => h) hS3 (Or.inr ⟨by rfl, rfl⟩) ?_
            try simp only [Act.put, List.setIfInBounds_toArray, List.set_cons_zero, List.set_cons_succ]
            refine Rg.oneH (i := 19) rfl (by kernel_rfl) (fun KK hK => ?_)
            go_simp
            refine hK.out _ _ hS3 ?_
            clear hK KK
            try simp only [Act.put, List.setIfInBounds_toArray, List.set_cons_zero, List.set_cons_succ]
            refine Rg.oneH (i := 20) rfl (by kernel_rfl) (fun KK hK => ?_)
            go_simp
            refine hK.out _ _ hS3 ?_
            clear hK KK
            try simp only [Act.put, List.setIfInBounds_toArray, List.set_cons_zero, List.set_cons_succ]
            refine Rg.oneH (i := 21) rfl (by kernel_rfl) (fun KK hK => ?_)
            go_simp
            refine hK.out _ _ hS3 ?_
            clear hK KK
            try simp only [Act.put, List.setIfInBounds_toArray, List.set_cons_zero, List.set_cons_succ]
            refine Rg.oneH (i := 22) rfl (by kernel_rfl) (fun KK hK => ?_)
            go_simp
            refine hK.out _ _ hS3 ?_
            clear hK KK
            try simp only [Act.put, List.setIfInBounds_toArray, List.set_cons_zero, List.set_cons_succ]
            refine Rg.oneH (i := 23) rfl (by kernel_rfl) (fun KK hK => ?_)
            go_simp
            refine hK.out _ _ hS3 ?_
            clear hK KK
            try simp only [Act.put, List.setIfInBounds_toArray, List.set_cons_zero, List.set_cons_succ]
            refine wpAnyH_done (by kernel_rfl) ?_ _
            go_wp2_with fail
            go_meet
            exact ⟨rfl, g13⟩
        · have hka2 : (ka == 0) = false := by simpa using hka
          clear hka
          by_cases hkb : kb = 0
          · subst hkb
            have HB0 := Lib.hid (HB.out rfl)
            clear HB
            refine Rg.beginH (fun x => (convert 22 9 (.slice A K cp)).run Tryd.prog x = .ok (.string sb) x) (by kernel_rfl) ?_
            have hS0 : (fun x => (convert 22 9 (.slice A K cp)).run Tryd.prog x = .ok (.string sb) x) (World.drew x9) := hc00
            refine Rg.takeH (i := 0) (v := ?_) rfl (by kernel_rfl) (fun _ _ _ h => h) hS0 (Or.inl ⟨by rfl, ?_⟩) ?_
            rotate_left
            · ((intro w hSw; (try dsimp only at hSw); go_simp) <;> (with_reducible rfl))
            try simp only [Act.put, List.setIfInBounds_toArray, List.set_cons_zero, List.set_cons_succ]
            refine Rg.oneH (i := 1) rfl (by kernel_rfl) (fun KK hK => ?_)
            go_simp
            (with_reducible refine (HE2.out _ hd0).mono ?_)
            rintro e y1 ⟨rfl, g1⟩
            change KK _ _
            have hS1 : (fun x => (convert 22 9 (.slice A K cp)).run Tryd.prog x = .ok (.string sb) x) y1 := HC1.out _ g1
            refine hK.out _ _ hS1 ?_
            clear hK KK
            try simp only [Act.put, List.setIfInBounds_toArray, List.set_cons_zero, List.set_cons_succ]
            refine Rg.oneH (i := 2) rfl (by kernel_rfl) (fun KK hK => ?_)
            go_simp
            refine hK.out _ _ hS1 ?_
            clear hK KK
            try simp only [Act.put, List.setIfInBounds_toArray, List.set_cons_zero, List.set_cons_succ]
            refine Rg.oneH (i := 3) rfl (by kernel_rfl) (fun KK hK => ?_)
            go_simp
            refine hK.out _ _ hS1 ?_
            clear hK KK
            try simp only [Act.put, List.setIfInBounds_toArray, List.set_cons_zero, List.set_cons_succ]
            refine Rg.takeH (i := 4) (v := undef) rfl (by kernel_rfl) (fun _ _ _ h => h) hS1 (Or.inr ⟨by rfl, rfl⟩) ?_
            try simp only [Act.put, List.setIfInBounds_toArray, List.set_cons_zero, List.set_cons_succ]
            refine Rg.takeH (i := 5) (v := undef) rfl (by kernel_rfl) (fun _ _ _ h => h) hS1 (Or.inr ⟨by rfl, rfl⟩) ?_
            try simp only [Act.put, List.setIfInBounds_toArray, List.set_cons_zero, List.set_cons_succ]
            refine Rg.takeH (i := 6) (v := undef) rfl (by kernel_rfl) (fun _ _ _ h => h) hS1 (Or.inr ⟨by rfl, rfl⟩) ?_
            try simp only [Act.put, List.setIfInBounds_toArray, List.set_cons_zero, List.set_cons_succ]
            refine Rg.oneH (i := 7) rfl (by kernel_rfl) (fun KK hK => ?_)
            go_simp
            refine hK.out _ _ hS1 ?_
            clear hK KK
            try simp only [Act.put, List.setIfInBounds_toArray, List.set_cons_zero, List.set_cons_succ]
            refine Rg.oneH (i := 8) rfl (by kernel_rfl) (fun KK hK => ?_)
            go_simp
            refine hK.out _ _ hS1 ?_
            clear hK KK
            try simp only [Act.put, List.setIfInBounds_toArray, List.set_cons_zero, List.set_cons_succ]
            refine Rg.oneH (i := 9) rfl (by kernel_rfl) (fun KK hK => ?_)
            go_simp
            refine hK.out _ _ hS1 ?_
            clear hK KK
            try simp only [Act.put, List.setIfInBounds_toArray, List.set_cons_zero, List.set_cons_succ]
            refine Rg.oneH (i := 10) rfl (by kernel_rfl) (fun KK hK => ?_)
            go_simp
            refine hK.out _ _ hS1 ?_
            clear hK KK
            try simp only [Act.put, List.setIfInBounds_toArray, List.set_cons_zero, List.set_cons_succ]
            refine Rg.oneH (i := 11) rfl (by kernel_rfl) (fun KK hK => ?_)
            go_simp
            refine hK.out _ _ hS1 ?_
            clear hK KK
            try simp only [Act.put, List.setIfInBounds_toArray, List.set_cons_zero, List.set_cons_succ]
            refine Rg.oneH (i := 12) rfl (by kernel_rfl) (fun KK hK => ?_)
            go_simp
            refine hK.out _ _ hS1 ?_
            clear hK KK
            try simp only [Act.put, List.setIfInBounds_toArray, List.set_cons_zero, List.set_cons_succ]
            refine Rg.oneH (i := 13) rfl (by kernel_rfl) (fun KK hK => ?_)
            go_simp
            (with_reducible refine (HE1.out _ g1).mono ?_)
            rintro e y13 ⟨rfl, g13⟩
            change KK _ _
            have hS2 : (fun x => (convert 22 9 (.slice A K cp)).run Tryd.prog x = .ok (.string sb) x) y13 := HC0.out _ g13
            refine hK.out _ _ hS2 ?_
            clear hK KK
            try simp only [Act.put, List.setIfInBounds_toArray, List.set_cons_zero, List.set_cons_succ]
            refine Rg.oneH (i := 14) rfl (by kernel_rfl) (fun KK hK => ?_)
            go_simp
            refine hK.out _ _ hS2 ?_
            clear hK KK
            try simp only [Act.put, List.setIfInBounds_toArray, List.set_cons_zero, List.set_cons_succ]
            refine Rg.oneH (i := 15) rfl (by kernel_rfl) (fun KK hK => ?_)
            go_simp
            refine hK.out _ _ hS2 ?_
            clear hK KK
            try simp only [Act.put, List.setIfInBounds_toArray, List.set_cons_zero, List.set_cons_succ]
            refine Rg.takeH (i := 16) (v := ?_) rfl (by kernel_rfl) (fun _ _ _ h => h) hS2 (Or.inl ⟨by rfl, ?_⟩) ?_
            rotate_left
            · ((intro w hSw; (try dsimp only at hSw); go_simp) <;> (with_reducible rfl))
            try simp only [Act.put, List.setIfInBounds_toArray, List.set_cons_zero, List.set_cons_succ]
            refine Rg.takeH (i := 19) (v := ?_) rfl (by kernel_rfl) (fun _ _ _ h => h) hS2 (Or.inl ⟨by rfl, ?_⟩) ?_
            rotate_left
            · ((intro w hSw; (try dsimp only at hSw); go_simp) <;> (with_reducible rfl))
            try simp only [Act.put, List.setIfInBounds_toArray, List.set_cons_zero, List.set_cons_succ]
            refine Rg.takeH (i := 20) (v := ?_) rfl (by kernel_rfl) (fun _ _ _ h => h) hS2 (Or.inl ⟨by rfl, ?_⟩) ?_
            rotate_left
            · ((intro w hSw; (try dsimp only at hSw); go_simp) <;> (with_reducible rfl))
            try simp only [Act.put, List.setIfInBounds_toArray, List.set_cons_zero, List.set_cons_succ]
            refine Rg.oneH (i := 17) rfl (by kernel_rfl) (fun KK hK => ?_)
            go_simp
            (with_reducible refine (HB0.out _ _ g13).mono ?_)
            rintro e y17 ⟨A17, k17, c17, rfl, hcv17, g17⟩
            have hcv17 := hcv17 _ (Below.refl _ _)
            change KK _ _
            have hS3 : (fun x => (convert 22 9 (.slice A K cp)).run Tryd.prog x = .ok (.string sb) x) y17 := HC0.out _ g17
            refine hK.out _ _ hS3 ?_
            clear hK KK
            try simp only [Act.put, List.setIfInBounds_toArray, List.set_cons_zero, List.set_cons_succ]
            refine Rg.oneH (i := 18) rfl (by kernel_rfl) (fun KK hK => ?_)
            go_simp
            refine hK.out _ _ hS3 ?_
            clear hK KK
            try simp only [Act.put, List.setIfInBounds_toArray, List.set_cons_zero, List.set_cons_succ]
            refine Rg.oneH (i := 21) rfl (by kernel_rfl) (fun KK hK => ?_)
            go_simp
            refine hK.out _ _ hS3 ?_
            clear hK KK
            try simp only [Act.put, List.setIfInBounds_toArray, List.set_cons_zero, List.set_cons_succ]
            refine Rg.oneH (i := 22) rfl (by kernel_rfl) (fun KK hK => ?_)
            go_simp
            refine hK.out _ _ hS3 ?_
            clear hK KK
            try simp only [Act.put, List.setIfInBounds_toArray, List.set_cons_zero, List.set_cons_succ]
            refine Rg.oneH (i := 23) rfl (by kernel_rfl) (fun KK hK => ?_)
            go_simp
            refine hK.out _ _ hS3 ?_
            clear hK KK
            try simp only [Act.put, List.setIfInBounds_toArray, List.set_cons_zero, List.set_cons_succ]
            refine wpAnyH_done (by kernel_rfl) ?_ _
            go_wp2_with fail
            go_meet
            exact ⟨rfl, g17⟩
          · have hkb2 : (kb == 0) = false := by simpa using hkb
            clear hkb
            refine Rg.beginH (fun x => (convert 22 9 (.slice A K cp)).run Tryd.prog x = .ok (.string sb) x) (by kernel_rfl) ?_
            have hS0 : (fun x => (convert 22 9 (.slice A K cp)).run Tryd.prog x = .ok (.string sb) x) (World.drew x9) := hc00
            refine Rg.takeH (i := 0) (v := ?_) rfl (by kernel_rfl) (fun _ _ _ h => h) hS0 (Or.inl ⟨by rfl, ?_⟩) ?_
            rotate_left
            · ((intro w hSw; (try dsimp only at hSw); go_simp) <;> (with_reducible rfl))
            try simp only [Act.put, List.setIfInBounds_toArray, List.set_cons_zero, List.set_cons_succ]
            refine Rg.oneH (i := 1) rfl (by kernel_rfl) (fun KK hK => ?_)
            go_simp
            (with_reducible refine (HE2.out _ hd0).mono ?_)
            rintro e y1 ⟨rfl, g1⟩
            change KK _ _
            have hS1 : (fun x => (convert 22 9 (.slice A K cp)).run Tryd.prog x = .ok (.string sb) x) y1 := HC1.out _ g1
            refine hK.out _ _ hS1 ?_
            clear hK KK
            try simp only [Act.put, List.setIfInBounds_toArray, List.set_cons_zero, List.set_cons_succ]
            refine Rg.oneH (i := 2) rfl (by kernel_rfl) (fun KK hK => ?_)
            go_simp
            refine hK.out _ _ hS1 ?_
            clear hK KK
            try simp only [Act.put, List.setIfInBounds_toArray, List.set_cons_zero, List.set_cons_succ]
            refine Rg.oneH (i := 3) rfl (by kernel_rfl) (fun KK hK => ?_)
            go_simp
            refine hK.out _ _ hS1 ?_
            clear hK KK
            try simp only [Act.put, List.setIfInBounds_toArray, List.set_cons_zero, List.set_cons_succ]
            refine Rg.takeH (i := 4) (v := undef) rfl (by kernel_rfl) (fun _ _ _ h => h) hS1 (Or.inr ⟨by rfl, rfl⟩) ?_
            try simp only [Act.put, List.setIfInBounds_toArray, List.set_cons_zero, List.set_cons_succ]
            refine Rg.takeH (i := 5) (v := undef) rfl (by kernel_rfl) (fun _ _ _ h => h) hS1 (Or.inr ⟨by rfl, rfl⟩) ?_
            try simp only [Act.put, List.setIfInBounds_toArray, List.set_cons_zero, List.set_cons_succ]
            refine Rg.takeH (i := 6) (v := undef) rfl (by kernel_rfl) (fun _ _ _ h => h) hS1 (Or.inr ⟨by rfl, rfl⟩) ?_
            try simp only [Act.put, List.setIfInBounds_toArray, List.set_cons_zero, List.set_cons_succ]
            refine Rg.oneH (i := 7) rfl (by kernel_rfl) (fun KK hK => ?_)
            go_simp
            refine hK.out _ _ hS1 ?_
            clear hK KK
            try simp only [Act.put, List.setIfInBounds_toArray, List.set_cons_zero, List.set_cons_succ]
            refine Rg.oneH (i := 8) rfl (by kernel_rfl) (fun KK hK => ?_)
            go_simp
            refine hK.out _ _ hS1 ?_
            clear hK KK
            try simp only [Act.put, List.setIfInBounds_toArray, List.set_cons_zero, List.set_cons_succ]
            refine Rg.oneH (i := 9) rfl (by kernel_rfl) (fun KK hK => ?_)
            go_simp
            refine hK.out _ _ hS1 ?_
            clear hK KK
            try simp only [Act.put, List.setIfInBounds_toArray, List.set_cons_zero, List.set_cons_succ]
            refine Rg.oneH (i := 10) rfl (by kernel_rfl) (fun KK hK => ?_)
            go_simp
            refine hK.out _ _ hS1 ?_
            clear hK KK
            try simp only [Act.put, List.setIfInBounds_toArray, List.set_cons_zero, List.set_cons_succ]
            refine Rg.oneH (i := 11) rfl (by kernel_rfl) (fun KK hK => ?_)
            go_simp
            refine hK.out _ _ hS1 ?_
            clear hK KK
            try simp only [Act.put, List.setIfInBounds_toArray, List.set_cons_zero, List.set_cons_succ]
            refine Rg.oneH (i := 12) rfl (by kernel_rfl) (fun KK hK => ?_)
            go_simp
            refine hK.out _ _ hS1 ?_
            clear hK KK
            try simp only [Act.put, List.setIfInBounds_toArray, List.set_cons_zero, List.set_cons_succ]
            refine Rg.oneH (i := 13) rfl (by kernel_rfl) (fun KK hK => ?_)
            go_simp
            (with_reducible refine (HE1.out _ g1).mono ?_)
            rintro e y13 ⟨rfl, g13⟩
            change KK _ _
            have hS2 : (fun x => (convert 22 9 (.slice A K cp)).run Tryd.prog x = .ok (.string sb) x) y13 := HC0.out _ g13
            refine hK.out _ _ hS2 ?_
            clear hK KK
            try simp only [Act.put, List.setIfInBounds_toArray, List.set_cons_zero, List.set_cons_succ]
            refine Rg.oneH (i := 14) rfl (by kernel_rfl) (fun KK hK => ?_)
            go_simp
            refine hK.out _ _ hS2 ?_
            clear hK KK
            try simp only [Act.put, List.setIfInBounds_toArray, List.set_cons_zero, List.set_cons_succ]
            refine Rg.oneH (i := 15) rfl (by kernel_rfl) (fun KK hK => ?_)
            go_simp
            refine hK.out _ _ hS2 ?_
            clear hK KK
            try simp only [Act.put, List.setIfInBounds_toArray, List.set_cons_zero, List.set_cons_succ]
            refine Rg.takeH (i := 16) (v := undef) rfl (by kernel_rfl) (fun _ _ _ h => h) hS2 (Or.inr ⟨by rfl, rfl⟩) ?_
            try simp only [Act.put, List.setIfInBounds_toArray, List.set_cons_zero, List.set_cons_succ]
            refine Rg.takeH (i := 17) (v := undef) rfl (by kernel_rfl) (fun _ _ _ h => h) hS2 (Or.inr ⟨by rfl, rfl⟩) ?_
            try simp only [Act.put, List.setIfInBounds_toArray, List.set_cons_zero, List.set_cons_succ]
            refine Rg.takeH (i := 18) (v := undef) rfl (by kernel_rfl) (fun _ _ _ h => h) hS2 (Or.inr ⟨by rfl, rfl⟩) ?_
            try simp only [Act.put, List.setIfInBounds_toArray, List.set_cons_zero, List.set_cons_succ]
            refine Rg.oneH (i := 19) rfl (by kernel_rfl) (fun KK hK => ?_)
            go_simp
            refine hK.out _ _ hS2 ?_
            clear hK KK
            try simp only [Act.put, List.setIfInBounds_toArray, List.set_cons_zero, List.set_cons_succ]
            refine Rg.oneH (i := 20) rfl (by kernel_rfl) (fun KK hK => ?_)
            go_simp
            refine hK.out _ _ hS2 ?_
            clear hK KK
            try simp only [Act.put, List.setIfInBounds_toArray, List.set_cons_zero, List.set_cons_succ]
            refine Rg.oneH (i := 21) rfl (by kernel_rfl) (fun KK hK => ?_)
            go_simp
            refine hK.out _ _ hS2 ?_
            clear hK KK
            try simp only [Act.put, List.setIfInBounds_toArray, List.set_cons_zero, List.set_cons_succ]
            refine Rg.oneH (i := 22) rfl (by kernel_rfl) (fun KK hK => ?_)
            go_simp
            refine hK.out _ _ hS2 ?_
            clear hK KK
            try simp only [Act.put, List.setIfInBounds_toArray, List.set_cons_zero, List.set_cons_succ]
            refine Rg.oneH (i := 23) rfl (by kernel_rfl) (fun KK hK => ?_)
            go_simp
            refine hK.out _ _ hS2 ?_
            clear hK KK
            try simp only [Act.put, List.setIfInBounds_toArray, List.set_cons_zero, List.set_cons_succ]
            refine wpAnyH_done (by kernel_rfl) ?_ _
            go_wp2_with fail
            go_meet
            exact ⟨rfl, g13⟩
      case rest =>
        obtain ⟨rfl, hg10⟩ := hcut
        have HB10 := Lib.hid hg10.1
        clear hg10 HG9
        go_wp2_with fail
        refine (oawake wc (HE.out.below HB10.out)).mono ?_
        rintro e w' ⟨rfl, hb⟩
        have HF := Lib.hid (below_then HB10.out hb)
        clear hb
        go_wp2
        exact ⟨rfl, HF.out⟩
end Go.Proofs.YtgijnchfonfeaaaDoor
