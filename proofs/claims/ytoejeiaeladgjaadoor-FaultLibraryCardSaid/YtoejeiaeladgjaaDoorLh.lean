/- Chapter 1's laws, walked: FaultLibrary, FaultTells. -/
import Derived.Test.YtoejeiaeladgjaaDoorLg
namespace Go.Proofs.YtoejeiaeladgjaaDoor
open Go.Proofs.BL Go.Proofs.Peel Go.RowKit
set_option maxRecDepth 100000
set_option linter.unusedVariables false

set_option maxHeartbeats 4000000 in
/-- FaultLibrary. -/
theorem lawLibrary (l0 : List Li) (v : Value) (n : Int) (w : World) (hE : ErrT w) (hv : SlV w 6 v (l0.map Li.enc)) (hm : l0.length ≤ 9223372036854775807) :
    Calls Tryd.prog 6 #[v, .int .i64 n] w (Ans w (.bool true)) := by
  have HE := Lib.hid hE
  clear hE
  refine via fun Q hQ => ?_
  by_cases hn0 : n = 0
  · have g0 := int_same hn0
    subst hn0
    clear g0
    go_enter Tryd.func6, Tryd.ntmps6
    go_wp2_with fail
    refine (lcut l0 v w hv hm).mono ?_
    rintro e w1 ⟨u1, rfl, ho1, hb1⟩
    have HB1 := Lib.hid hb1
    clear ho1 hb1 hv
    go_wp2_with fail
    refine (lawake _ (HE.out.below HB1.out)).mono ?_
    rintro e w5 ⟨rfl, hb5⟩
    have HB5 := Lib.hid (below_then HB1.out hb5)
    clear hb5
    go_wp2
    exact ⟨rfl, HB5.out⟩
  have g0 := int_diff hn0
  have HN0 := Lib.hid hn0
  clear hn0
  go_enter Tryd.func6, Tryd.ntmps6
  go_wp2_with fail
  refine (lcut l0 v w hv hm).mono ?_
  rintro e w1 ⟨u1, rfl, ho1, hb1⟩
  have hlen := cutL_len l0
  generalize cutL l0 = l at ho1 hlen
  have HV1 := Lib.hid ho1.slv
  have HB1 := Lib.hid hb1
  clear ho1 hb1 hv
  go_wp2_with fail
  refine (lmade l u1 w1 HV1.out (by omega)).mono ?_
  rintro e w2 ⟨u2, rfl, hc2, hb2⟩
  have HC2 := Lib.hid hc2
  have HV2 := Lib.hid (HV1.out.below hb2)
  have HB2 := Lib.hid (below_then HB1.out hb2)
  clear hc2 hb2
  go_wp2_with fail
  refine (rchain l u1 w2 HV2.out (by omega)).mono ?_
  rintro e w3 ⟨u3, rfl, hv3, hb3⟩
  have HC3 := Lib.hid (HC2.out.below hb3)
  have HV3 := Lib.hid hv3
  have HB3 := Lib.hid (below_then HB2.out hb3)
  have hclen := chainL_len l
  have hq := code_made l
  have hne := mkL_nil l
  generalize hqq : codeR (chainL l) = q at hq
  have HQ := Lib.hid hq
  have HQQ := Lib.hid hqq
  have HN := Lib.hid hne
  obtain ⟨A3, c3, rfl, hc3, _⟩ := hv3
  simp only [List.length_map] at hc3 HV3 ⊢
  clear hb3 hq hqq hne
  by_cases hz : chainL l = []
  · have hz0 : (chainL l).length = 0 := by rw [hz]; rfl
    have hmz : mkL l = [] := HN.out.2 hz
    rw [hz0] at HV3 ⊢
    have HZ := Lib.hid hz
    have HMZ := Lib.hid hmz
    clear hz hmz hz0 hclen hc3
    go_wp2_with fail
    refine (fnew n _).mono ?_
    rintro e w4 ⟨v4, rfl, hc4, hb4⟩
    rw [if_neg HN0.out] at hc4
    obtain ⟨tb, _, rfl, ht4, _⟩ := hc4
    have HT4 := Lib.hid (show Blk w4 tb #[.int .i64 n] 83 from ht4)
    have HB4 := Lib.hid (below_then HB3.out hb4)
    have HC4 := Lib.hid (HC3.out.below hb4)
    clear hb4 ht4
    go_wp2_with fail
    refine (eIs _ u2 tb n _ (HE.out.below HB4.out) HC4.out HT4.out).mono ?_
    rintro e w5 ⟨rfl, hb5⟩
    have HB5 := Lib.hid (below_then HB4.out hb5)
    rw [HMZ.out]
    clear hb5
    go_wp2_with fail
    refine (lawake _ (HE.out.below HB5.out)).mono ?_
    rintro e w6 ⟨rfl, hb6⟩
    have HB6 := Lib.hid (below_then HB5.out hb6)
    clear hb6
    go_wp2
    exact ⟨rfl, HB6.out⟩
  · have hmz : mkL l ≠ [] := fun e => hz (HN.out.1 e)
    have hzl : 0 < (chainL l).length := List.length_pos_iff.2 hz
    have hie : (mkL l).isEmpty = false := by cases h : mkL l; exact absurd h hmz; rfl
    have HIE := Lib.hid hie
    clear hz hmz hie
    go_wp2_with fail
    refine (rcodeq HQQ.out _ _ HV3.out (by omega)).mono ?_
    rintro e w4 ⟨rfl, hb4⟩
    have HB4 := Lib.hid (below_then HB3.out hb4)
    have HC4 := Lib.hid (HC3.out.below hb4)
    clear hb4
    by_cases hnq : n = q
    · subst hnq
      go_wp2_with fail
      refine (fnew n _).mono ?_
      rintro e w5 ⟨v5, rfl, hc5, hb5⟩
      rw [if_neg HN0.out] at hc5
      obtain ⟨tb, _, rfl, ht5, _⟩ := hc5
      have HT5 := Lib.hid (show Blk w5 tb #[.int .i64 n] 83 from ht5)
      have HB5 := Lib.hid (below_then HB4.out hb5)
      have HC5 := Lib.hid (HC4.out.below hb5)
      clear hb5 ht5
      go_wp2_with fail
      refine (eIs _ u2 tb n _ (HE.out.below HB5.out) HC5.out HT5.out).mono ?_
      rintro e w6 ⟨rfl, hb6⟩
      have HB6 := Lib.hid (below_then HB5.out hb6)
      rw [HIE.out, HQ.out, Bool.not_false, Bool.true_and]
      clear hb6
      go_wp2_with fail
      refine (lawake _ (HE.out.below HB6.out)).mono ?_
      rintro e w7 ⟨rfl, hb7⟩
      have HB7 := Lib.hid (below_then HB6.out hb7)
      clear hb7
      go_wp2
      exact ⟨rfl, HB7.out⟩
    · have g1 := int_diff hnq
      have g2 := int_diff (Ne.symm hnq)
      clear hnq
      go_wp2_with fail
      refine (fnew n _).mono ?_
      rintro e w5 ⟨v5, rfl, hc5, hb5⟩
      rw [if_neg HN0.out] at hc5
      obtain ⟨tb, _, rfl, ht5, _⟩ := hc5
      have HT5 := Lib.hid (show Blk w5 tb #[.int .i64 n] 83 from ht5)
      have HB5 := Lib.hid (below_then HB4.out hb5)
      have HC5 := Lib.hid (HC4.out.below hb5)
      clear hb5 ht5
      go_wp2_with fail
      refine (eIs _ u2 tb n _ (HE.out.below HB5.out) HC5.out HT5.out).mono ?_
      rintro e w6 ⟨rfl, hb6⟩
      have HB6 := Lib.hid (below_then HB5.out hb6)
      rw [HIE.out, HQ.out, Bool.not_false, Bool.true_and]
      clear hb6
      go_wp2_with fail
      refine (lawake _ (HE.out.below HB6.out)).mono ?_
      rintro e w7 ⟨rfl, hb7⟩
      have HB7 := Lib.hid (below_then HB6.out hb7)
      clear hb7
      go_wp2
      exact ⟨rfl, HB7.out⟩

theorem flimitq {x : Int × Int × Bool} {c : List Lk} (hq : limitOf c = x) (v : Value) (w : World) (hE : ErrT w) (hc : Chn w v c) : Calls Tryd.prog 24 #[v] w (LimP w x) := hq ▸ flimit v c w hE hc
theorem rlimitq {x : Int × Int × Bool} {l : List Li} (hq : limitR l = x) (v : Value) (w : World) (hv : SlV w 6 v (l.map Li.enc)) (hm : l.length ≤ 9223372036854775806) : Calls Tryd.prog 25 #[v] w (Lim w x) := hq ▸ rlimit l v w hv hm

set_option maxHeartbeats 4000000 in
/-- FaultTells. -/
theorem lawTells (l0 : List Li) (v : Value) (w : World) (hE : ErrT w) (hv : SlV w 6 v (l0.map Li.enc)) (hm : l0.length ≤ 9223372036854775807) :
    Calls Tryd.prog 5 #[v] w (Ans w (.bool true)) := by
  have HE := Lib.hid hE
  clear hE
  refine via fun Q hQ => ?_
  go_enter Tryd.func5, Tryd.ntmps5
  go_wp2_with fail
  refine (lcut l0 v w hv hm).mono ?_
  rintro e w1 ⟨u1, rfl, ho1, hb1⟩
  have hlen := cutL_len l0
  have hkd := kinds_cut l0
  generalize cutL l0 = l at ho1 hlen hkd
  have HKD := Lib.hid hkd
  have HV1 := Lib.hid ho1.slv
  have HB1 := Lib.hid hb1
  clear ho1 hb1 hv hkd
  go_wp2_with fail
  refine (lmade l u1 w1 HV1.out (by omega)).mono ?_
  rintro e w2 ⟨u2, rfl, hc2, hb2⟩
  have HC2 := Lib.hid hc2
  have HV2 := Lib.hid (HV1.out.below hb2)
  have HB2 := Lib.hid (below_then HB1.out hb2)
  clear hc2 hb2
  go_wp2_with fail
  refine (rchain l u1 w2 HV2.out (by omega)).mono ?_
  rintro e w3 ⟨u3, rfl, hv3, hb3⟩
  have HC3 := Lib.hid (HC2.out.below hb3)
  have HV3 := Lib.hid hv3
  have HB3 := Lib.hid (below_then HB2.out hb3)
  have hclen := chainL_len l
  have hq := code_made l
  have hp := place_made l
  have hlm := limit_made l HKD.out
  have htr := trail_made l
  have hml := mkL_len l
  generalize hqq : codeR (chainL l) = q at hq
  generalize hpp : placeR (chainL l) = pl at hp
  generalize hll : limitR (chainL l) = lm at hlm
  have HQ := Lib.hid hq
  have HQQ := Lib.hid hqq
  have HP := Lib.hid hp
  have HPP := Lib.hid hpp
  have HL := Lib.hid hlm
  have HLL := Lib.hid hll
  have HTR := Lib.hid htr
  have HML := Lib.hid hml
  obtain ⟨A3, c3, rfl, hc3, _⟩ := hv3
  simp only [List.length_map] at hc3 HV3 ⊢
  obtain ⟨la, lb, lo⟩ := lm
  clear hb3 hq hqq hp hpp hlm hll htr hml
  go_wp2_with fail
  refine (flimitq HL.out u2 _ (HE.out.below HB3.out) HC3.out).mono ?_
  rintro e w4 ⟨rfl, hb4⟩
  have HB4 := Lib.hid (below_then HB3.out hb4)
  have HC4 := Lib.hid (HC3.out.below hb4)
  have HV4 := Lib.hid (HV3.out.below hb4)
  clear hb4
  go_wp2_with fail
  refine (rlimitq HLL.out _ _ HV4.out (by omega)).mono ?_
  rintro e w5 ⟨rfl, hb5⟩
  have HB5 := Lib.hid (below_then HB4.out hb5)
  have HC5 := Lib.hid (HC4.out.below hb5)
  have HV5 := Lib.hid (HV4.out.below hb5)
  clear hb5
  have hcase : (∃ g : Bool, ((((chainL l).length : Int) == 0) = g) ∧ ((u2 = .nilIface ∧ g = true) ∨ ((∃ t x, u2 = .iface t x) ∧ g = false))) := by
    have hml := HML.out
    have hc := HC5.out
    cases hm : mkL l with
    | nil =>
      rw [hm] at hml hc
      exact ⟨true, by rw [← hml]; rfl, Or.inl ⟨hc, rfl⟩⟩
    | cons x r =>
      rw [hm] at hml hc
      obtain ⟨b, _, e, _⟩ := hc
      refine ⟨false, ?_, Or.inr ⟨⟨_, _, e⟩, rfl⟩⟩
      rw [← hml]
      simp
      omega
  obtain ⟨g, g1, h2 | h2⟩ := hcase
  · obtain ⟨rfl, rfl⟩ := h2
    go_wp2_with fail
    refine (fcodeq HQ.out _ _ (HE.out.below HB5.out) HC5.out).mono ?_
    rintro e w6 ⟨rfl, hb6⟩
    have HB6 := Lib.hid (below_then HB5.out hb6)
    have HC6 := Lib.hid (HC5.out.below hb6)
    have HV6 := Lib.hid (HV5.out.below hb6)
    clear hb6
    go_wp2_with fail
    refine (rcodeq HQQ.out _ _ HV6.out (by omega)).mono ?_
    rintro e w7 ⟨rfl, hb7⟩
    have HB7 := Lib.hid (below_then HB6.out hb7)
    have HC7 := Lib.hid (HC6.out.below hb7)
    have HV7 := Lib.hid (HV6.out.below hb7)
    clear hb7
    go_wp2_with fail
    refine (fplaceq HP.out _ _ (HE.out.below HB7.out) HC7.out).mono ?_
    rintro e w8 ⟨rfl, hb8⟩
    have HB8 := Lib.hid (below_then HB7.out hb8)
    have HC8 := Lib.hid (HC7.out.below hb8)
    have HV8 := Lib.hid (HV7.out.below hb8)
    clear hb8
    go_wp2_with fail
    refine (rplaceq HPP.out _ _ HV8.out (by omega)).mono ?_
    rintro e w9 ⟨rfl, hb9⟩
    have HB9 := Lib.hid (below_then HB8.out hb9)
    have HC9 := Lib.hid (HC8.out.below hb9)
    have HV9 := Lib.hid (HV8.out.below hb9)
    clear hb9
    go_wp2_with fail
    refine (fdepth _ _ _ HC9.out (by rw [HML.out]; omega)).mono ?_
    rintro e w10 ⟨rfl, hb10⟩
    rw [HML.out]
    have HB10 := Lib.hid (below_then HB9.out hb10)
    have HC10 := Lib.hid (HC9.out.below hb10)
    have HV10 := Lib.hid (HV9.out.below hb10)
    clear hb10
    go_wp2_with fail
    refine (ftrail _ _ _ (HE.out.below HB10.out) HC10.out (by rw [HML.out]; omega)).mono ?_
    rintro e w11 ⟨t1, rfl, ht11, hb11⟩
    rw [HTR.out] at ht11
    have HB11 := Lib.hid (below_then HB10.out hb11)
    have HV11 := Lib.hid (HV10.out.below hb11)
    have HT11 := Lib.hid ht11.slv
    clear hb11 ht11
    go_wp2_with fail
    refine (rtrail (chainL l) _ _ HV11.out (by omega)).mono ?_
    rintro e w12 ⟨t2, rfl, ht12, hb12⟩
    have HB12 := Lib.hid (below_then HB11.out hb12)
    have HT12 := Lib.hid (HT11.out.below hb12)
    have HT13 := Lib.hid ht12.slv
    have htl : (trailR (chainL l)).length ≤ 30 := by
      unfold trailR
      rw [List.length_map]
      exact Nat.le_trans (List.length_filter_le _ _) (by omega)
    clear hb12 ht12
    go_wp2_with fail
    refine (rtexts _ _ _ _ _ HT12.out HT13.out (by omega) (by omega)).mono ?_
    rintro e w13 ⟨rfl, hb13⟩
    rw [decide_eq_true rfl]
    have HB13 := Lib.hid (below_then HB12.out hb13)
    clear hb13
    go_wp2_with fail
    refine (lawake _ (HE.out.below HB13.out)).mono ?_
    rintro e w14 ⟨rfl, hb14⟩
    have HB14 := Lib.hid (below_then HB13.out hb14)
    clear hb14
    go_wp2
    exact ⟨rfl, HB14.out⟩

  · obtain ⟨⟨t, x, rfl⟩, rfl⟩ := h2
    go_wp2_with fail
    refine (fcodeq HQ.out _ _ (HE.out.below HB5.out) HC5.out).mono ?_
    rintro e w6 ⟨rfl, hb6⟩
    have HB6 := Lib.hid (below_then HB5.out hb6)
    have HC6 := Lib.hid (HC5.out.below hb6)
    have HV6 := Lib.hid (HV5.out.below hb6)
    clear hb6
    go_wp2_with fail
    refine (rcodeq HQQ.out _ _ HV6.out (by omega)).mono ?_
    rintro e w7 ⟨rfl, hb7⟩
    have HB7 := Lib.hid (below_then HB6.out hb7)
    have HC7 := Lib.hid (HC6.out.below hb7)
    have HV7 := Lib.hid (HV6.out.below hb7)
    clear hb7
    go_wp2_with fail
    refine (fplaceq HP.out _ _ (HE.out.below HB7.out) HC7.out).mono ?_
    rintro e w8 ⟨rfl, hb8⟩
    have HB8 := Lib.hid (below_then HB7.out hb8)
    have HC8 := Lib.hid (HC7.out.below hb8)
    have HV8 := Lib.hid (HV7.out.below hb8)
    clear hb8
    go_wp2_with fail
    refine (rplaceq HPP.out _ _ HV8.out (by omega)).mono ?_
    rintro e w9 ⟨rfl, hb9⟩
    have HB9 := Lib.hid (below_then HB8.out hb9)
    have HC9 := Lib.hid (HC8.out.below hb9)
    have HV9 := Lib.hid (HV8.out.below hb9)
    clear hb9
    go_wp2_with fail
    refine (fdepth _ _ _ HC9.out (by rw [HML.out]; omega)).mono ?_
    rintro e w10 ⟨rfl, hb10⟩
    rw [HML.out]
    have HB10 := Lib.hid (below_then HB9.out hb10)
    have HC10 := Lib.hid (HC9.out.below hb10)
    have HV10 := Lib.hid (HV9.out.below hb10)
    clear hb10
    go_wp2_with fail
    refine (ftrail _ _ _ (HE.out.below HB10.out) HC10.out (by rw [HML.out]; omega)).mono ?_
    rintro e w11 ⟨t1, rfl, ht11, hb11⟩
    rw [HTR.out] at ht11
    have HB11 := Lib.hid (below_then HB10.out hb11)
    have HV11 := Lib.hid (HV10.out.below hb11)
    have HT11 := Lib.hid ht11.slv
    clear hb11 ht11
    go_wp2_with fail
    refine (rtrail (chainL l) _ _ HV11.out (by omega)).mono ?_
    rintro e w12 ⟨t2, rfl, ht12, hb12⟩
    have HB12 := Lib.hid (below_then HB11.out hb12)
    have HT12 := Lib.hid (HT11.out.below hb12)
    have HT13 := Lib.hid ht12.slv
    have htl : (trailR (chainL l)).length ≤ 30 := by
      unfold trailR
      rw [List.length_map]
      exact Nat.le_trans (List.length_filter_le _ _) (by omega)
    clear hb12 ht12
    go_wp2_with fail
    refine (rtexts _ _ _ _ _ HT12.out HT13.out (by omega) (by omega)).mono ?_
    rintro e w13 ⟨rfl, hb13⟩
    rw [decide_eq_true rfl]
    have HB13 := Lib.hid (below_then HB12.out hb13)
    clear hb13
    go_wp2_with fail
    refine (lawake _ (HE.out.below HB13.out)).mono ?_
    rintro e w14 ⟨rfl, hb14⟩
    have HB14 := Lib.hid (below_then HB13.out hb14)
    clear hb14
    go_wp2
    exact ⟨rfl, HB14.out⟩

end Go.Proofs.YtoejeiaeladgjaaDoor
