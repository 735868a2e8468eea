/- Chapter 1's laws, walked: FaultFirst. -/
import Derived.Test.YtoejeiaeladgjaaDoorLg
import Derived.Great.Walk
namespace Go.Proofs.YtoejeiaeladgjaaDoor
open Go.Proofs.BL Go.Proofs.Peel Go.RowKit
set_option maxRecDepth 100000
set_option linter.unusedVariables false

theorem first3a {a b c : List Lk} (h : a ≠ []) : firstOf [a, b, c] = a := by simp [firstOf, h]
theorem first3b {a b c : List Lk} (h : a = []) (h2 : b ≠ []) : firstOf [a, b, c] = b := by simp [firstOf, h, h2]
theorem first3c {a b c : List Lk} (h : a = []) (h2 : b = []) : firstOf [a, b, c] = c := by
  by_cases h3 : c = [] <;> simp [firstOf, h, h2, h3]

theorem bs3 (ea eb ec : Value) (ha : ea = .nilIface ∨ ∃ t x, ea = .iface t x) (hb : eb = .nilIface ∨ ∃ t x, eb = .iface t x) (hc : ec = .nilIface ∨ ∃ t x, ec = .iface t x) :
    Go.Program.builtSlice Tryd.prog 25 3 [(0, ea), (1, eb), (2, ec)] = some #[ea, eb, ec] := by
  rcases ha with rfl | ⟨t1, x1, rfl⟩ <;> rcases hb with rfl | ⟨t2, x2, rfl⟩ <;> rcases hc with rfl | ⟨t3, x3, rfl⟩ <;> kernel_rfl

theorem chn_iface {w : World} {v : Value} {c : List Lk} (h : Chn w v c) : v = .nilIface ∨ ∃ t x, v = .iface t x := by
  cases c with
  | nil => exact .inl h
  | cons x r => obtain ⟨_, _, e, _⟩ := h; exact .inr ⟨_, _, e⟩

set_option maxHeartbeats 8000000 in
/-- FaultFirst. -/
theorem lawFirst (la lb lc : List Li) (va vb vc : Value) (w : World) (hE : ErrT w) (ha : SlV w 6 va (la.map Li.enc)) (hb : SlV w 6 vb (lb.map Li.enc)) (hc : SlV w 6 vc (lc.map Li.enc))
    (hma : la.length ≤ 9223372036854775807) (hmb : lb.length ≤ 9223372036854775807) (hmc : lc.length ≤ 9223372036854775807) :
    Calls Tryd.prog 4 #[va, vb, vc] w (Ans w (.bool true)) := by
  have HE := Lib.hid hE
  have HB0 := Lib.hid hb
  have HC0 := Lib.hid hc
  clear hE hb hc
  refine via fun Q hQ => ?_
  go_enter Tryd.func4, Tryd.ntmps4
  go_wp2_with fail
  refine (lcut la va w ha hma).mono ?_
  rintro e w1 ⟨ua, rfl, ho1, hb1⟩
  have hla := cutL_len la
  generalize cutL la = a at ho1 hla
  have HA1 := Lib.hid ho1.slv
  have HB1 := Lib.hid hb1
  have HVB1 := Lib.hid (HB0.out.below hb1)
  clear ho1 hb1 ha
  go_wp2_with fail
  refine (lcut lb vb w1 HVB1.out hmb).mono ?_
  rintro e w2 ⟨ub, rfl, ho2, hb2⟩
  have hlb := cutL_len lb
  generalize cutL lb = b at ho2 hlb
  have HA2 := Lib.hid (HA1.out.below hb2)
  have HBB2 := Lib.hid ho2.slv
  have HB2 := Lib.hid (below_then HB1.out hb2)
  have HVC2 := Lib.hid (HC0.out.below HB2.out)
  clear ho2 hb2
  go_wp2_with fail
  refine (lcut lc vc w2 HVC2.out hmc).mono ?_
  rintro e w3 ⟨uc, rfl, ho3, hb3⟩
  have hlc := cutL_len lc
  generalize cutL lc = c at ho3 hlc
  have HA3 := Lib.hid (HA2.out.below hb3)
  have HBB3 := Lib.hid (HBB2.out.below hb3)
  have HCC3 := Lib.hid ho3.slv
  have HB3 := Lib.hid (below_then HB2.out hb3)
  clear ho3 hb3
  go_wp2_with fail
  refine (lmade a ua _ HA3.out (by omega)).mono ?_
  rintro e w4 ⟨ea, rfl, hc4, hb4⟩
  have HEA4 := Lib.hid hc4
  have HA4 := Lib.hid (HA3.out.below hb4)
  have HBB4 := Lib.hid (HBB3.out.below hb4)
  have HCC4 := Lib.hid (HCC3.out.below hb4)
  have HB4 := Lib.hid (below_then HB3.out hb4)
  clear hc4 hb4
  go_wp2_with fail
  refine (lmade b ub _ HBB4.out (by omega)).mono ?_
  rintro e w5 ⟨eb, rfl, hc5, hb5⟩
  have HEA5 := Lib.hid (HEA4.out.below hb5)
  have HEB5 := Lib.hid hc5
  have HA5 := Lib.hid (HA4.out.below hb5)
  have HBB5 := Lib.hid (HBB4.out.below hb5)
  have HCC5 := Lib.hid (HCC4.out.below hb5)
  have HB5 := Lib.hid (below_then HB4.out hb5)
  clear hc5 hb5
  go_wp2_with fail
  refine (lmade c uc _ HCC5.out (by omega)).mono ?_
  rintro e w6 ⟨ec, rfl, hc6, hb6⟩
  have HEA6 := Lib.hid (HEA5.out.below hb6)
  have HEB6 := Lib.hid (HEB5.out.below hb6)
  have HEC6 := Lib.hid hc6
  have HA6 := Lib.hid (HA5.out.below hb6)
  have HBB6 := Lib.hid (HBB5.out.below hb6)
  have HCC6 := Lib.hid (HCC5.out.below hb6)
  have HB6 := Lib.hid (below_then HB5.out hb6)
  clear hc6 hb6
  have hbs := Lib.hid (bs3 ea eb ec (chn_iface HEA6.out) (chn_iface HEB6.out) (chn_iface HEC6.out))
  go_wp2_with (refine Great.wpList_buildSliceTo rfl _ 25 3 #[(0, .tmp 16), (1, .tmp 18), (2, .tmp 20)] rfl w6.heap.size rfl _ rfl (by kernel_rfl) #[ea, eb, ec] (by rw [Array.toList_map]; exact hbs.out) ?_)
  have hal : Below w6.heap.size w6 (w6.alloc (.cells #[ea, eb, ec] 25)) := (Below.refl _ _).alloc (Nat.le_refl _) _
  refine (ffirst (some ⟨w6.heap.size, 0, none⟩) 3 3 [ea, eb, ec] [mkL a, mkL b, mkL c] _ rfl (blk_rows1 (Blk.new w6 #[ea, eb, ec] _)) ⟨HEA6.out.below hal, HEB6.out.below hal, HEC6.out.below hal, trivial⟩ (by decide) (by decide)).mono ?_
  rintro e x1 ⟨ve, rfl, hve, hb7⟩
  have h67 := below_then hal hb7
  have HVE1 := Lib.hid hve
  have HAx1 := Lib.hid (HA6.out.below h67)
  have HBBx1 := Lib.hid (HBB6.out.below h67)
  have HCCx1 := Lib.hid (HCC6.out.below h67)
  have HBx1 := Lib.hid (below_then HB6.out h67)
  clear hve hb7 hal h67 HEA6 HEB6 HEC6 hbs
  go_wp2_with fail
  refine (rchain a ua x1 HAx1.out (by omega)).mono ?_
  rintro e x2 ⟨u2, rfl, hv2, hb2⟩
  have HVE2 := Lib.hid (HVE1.out.below hb2)
  have HV2 := Lib.hid hv2
  have HBBx2 := Lib.hid (HBBx1.out.below hb2)
  have HCCx2 := Lib.hid (HCCx1.out.below hb2)
  have HBx2 := Lib.hid (below_then HBx1.out hb2)
  obtain ⟨A2, c2, rfl, hc2, _⟩ := hv2
  simp only [List.length_map] at hc2 HV2 ⊢
  clear hb2
  by_cases hA : chainL a = []
  case neg =>
    have h0 : (((chainL a).length : Nat) == (0 : Int)) = false := int_diff (by have := List.length_pos_iff.2 hA; omega)
    have hEQ := first3a (a := mkL a) (b := mkL b) (c := mkL c) (fun h => hA ((mkL_nil a).1 h))
    have hclen := Nat.le_trans (chainL_len a) hla
    have hq := code_made a
    have hp := place_made a
    have hml := mkL_len a
    have hcw : Chn x2 ve (mkL a) := by
      have := HVE2.out
      rwa [hEQ] at this
    have hvw := HV2.out
    generalize hqq : codeR (chainL a) = q at hq
    generalize hpp : placeR (chainL a) = pl at hp
    have HQ := Lib.hid hq
    have HQQ := Lib.hid hqq
    have HP := Lib.hid hp
    have HPP := Lib.hid hpp
    have HML := Lib.hid hml
    have HCW := Lib.hid hcw
    have HVW := Lib.hid hvw
    have HBW := Lib.hid (HBx2.out)
    clear hq hp hml hqq hpp

    clear hcw hvw
    go_wp2_with fail
    refine (fcodeq HQ.out _ _ (HE.out.below HBW.out) HCW.out).mono ?_
    rintro e x6 ⟨rfl, hb6⟩
    have HB6 := Lib.hid (below_then HBW.out hb6)
    have HC6 := Lib.hid (HCW.out.below hb6)
    have HV6 := Lib.hid (HVW.out.below hb6)
    clear hb6
    go_wp2_with fail
    refine (rcodeq HQQ.out _ _ HV6.out (by omega)).mono ?_
    rintro e x7 ⟨rfl, hb7⟩
    have HB7 := Lib.hid (below_then HB6.out hb7)
    have HC7 := Lib.hid (HC6.out.below hb7)
    have HV7 := Lib.hid (HV6.out.below hb7)
    clear hb7
    go_wp2_with fail
    refine (fplaceq HP.out _ _ (HE.out.below HB7.out) HC7.out).mono ?_
    rintro e x8 ⟨rfl, hb8⟩
    have HB8 := Lib.hid (below_then HB7.out hb8)
    have HC8 := Lib.hid (HC7.out.below hb8)
    have HV8 := Lib.hid (HV7.out.below hb8)
    clear hb8
    go_wp2_with fail
    refine (rplaceq HPP.out _ _ HV8.out (by omega)).mono ?_
    rintro e x9 ⟨rfl, hb9⟩
    have HB9 := Lib.hid (below_then HB8.out hb9)
    have HC9 := Lib.hid (HC8.out.below hb9)
    clear hb9
    go_wp2_with fail
    refine (fdepth _ _ _ HC9.out (by rw [HML.out]; omega)).mono ?_
    rintro e x10 ⟨rfl, hb10⟩
    rw [HML.out]
    have HB10 := Lib.hid (below_then HB9.out hb10)
    clear hb10
    go_wp2_with fail
    refine (ffirst none 0 0 [] [] _ rfl (RowsAt.nil _ _ _) trivial (by decide) (by decide)).mono ?_
    rintro e x11 ⟨f0, rfl, hf0, hb11⟩
    obtain rfl : f0 = .nilIface := hf0
    have HB11 := Lib.hid (below_then HB10.out hb11)
    clear hb11
    go_wp2_with fail
    refine (lawake _ (HE.out.below HB11.out)).mono ?_
    rintro e x12 ⟨rfl, hb12⟩
    have HB12 := Lib.hid (below_then HB11.out hb12)
    clear hb12
    go_wp2
    exact ⟨rfl, HB12.out⟩

  have h0 : (((chainL a).length : Nat) == (0 : Int)) = true := int_same (by rw [hA]; rfl)
  go_wp2_with fail
  refine (rchain b ub x2 HBBx2.out (by omega)).mono ?_
  rintro e x3 ⟨u3, rfl, hv3, hb3⟩
  have HVE3 := Lib.hid (HVE2.out.below hb3)
  have HV3 := Lib.hid hv3
  have HCCx3 := Lib.hid (HCCx2.out.below hb3)
  have HBx3 := Lib.hid (below_then HBx2.out hb3)
  obtain ⟨A3, c3, rfl, hc3, _⟩ := hv3
  simp only [List.length_map] at hc3 HV3 ⊢
  clear hb3
  by_cases hB : chainL b = []
  case neg =>
    have h1 : (((chainL b).length : Nat) == (0 : Int)) = false := int_diff (by have := List.length_pos_iff.2 hB; omega)
    have hEQ := first3b (a := mkL a) (b := mkL b) (c := mkL c) ((mkL_nil a).2 hA) (fun h => hB ((mkL_nil b).1 h))
    have hclen := Nat.le_trans (chainL_len b) hlb
    have hq := code_made b
    have hp := place_made b
    have hml := mkL_len b
    have hcw : Chn x3 ve (mkL b) := by
      have := HVE3.out
      rwa [hEQ] at this
    have hvw := HV3.out
    generalize hqq : codeR (chainL b) = q at hq
    generalize hpp : placeR (chainL b) = pl at hp
    have HQ := Lib.hid hq
    have HQQ := Lib.hid hqq
    have HP := Lib.hid hp
    have HPP := Lib.hid hpp
    have HML := Lib.hid hml
    have HCW := Lib.hid hcw
    have HVW := Lib.hid hvw
    have HBW := Lib.hid (HBx3.out)
    clear hq hp hml hqq hpp

    clear hcw hvw
    go_wp2_with fail
    refine (fcodeq HQ.out _ _ (HE.out.below HBW.out) HCW.out).mono ?_
    rintro e x6 ⟨rfl, hb6⟩
    have HB6 := Lib.hid (below_then HBW.out hb6)
    have HC6 := Lib.hid (HCW.out.below hb6)
    have HV6 := Lib.hid (HVW.out.below hb6)
    clear hb6
    go_wp2_with fail
    refine (rcodeq HQQ.out _ _ HV6.out (by omega)).mono ?_
    rintro e x7 ⟨rfl, hb7⟩
    have HB7 := Lib.hid (below_then HB6.out hb7)
    have HC7 := Lib.hid (HC6.out.below hb7)
    have HV7 := Lib.hid (HV6.out.below hb7)
    clear hb7
    go_wp2_with fail
    refine (fplaceq HP.out _ _ (HE.out.below HB7.out) HC7.out).mono ?_
    rintro e x8 ⟨rfl, hb8⟩
    have HB8 := Lib.hid (below_then HB7.out hb8)
    have HC8 := Lib.hid (HC7.out.below hb8)
    have HV8 := Lib.hid (HV7.out.below hb8)
    clear hb8
    go_wp2_with fail
    refine (rplaceq HPP.out _ _ HV8.out (by omega)).mono ?_
    rintro e x9 ⟨rfl, hb9⟩
    have HB9 := Lib.hid (below_then HB8.out hb9)
    have HC9 := Lib.hid (HC8.out.below hb9)
    clear hb9
    go_wp2_with fail
    refine (fdepth _ _ _ HC9.out (by rw [HML.out]; omega)).mono ?_
    rintro e x10 ⟨rfl, hb10⟩
    rw [HML.out]
    have HB10 := Lib.hid (below_then HB9.out hb10)
    clear hb10
    go_wp2_with fail
    refine (ffirst none 0 0 [] [] _ rfl (RowsAt.nil _ _ _) trivial (by decide) (by decide)).mono ?_
    rintro e x11 ⟨f0, rfl, hf0, hb11⟩
    obtain rfl : f0 = .nilIface := hf0
    have HB11 := Lib.hid (below_then HB10.out hb11)
    clear hb11
    go_wp2_with fail
    refine (lawake _ (HE.out.below HB11.out)).mono ?_
    rintro e x12 ⟨rfl, hb12⟩
    have HB12 := Lib.hid (below_then HB11.out hb12)
    clear hb12
    go_wp2
    exact ⟨rfl, HB12.out⟩

  have h1 : (((chainL b).length : Nat) == (0 : Int)) = true := int_same (by rw [hB]; rfl)
  go_wp2_with fail
  refine (rchain c uc x3 HCCx3.out (by omega)).mono ?_
  rintro e x4 ⟨u4, rfl, hv4, hb4⟩
  have HVE4 := Lib.hid (HVE3.out.below hb4)
  have HV4 := Lib.hid hv4
  have HBx4 := Lib.hid (below_then HBx3.out hb4)
  obtain ⟨A4, c4, rfl, hc4, _⟩ := hv4
  simp only [List.length_map] at hc4 HV4 ⊢
  clear hb4
  have hEQ := first3c (a := mkL a) (b := mkL b) (c := mkL c) ((mkL_nil a).2 hA) ((mkL_nil b).2 hB)
  have hclen := Nat.le_trans (chainL_len c) hlc
  have hq := code_made c
  have hp := place_made c
  have hml := mkL_len c
  have hcw : Chn x4 ve (mkL c) := by
    have := HVE4.out
    rwa [hEQ] at this
  have hvw := HV4.out
  generalize hqq : codeR (chainL c) = q at hq
  generalize hpp : placeR (chainL c) = pl at hp
  have HQ := Lib.hid hq
  have HQQ := Lib.hid hqq
  have HP := Lib.hid hp
  have HPP := Lib.hid hpp
  have HML := Lib.hid hml
  have HCW := Lib.hid hcw
  have HVW := Lib.hid hvw
  have HBW := Lib.hid (HBx4.out)
  clear hq hp hml hqq hpp

  clear hcw hvw
  go_wp2_with fail
  refine (fcodeq HQ.out _ _ (HE.out.below HBW.out) HCW.out).mono ?_
  rintro e x6 ⟨rfl, hb6⟩
  have HB6 := Lib.hid (below_then HBW.out hb6)
  have HC6 := Lib.hid (HCW.out.below hb6)
  have HV6 := Lib.hid (HVW.out.below hb6)
  clear hb6
  go_wp2_with fail
  refine (rcodeq HQQ.out _ _ HV6.out (by omega)).mono ?_
  rintro e x7 ⟨rfl, hb7⟩
  have HB7 := Lib.hid (below_then HB6.out hb7)
  have HC7 := Lib.hid (HC6.out.below hb7)
  have HV7 := Lib.hid (HV6.out.below hb7)
  clear hb7
  go_wp2_with fail
  refine (fplaceq HP.out _ _ (HE.out.below HB7.out) HC7.out).mono ?_
  rintro e x8 ⟨rfl, hb8⟩
  have HB8 := Lib.hid (below_then HB7.out hb8)
  have HC8 := Lib.hid (HC7.out.below hb8)
  have HV8 := Lib.hid (HV7.out.below hb8)
  clear hb8
  go_wp2_with fail
  refine (rplaceq HPP.out _ _ HV8.out (by omega)).mono ?_
  rintro e x9 ⟨rfl, hb9⟩
  have HB9 := Lib.hid (below_then HB8.out hb9)
  have HC9 := Lib.hid (HC8.out.below hb9)
  clear hb9
  go_wp2_with fail
  refine (fdepth _ _ _ HC9.out (by rw [HML.out]; omega)).mono ?_
  rintro e x10 ⟨rfl, hb10⟩
  rw [HML.out]
  have HB10 := Lib.hid (below_then HB9.out hb10)
  clear hb10
  go_wp2_with fail
  refine (ffirst none 0 0 [] [] _ rfl (RowsAt.nil _ _ _) trivial (by decide) (by decide)).mono ?_
  rintro e x11 ⟨f0, rfl, hf0, hb11⟩
  obtain rfl : f0 = .nilIface := hf0
  have HB11 := Lib.hid (below_then HB10.out hb11)
  clear hb11
  go_wp2_with fail
  refine (lawake _ (HE.out.below HB11.out)).mono ?_
  rintro e x12 ⟨rfl, hb12⟩
  have HB12 := Lib.hid (below_then HB11.out hb12)
  clear hb12
  go_wp2
  exact ⟨rfl, HB12.out⟩

end Go.Proofs.YtoejeiaeladgjaaDoor
