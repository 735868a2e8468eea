/- Chapter 1's laws, walked. -/
import Derived.Test.YtoejeiaeladgjaaDoorLf
import Derived.Test.YtoejeiaeladgjaaDoorLd
import Derived.Test.YtoejeiaeladgjaaDoorLe
namespace Go.Proofs.YtoejeiaeladgjaaDoor
open Go.Proofs.BL Go.Proofs.Peel Go.RowKit
set_option maxRecDepth 100000
set_option linter.unusedVariables false

theorem fcodeq {q : Int} {c : List Lk} (hq : codeOf c = q) (v : Value) (w : World) (hE : ErrT w) (hc : Chn w v c) : Calls Tryd.prog 17 #[v] w (Ans w (.int .i64 q)) := hq ▸ fcode v c w hE hc
theorem fplaceq {q : Int} {c : List Lk} (hq : placeOf c = q) (v : Value) (w : World) (hE : ErrT w) (hc : Chn w v c) : Calls Tryd.prog 19 #[v] w (Ans w (.int .i64 q)) := hq ▸ fplace v c w hE hc
theorem rcodeq {q : Int} {l : List Li} (hq : codeR l = q) (v : Value) (w : World) (hv : SlV w 6 v (l.map Li.enc)) (hm : l.length ≤ 9223372036854775807) : Calls Tryd.prog 18 #[v] w (Ans w (.int .i64 q)) := hq ▸ rcode l v w hv hm
theorem rplaceq {q : Int} {l : List Li} (hq : placeR l = q) (v : Value) (w : World) (hv : SlV w 6 v (l.map Li.enc)) (hm : l.length ≤ 9223372036854775806) : Calls Tryd.prog 20 #[v] w (Ans w (.int .i64 q)) := hq ▸ rplace l v w hv hm

set_option maxHeartbeats 4000000 in
/-- FaultIs. -/
theorem lawIs (l0 : List Li) (v : Value) (n : Int) (w : World) (hE : ErrT w) (hv : SlV w 6 v (l0.map Li.enc)) (hm : l0.length ≤ 9223372036854775807) :
    Calls Tryd.prog 7 #[v, .int .i64 n] w (Ans w (.bool true)) := by
  have HE := Lib.hid hE
  clear hE
  refine via fun Q hQ => ?_
  go_enter Tryd.func7, Tryd.ntmps7
  go_wp2_with fail
  refine (lcut l0 v w hv hm).mono ?_
  rintro e w1 ⟨u1, rfl, ho1, hb1⟩
  have hlen := cutL_len l0
  generalize cutL l0 = l at ho1 hlen
  have HV1 := Lib.hid ho1.slv
  have HB1 := Lib.hid hb1
  clear ho1 hb1 hv
  go_wp2_with fail
  refine (lmade l u1 w1 HV1.out (by omega)).mono ?_
  rintro e w2 ⟨u2, rfl, hc2, hb2⟩
  have HC2 := Lib.hid hc2
  have HV2 := Lib.hid (HV1.out.below hb2)
  have HB2 := Lib.hid (below_then HB1.out hb2)
  clear hc2 hb2
  go_wp2_with fail
  refine (rchain l u1 w2 HV2.out (by omega)).mono ?_
  rintro e w3 ⟨u3, rfl, hv3, hb3⟩
  have HC3 := Lib.hid (HC2.out.below hb3)
  have HV3 := Lib.hid hv3
  have HB3 := Lib.hid (below_then HB2.out hb3)
  have hclen := chainL_len l
  have hq := code_made l
  have hne := mkL_nil l
  generalize hqq : codeR (chainL l) = q at hq
  have HQ := Lib.hid hq
  have HQQ := Lib.hid hqq
  have HN := Lib.hid hne
  obtain ⟨A3, c3, rfl, hc3, _⟩ := hv3
  simp only [List.length_map] at hc3 HV3 ⊢
  clear hb3 hq hqq hne
  by_cases hz : chainL l = []
  · have hz0 : (chainL l).length = 0 := by rw [hz]; rfl
    have hmz : mkL l = [] := HN.out.2 hz
    rw [hz0] at HV3 ⊢
    have HZ := Lib.hid hz
    have HMZ := Lib.hid hmz
    clear hz hmz hz0 hclen hc3
    go_wp2_with fail
    refine (fis u2 _ n _ (HE.out.below HB3.out) HC3.out).mono ?_
    rintro e w4 ⟨rfl, hb4⟩
    have HB4 := Lib.hid (below_then HB3.out hb4)
    rw [HMZ.out]
    clear hb4
    go_wp2_with fail
    refine (lawake _ (HE.out.below HB4.out)).mono ?_
    rintro e w5 ⟨rfl, hb5⟩
    have HB5 := Lib.hid (below_then HB4.out hb5)
    clear hb5
    go_wp2
    exact ⟨rfl, HB5.out⟩
  · have hmz : mkL l ≠ [] := fun e => hz (HN.out.1 e)
    have hzl : 0 < (chainL l).length := List.length_pos_iff.2 hz
    have hie : (mkL l).isEmpty = false := by cases h : mkL l; exact absurd h hmz; rfl
    have HIE := Lib.hid hie
    clear hz hmz hie
    go_wp2_with fail
    refine (rcodeq HQQ.out _ _ HV3.out (by omega)).mono ?_
    rintro e w4 ⟨rfl, hb4⟩
    have HB4 := Lib.hid (below_then HB3.out hb4)
    have HC4 := Lib.hid (HC3.out.below hb4)
    clear hb4
    go_wp2_with fail
    refine (fis u2 _ n _ (HE.out.below HB4.out) HC4.out).mono ?_
    rintro e w5 ⟨rfl, hb5⟩
    have HB5 := Lib.hid (below_then HB4.out hb5)
    rw [HIE.out, HQ.out, Bool.not_false, Bool.true_and]
    clear hb5
    by_cases hnq : n = q
    · subst hnq
      go_wp2_with fail
      refine (lawake _ (HE.out.below HB5.out)).mono ?_
      rintro e w6 ⟨rfl, hb6⟩
      have HB6 := Lib.hid (below_then HB5.out hb6)
      clear hb6
      go_wp2
      exact ⟨rfl, HB6.out⟩
    · have g1 := int_diff hnq
      have g2 := int_diff (Ne.symm hnq)
      clear hnq
      go_wp2_with fail
      refine (lawake _ (HE.out.below HB5.out)).mono ?_
      rintro e w6 ⟨rfl, hb6⟩
      have HB6 := Lib.hid (below_then HB5.out hb6)
      clear hb6
      go_wp2
      exact ⟨rfl, HB6.out⟩
end Go.Proofs.YtoejeiaeladgjaaDoor
