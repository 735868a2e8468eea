/- Chapter 1's laws, walked: FaultKept. -/
import Derived.Test.YtoejeiaeladgjaaDoorLg
import Derived.Deep.RegionHeld3
import Derived.Deep.DeepMust
namespace Go.Proofs.YtoejeiaeladgjaaDoor
open Go.Proofs.BL Go.Proofs.Peel Go.RowKit
set_option maxRecDepth 100000
set_option linter.unusedVariables false

set_option maxHeartbeats 8000000 in
/-- FaultKept. -/
theorem lawKept (la lb : List Li) (va vb : Value) (w : World) (hE : ErrT w) (ha : SlV w 6 va (la.map Li.enc)) (hb : SlV w 6 vb (lb.map Li.enc))
    (hma : la.length ≤ 9223372036854775807) (hmb : lb.length ≤ 9223372036854775807) :
    Calls Tryd.prog 3 #[va, vb] w (Ans w (.bool true)) := by
  have HE := Lib.hid hE
  have HB0 := Lib.hid hb
  clear hE hb
  refine via fun Q hQ => ?_
  go_enter Tryd.func3, Tryd.ntmps3
  go_wp2_with fail
  refine (lcut la va w ha hma).mono ?_
  rintro e w1 ⟨ua, rfl, ho1, hb1⟩
  have hla := cutL_len la
  generalize cutL la = a at ho1 hla
  have HA1 := Lib.hid ho1.slv
  have HB1 := Lib.hid hb1
  have HVB1 := Lib.hid (HB0.out.below hb1)
  clear ho1 hb1 ha
  go_wp2_with fail
  refine (lcut lb vb w1 HVB1.out hmb).mono ?_
  rintro e w2 ⟨ub, rfl, ho2, hb2⟩
  have hlb := cutL_len lb
  generalize cutL lb = b at ho2 hlb
  have HA2 := Lib.hid (HA1.out.below hb2)
  have HBB2 := Lib.hid ho2.slv
  have HB2 := Lib.hid (below_then HB1.out hb2)
  clear ho2 hb2
  go_wp2_with fail
  refine (lmade a ua _ HA2.out (by omega)).mono ?_
  rintro e w3 ⟨ea, rfl, hc3, hb3⟩
  have HEA3 := Lib.hid hc3
  have HA3 := Lib.hid (HA2.out.below hb3)
  have HBB3 := Lib.hid (HBB2.out.below hb3)
  have HB3 := Lib.hid (below_then HB2.out hb3)
  clear hc3 hb3
  go_wp2_with fail
  refine (rchain a ua w3 HA3.out (by omega)).mono ?_
  rintro e w4 ⟨u4, rfl, hv4, hb4⟩
  have HEA4 := Lib.hid (HEA3.out.below hb4)
  have HV4 := Lib.hid hv4
  have HBB4 := Lib.hid (HBB3.out.below hb4)
  have HB4 := Lib.hid (below_then HB3.out hb4)
  obtain ⟨A4, c4, rfl, hc4, _⟩ := hv4
  obtain ⟨Ab, cb, rfl, hcb, hrb⟩ := HBB4.out
  simp only [List.length_map] at hc4 HV4 hcb ⊢
  clear hb4 HBB4 HBB3 HBB2
  have HRB := Lib.hid hrb
  clear hrb
  go_wp2
  go_loopg [7, 8] (b.length) (fun n f i wr => n ≤ b.length ∧ i = .int .i64 ((n : Int) - 1) ∧ (∃ d, Chn wr f d ∧ codeOf d = codeOf (mkL a) ∧ (d = [] ↔ mkL a = [])) ∧ Below w4.heap.size w4 wr)
  case atStart => exact ⟨Nat.le_refl _, by first | rfl | (congr 1; omega), ⟨_, HEA4.out, rfl, Iff.rfl⟩, Below.refl _ _⟩
  case round =>
    obtain ⟨hk, rfl, ⟨d, hc, hcode, hnil⟩, hb⟩ := hrel
    cases gk with
    | zero =>
      have HC := Lib.hid hc
      have HCODE := Lib.hid (hcode.trans (code_made a))
      have HNIL := Lib.hid hnil
      have HB := Lib.hid hb
      clear hc hb hcode hnil
      go_wp2_with fail
      have hiff : (u7 = .nilIface ∧ ea = .nilIface) ∨ ∃ t1 x1 t2 x2, u7 = .iface t1 x1 ∧ ea = .iface t2 x2 := by
        by_cases hd : d = []
        · have h1 := HC.out; rw [hd] at h1
          have h2 := HEA4.out; rw [HNIL.out.1 hd] at h2
          exact .inl ⟨h1, h2⟩
        · have h1 := HC.out
          have h2 := HEA4.out
          obtain ⟨y, s, rfl⟩ := List.exists_cons_of_ne_nil hd
          obtain ⟨y2, s2, h3⟩ := List.exists_cons_of_ne_nil (fun h => hd (HNIL.out.2 h))
          rw [h3] at h2
          obtain ⟨_, _, e1, _⟩ := h1
          obtain ⟨_, _, e2, _⟩ := h2
          exact .inr ⟨_, _, _, _, e1, e2⟩
      generalize hqq : codeR (chainL a) = q at HCODE
      have HQQ := Lib.hid hqq
      have h17 : ∀ x, Below wr.heap.size wr x → Calls Tryd.prog 17 #[u7] x (fun e x' => e = .returned (.int .i64 q) ∧ Below wr.heap.size wr x') := fun x hx =>
        (fcodeq HCODE.out _ _ ((HE.out.below (below_then HB4.out HB.out)).below hx) (HC.out.below hx)).mono fun e x' h => ⟨h.1, below_then hx h.2⟩
      have h18 : ∀ x, Below wr.heap.size wr x → Calls Tryd.prog 18 #[.slice A4 (chainL a).length c4] x (fun e x' => e = .returned (.int .i64 q) ∧ Below wr.heap.size wr x') := fun x hx =>
        (rcodeq HQQ.out _ _ ((HV4.out.below HB.out).below hx) (by have := chainL_len a; omega)).mono fun e x' h => ⟨h.1, below_then hx h.2⟩
      have hqm := hqq ▸ code_made a
      have hqm2 := place_made a
      have hqm3 := mkL_len a
      generalize hpp : placeR (chainL a) = pl at hqm2
      have HPP := Lib.hid hpp
      have HP := Lib.hid hqm2
      have HML := Lib.hid hqm3
      have HQ := Lib.hid hqm
      have hclen := Nat.le_trans (chainL_len a) hla
      have H17 := Lib.hid h17
      have H18 := Lib.hid h18
      have hdr : Below wr.heap.size wr wr.drew := below_drewN (Below.refl _ _) 1
      have hEW := Lib.hid (HE.out.below (below_then HB4.out HB.out))
      have hCW := Lib.hid (HEA4.out.below HB.out)
      have hVW := Lib.hid (HV4.out.below HB.out)
      have hBW := Lib.hid (below_then HB4.out HB.out)
      clear h17 h18 hqq hqm hpp hqm2 hqm3 HC HCODE HNIL HEA4 HV4 HRB HB HB4 HA1 HA2 HA3 HB1 HB2 HB3 HVB1 HB0
      rcases hiff with ⟨rfl, rfl⟩ | ⟨t1, x1, t2, x2, rfl, rfl⟩
      all_goals
        go_region_held3 (fun x => Below wr.heap.size wr x) ((first | assumption | exact below_drewN (Below.refl _ _) 1)) ((first | (go_at_call 17; refine (H17.out _ (by assumption)).mono ?_; rintro e x5 ⟨rfl, hbN⟩) | (go_at_call 18; refine (H18.out _ (by assumption)).mono ?_; rintro e x5 ⟨rfl, hbN⟩)))
      all_goals
        have HCW := Lib.hid (hCW.out.below hbN)
        have HVW := Lib.hid (hVW.out.below hbN)
        have HBW := Lib.hid (below_then hBW.out hbN)
        clear H17 H18 hdr hCW hVW hBW hEW
        go_wp2_with fail
        go_wp2_with fail
        refine (fcodeq HQ.out _ _ (HE.out.below HBW.out) HCW.out).mono ?_
        rintro e x6 ⟨rfl, hb6⟩
        have HB6 := Lib.hid (below_then HBW.out hb6)
        have HC6 := Lib.hid (HCW.out.below hb6)
        have HV6 := Lib.hid (HVW.out.below hb6)
        clear hb6
        go_wp2_with fail
        refine (rcodeq HQQ.out _ _ HV6.out (by omega)).mono ?_
        rintro e x7 ⟨rfl, hb7⟩
        have HB7 := Lib.hid (below_then HB6.out hb7)
        have HC7 := Lib.hid (HC6.out.below hb7)
        have HV7 := Lib.hid (HV6.out.below hb7)
        clear hb7
        go_wp2_with fail
        refine (fplaceq HP.out _ _ (HE.out.below HB7.out) HC7.out).mono ?_
        rintro e x8 ⟨rfl, hb8⟩
        have HB8 := Lib.hid (below_then HB7.out hb8)
        have HC8 := Lib.hid (HC7.out.below hb8)
        have HV8 := Lib.hid (HV7.out.below hb8)
        clear hb8
        go_wp2_with fail
        refine (rplaceq HPP.out _ _ HV8.out (by omega)).mono ?_
        rintro e x9 ⟨rfl, hb9⟩
        have HB9 := Lib.hid (below_then HB8.out hb9)
        have HC9 := Lib.hid (HC8.out.below hb9)
        clear hb9
        go_wp2_with fail
        refine (fdepth _ _ _ HC9.out (by rw [HML.out]; omega)).mono ?_
        rintro e x10 ⟨rfl, hb10⟩
        rw [HML.out]
        have HB10 := Lib.hid (below_then HB9.out hb10)
        clear hb10
        go_wp2_with fail
        refine (lawake _ (HE.out.below HB10.out)).mono ?_
        rintro e x12 ⟨rfl, hb12⟩
        have HB12 := Lib.hid (below_then HB10.out hb12)
        clear hb12
        go_wp2
        exact ⟨rfl, HB12.out⟩

    | succ k =>
      have hlt : k < b.length := by omega
      rw [show ((k + 1 : Nat) : Int) - 1 = (k : Int) from by omega]
      obtain ⟨b', o, rfl, c0, c1, c2, c3, c4, c5⟩ := li_cells HRB.out hb hlt
      generalize hxe : b[k] = x at c0 c1 c2 c3 c4 c5
      have HC := Lib.hid hc
      have HB := Lib.hid hb
      have HCODE := Lib.hid hcode
      have HNIL := Lib.hid hnil
      clear hc hb hcode hnil hxe
      by_cases h0 : x.kind = 0
      · have g0 : (x.kind == 0) = true := by simpa using h0
        clear h0
        go_wp2
        go_roundg k
        case measure => exact Nat.lt_succ_self _
        case rel => exact ⟨by omega, by go_num, ⟨d, HC.out, HCODE.out, HNIL.out⟩, HB.out⟩
      · have g0 : (x.kind == 0) = false := by simpa using h0
        have H0 := Lib.hid h0
        clear h0
        go_wp2_with fail
        refine (lwrapped x _ _ _ HC.out).mono ?_
        rintro e w' ⟨u, rfl, hc', hb'⟩
        have HC' := Lib.hid hc'
        have HB' := Lib.hid (below_then HB.out hb')
        clear hc' hb'
        go_wp2
        go_roundg k
        case measure => exact Nat.lt_succ_self _
        case rel => exact ⟨by omega, by go_num, ⟨_, HC'.out, (code_wrap H0.out).1.trans HCODE.out, (code_wrap H0.out).2.trans HNIL.out⟩, HB'.out⟩
end Go.Proofs.YtoejeiaeladgjaaDoor
