/- Package valid: Check, First. -/
import Derived.Test.YtkfciofpbnlmeaaDoorVd
import Derived.Test.YtkfciofpbnlmeaaDoorFkc
set_option linter.unusedVariables false
set_option linter.unusedSimpArgs false
set_option maxRecDepth 100000
namespace Go.Proofs.YtkfciofpbnlmeaaDoor
open Go.Proofs.BL Go.Proofs.Peel Go.RowKit Go.Proofs.Ky Go.Proofs.Vl

theorem since_cases (f : Nat) (all : List (List Str)) (n : Int) (reads : List Str) :
    (sinceC f all.length n = [] ∧ ∃ s : Nat, n = s ∧ f ≤ s ∧ s ≤ all.length ∧ checkV f all n reads = if firstV all s reads > 0 then 23 else 0) ∨
    (∃ x r, sinceC f all.length n = x :: r ∧ codeOf (x :: r) = checkV f all n reads ∧ ¬ checkV f all n reads = 23) := by
  by_cases h1 : n < 0 ∨ (all.length : Int) < n
  · have e1 : sinceC f all.length n = [.bnd all.length n, .num 2] := if_pos h1
    have e2 : checkV f all n reads = 2 := if_pos h1
    rw [e1, e2]
    exact .inr ⟨_, _, rfl, rfl, by decide⟩
  · have e1 : sinceC f all.length n = if n < f then [.at_ n, .num 22] else [] := if_neg h1
    have e2 : checkV f all n reads = if n < f then 22 else if firstV all n.toNat reads > 0 then 23 else 0 := if_neg h1
    rw [e1, e2]
    by_cases h2 : n < f
    · rw [if_pos h2, if_pos h2]
      exact .inr ⟨_, _, rfl, rfl, by decide⟩
    · rw [if_neg h2, if_neg h2]
      exact .inl ⟨rfl, n.toNat, by omega, by omega, by omega, rfl⟩
set_option maxHeartbeats 8000000 in
theorem vCheck (p f : Nat) (Lv : Value) (vs : List Value) (all : List (List Str)) (n : Int) (Ar : Option Addr) (nr cr : Nat) (reads : List Str) (w : World) (h : HisF w p f Lv vs all) (hE : ErrT w)
    (hr : RowsAt w 1 Ar (rwS reads)) (hnr : reads.length = nr) (hlr : nr ≤ 1000) :
    Calls Tryd.prog 10 #[.pointer (some ⟨p, 0, none⟩), .int .i64 n, .slice Ar nr cr] w (Tells_ (.int .i64 (checkV f all n reads)) w) := by
  refine via fun Q hQ => ?_
  have HQ := Lib.hid hQ
  have HS := Lib.hid (vSince p f Lv vs all n w h)
  have HC := Lib.hid (fun (v : Value) (c : List Lk) (w' : World) (hb : Below w.heap.size w w') (hc : Chn w' v c) => fcode v c w' (hE.below hb) hc)
  have hcs := since_cases f all n reads
  have HF := Lib.hid (fun (s : Nat) (h1 : f ≤ s) (h2 : s ≤ all.length) (w' : World) (hb : Below w.heap.size w w') => vFirst p f Lv vs all s Ar nr cr reads w' (h.below hb) h1 h2 (hr.below hb) hnr hlr)
  clear hQ h hE hr hnr
  generalize sinceC f all.length n = ck at *
  generalize checkV f all n reads = cv at *
  go_enter Tryd.func10, Tryd.ntmps10
  go_wp2_with fail
  (with_reducible refine HS.out.mono ?_)
  rintro e w1 ⟨v1, rfl, hc1, hb1⟩
  rcases hcs with ⟨rfl, s, rfl, h1, h2, hcv⟩ | ⟨x, r, rfl, hcv, _⟩
  · obtain rfl : v1 = .nilIface := hc1
    have HFs := Lib.hid (HF.out s h1 h2 w1 hb1)
    have HB1 := Lib.hid hb1
    have HCV := Lib.hid hcv
    clear hb1 hcv HF HS
    go_wp2_with fail
    (with_reducible refine HFs.out.mono ?_)
    rintro e w2 ⟨rfl, hb2⟩
    have HB2 := Lib.hid (below_then HB1.out hb2)
    have HN := Lib.hid (fnew 23 w2)
    clear hb2 HFs
    generalize firstV all s reads = fv at *
    by_cases h0 : fv > 0
    · have h0i : (0 : Int) < (fv : Int) := by omega
      have e23 : cv = 23 := by rw [HCV.out, if_pos h0]
      subst e23
      go_wp2_with fail
      (with_reducible refine HN.out.mono ?_)
      rintro e w3 ⟨v3, rfl, hc3, hb3⟩
      have HAt := Lib.hid (fat fv v3 _ w3 hc3)
      have HB3 := Lib.hid (below_then HB2.out hb3)
      clear hc3 hb3 HN
      go_wp2_with fail
      (with_reducible refine HAt.out.mono ?_)
      rintro e w4 ⟨v4, rfl, hc4, hb4⟩
      have HB4 := Lib.hid (below_then HB3.out hb4)
      have HCd := Lib.hid (HC.out v4 _ w4 HB4.out hc4)
      clear hc4 hb4 HAt
      go_wp2_with fail
      (with_reducible refine HCd.out.mono ?_)
      rintro e w5 ⟨rfl, hb5⟩
      have HB5 := Lib.hid (below_then HB4.out hb5)
      go_wp2_with fail
      exact HQ.out _ _ ⟨rfl, HB5.out⟩
    · have h0i : ¬ (0 : Int) < (fv : Int) := by omega
      have e0 : cv = 0 := by rw [HCV.out, if_neg h0]
      subst e0
      have HCd := Lib.hid (HC.out .nilIface [] w2 HB2.out rfl)
      go_wp2_with fail
      (with_reducible refine HCd.out.mono ?_)
      rintro e w5 ⟨rfl, hb5⟩
      have HB5 := Lib.hid (below_then HB2.out hb5)
      go_wp2_with fail
      exact HQ.out _ _ ⟨rfl, HB5.out⟩
  · have HB1 := Lib.hid hb1
    have HCd := Lib.hid (HC.out v1 _ w1 HB1.out hc1)
    obtain ⟨b, u, rfl, _⟩ := hc1
    have HCV := Lib.hid hcv
    clear hb1 hcv HF HS
    generalize codeOf (x :: r) = cv' at *
    go_wp2_with fail
    (with_reducible refine HCd.out.mono ?_)
    rintro e w5 ⟨rfl, hb5⟩
    have HB5 := Lib.hid (below_then HB1.out hb5)
    go_wp2_with fail
    exact HQ.out _ _ ⟨by rw [← HCV.out]; rfl, HB5.out⟩
/-- What First tells. -/
def fstT (f : Nat) (all : List (List Str)) (n : Int) (reads : List Str) : Int × Bool := if checkV f all n reads = 23 then (((firstV all n.toNat reads : Nat) : Int), true) else (0, false)
set_option maxHeartbeats 8000000 in
theorem vFst (p f : Nat) (Lv : Value) (vs : List Value) (all : List (List Str)) (n : Int) (Ar : Option Addr) (nr cr : Nat) (reads : List Str) (w : World) (h : HisF w p f Lv vs all)
    (hr : RowsAt w 1 Ar (rwS reads)) (hnr : reads.length = nr) (hlr : nr ≤ 1000) :
    Calls Tryd.prog 14 #[.pointer (some ⟨p, 0, none⟩), .int .i64 n, .slice Ar nr cr] w (Tells_ (.tuple #[.int .i64 (fstT f all n reads).1, .bool (fstT f all n reads).2]) w) := by
  refine via fun Q hQ => ?_
  have HQ := Lib.hid hQ
  have HS := Lib.hid (vSince p f Lv vs all n w h)
  have hcs := since_cases f all n reads
  have HF := Lib.hid (fun (s : Nat) (h1 : f ≤ s) (h2 : s ≤ all.length) (w' : World) (hb : Below w.heap.size w w') => vFirst p f Lv vs all s Ar nr cr reads w' (h.below hb) h1 h2 (hr.below hb) hnr hlr)
  have HT := Lib.hid (show fstT f all n reads = if checkV f all n reads = 23 then (((firstV all n.toNat reads : Nat) : Int), true) else (0, false) from rfl)
  clear hQ h hr hnr
  generalize sinceC f all.length n = ck at *
  generalize checkV f all n reads = cv at *
  generalize fstT f all n reads = ft at *
  go_enter Tryd.func14, Tryd.ntmps14
  go_wp2_with fail
  (with_reducible refine HS.out.mono ?_)
  rintro e w1 ⟨v1, rfl, hc1, hb1⟩
  rcases hcs with ⟨rfl, s, rfl, h1, h2, hcv⟩ | ⟨x, r, rfl, hcv, h23⟩
  · obtain rfl : v1 = .nilIface := hc1
    have HFs := Lib.hid (HF.out s h1 h2 w1 hb1)
    have HB1 := Lib.hid hb1
    have hft : ft = (((firstV all s reads : Nat) : Int), decide ((0 : Int) < (firstV all s reads : Nat))) := by
      rw [HT.out, hcv, Int.toNat_natCast]
      by_cases h0 : firstV all s reads > 0
      · rw [if_pos (by rw [if_pos h0]), decide_eq_true (by omega)]
      · rw [if_neg (by rw [if_neg h0]; decide), decide_eq_false (by omega)]
        have : firstV all s reads = 0 := by omega
        rw [this]; rfl
    subst hft
    clear hb1 hcv HF HS
    go_wp2_with fail
    (with_reducible refine HFs.out.mono ?_)
    rintro e w2 ⟨rfl, hb2⟩
    have HB2 := Lib.hid (below_then HB1.out hb2)
    clear hb2 HFs
    go_wp2_with fail
    refine HQ.out _ _ ⟨?_, HB2.out⟩
    first | rfl | (show Ending.returned (.tuple _) = Ending.returned (.tuple _); simp)
  · have HB1 := Lib.hid hb1
    obtain ⟨b, u, rfl, _⟩ := hc1
    have hft : ft = (0, false) := by rw [HT.out, if_neg h23]
    subst hft
    clear hb1 hcv HF HS h23
    go_wp2_with fail
    exact HQ.out _ _ ⟨rfl, HB1.out⟩
end Go.Proofs.YtkfciofpbnlmeaaDoor
