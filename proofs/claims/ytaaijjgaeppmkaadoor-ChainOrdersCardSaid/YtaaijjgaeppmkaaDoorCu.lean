/- Chapter 13: ChainPrunes. -/
import Derived.Test.YtaaijjgaeppmkaaDoorCt
import Derived.Test.YtaaijjgaeppmkaaDoorCr
set_option linter.unusedVariables false
set_option maxRecDepth 100000
namespace Go.Proofs.YtaaijjgaeppmkaaDoor
open Go.Proofs.BL Go.Proofs.Peel Go.RowKit Go.Proofs.Cn

theorem cPrune_at {vs : Vs} {b K : Int} (hl : vs.length ≤ 1000000) (hK : K = (vs.length : Int) - (prV b vs).length) (d : Nat) (l : List Part) (w : World) (h : Sat (chP d vs :: l) w) :
    Calls Tryd.prog 19 #[.pointer (some ⟨d, 0, none⟩), .int .i64 b] w (fun e w' => e = .returned (.int .i64 K) ∧ Sat (chP d (prV b vs) :: l) w') := by
  subst hK
  exact cPrune d vs b l w h hl

set_option maxHeartbeats 4000000 in
theorem lawPrunes (n : Int) (th : Bool) (os : List Opn) (b t : Int) (A : Option Addr) (c : Nat) (w : World) (hE : ErrT w) (hc : os.length ≤ c) (hr : RowsAt w 4 A (os.map Opn.enc)) (hm : os.length ≤ 9223372036854775807) :
    Calls Tryd.prog 4 #[.int .i64 n, .bool th, .slice A os.length c, .int .i64 b, .int .i64 t] w (Ans w (.bool true)) := by
  have H0 := Lib.hid ((Sat.start w).old_err hE)
  have HRo := Lib.hid hr
  clear hE hr
  refine via fun Q hQ => ?_
  go_enter Tryd.func4, Tryd.ntmps4
  go_wp2_with fail
  refine (cNew n th _ _ H0.out).mono ?_
  rintro e w1 ⟨p, rfl, hS⟩
  have H1 := Lib.hid hS
  clear hS H0
  go_wp2_with fail
  refine (rNew n th _ _ H1.out).mono ?_
  rintro e w2 ⟨q, rfl, hS⟩
  have H3 := Lib.hid hS.t2
  have hok0 := ok_new n th
  have hl0 : [mk 0 n th false].length ≤ 0 + 1 := Nat.le_refl _
  generalize [mk 0 n th false] = v0 at H3 hok0 hl0
  have HO0 := Lib.hid hok0
  clear hS H1 hok0
  go_wp2_with fail
  go_loopg [31] os.length (fun g x31 ws => ∃ (j : Nat) (vs : Vs), j ≤ os.length ∧ g = os.length - j ∧ x31 = .int .i64 j ∧ j ≤ 40 ∧ Hid (Ok vs ∧ vs.length ≤ j + 1) ∧ Hid (Sat [chP p vs, errP, rcP q vs, old w] ws))
  case atStart => exact ⟨0, v0, Nat.zero_le _, rfl, rfl, by omega, Lib.hid ⟨HO0.out, hl0⟩, Lib.hid H3.out⟩
  case round =>
    clear H3 HO0 hl0
    obtain ⟨j, vs, hj, rfl, rfl, hj50, HO, HP⟩ := hrel
    by_cases hgo : j < os.length ∧ j < 40
    · obtain ⟨hlt, h50⟩ := hgo
      have hlv := HO.out.2
      obtain ⟨bb, o, rfl, d1, d2, d3, d4⟩ := rows_op (HRo.out.below HP.out.s3.old_) hlt
      generalize os[j] = x at d1 d2 d3 d4
      obtain ⟨xk, xa, xn, xt⟩ := x
      have HSx := Lib.hid (HP.out.alloc #[.int .i64 xk, .int .i64 xa, .int .i64 xn, .bool xt] 27).t3
      clear HP
      by_cases hk6 : xk = 6
      · subst hk6
        have HS8 := Lib.hid HSx.out.s3.drop
        have HO2 := Lib.hid (show Ok vs ∧ vs.length ≤ j + 1 + 1 from ⟨HO.out.1, by omega⟩)
        clear HSx
        go_wp2_with fail
        go_roundg (os.length - (j + 1))
        case measure => omega
        case rel => exact ⟨j + 1, vs, hlt, rfl, by go_num, h50, HO2, HS8⟩
      · have t6 : (xk != 6) = true := bne_iff_ne.2 hk6
        have hok' := ok_st HO.out.1 xk xa xn xt
        have hln' := len_st vs xk xa xn xt
        have HO' := Lib.hid (show Ok (stV xk xa xn xt vs) ∧ (stV xk xa xn xt vs).length ≤ j + 1 + 1 from ⟨hok', by omega⟩)
        have HK := Lib.hid (lstep p q vs xk xa xn xt _ _ HSx.out HO.out.1 (by omega))
        clear hok' hln' hk6 HSx
        go_wp2_with fail
        refine HK.out.mono ?_
        rintro e w6 ⟨rfl, hS6⟩
        have HS8 := Lib.hid hS6.s3.drop
        clear hS6 HK
        go_wp2_with fail
        go_roundg (os.length - (j + 1))
        case measure => omega
        case rel => exact ⟨j + 1, stV xk xa xn xt vs, hlt, rfl, by go_num, h50, HO', HS8⟩
    · by_cases hlt : j < os.length
      · have h50 : j = 40 := by omega
        subst h50
        obtain ⟨bb, o, rfl, d1, d2, d3, d4⟩ := rows_op (HRo.out.below HP.out.s3.old_) hlt
        generalize os[40] = x at d1 d2 d3 d4
        obtain ⟨xk, xa, xn, xt⟩ := x
        have HS2 := Lib.hid (HP.out.below ((Below.refl wr.heap.size wr).alloc (Nat.le_refl _) (.cells #[.int .i64 xk, .int .i64 xa, .int .i64 xn, .bool xt] 27)))
        clear HP
        obtain ⟨K, hK⟩ : ∃ K : Int, K = (vs.length : Int) - (prV b vs).length := ⟨_, rfl⟩
        have hlp := len_pr b vs
        have hoU := Lib.hid (ok_pr HO.out.1 b)
        have hrU := Lib.hid (fun h : b ≤ t => rd_pr HO.out.1 h)
        have hpr := cPrune_at (vs := vs) (b := b) (by have := HO.out.2; omega) hK
        have HPr := Lib.hid hpr
        generalize prV b vs = us at hK hlp hoU hrU HPr
        have hk0 : ¬ K < 0 := by omega
        have hvl : vs.length ≤ 1000 := by have := HO.out.2; omega
        have hw1 : IntKind.i64.wrap ((vs.length : Int) - K) = (us.length : Int) := by rw [IntKind.wrap_i64]; omega
        have hul : us.length ≤ 1000 := by omega
        clear hK hlp hpr
        go_wp2_with fail
        refine (cCopy p vs _ _ HS2.out (by omega)).mono ?_
        rintro e w4 ⟨d, rfl, hS⟩
        have HC := Lib.hid (HPr.out d _ _ hS)
        clear hS HPr
        go_wp2_with fail
        refine HC.out.mono ?_
        rintro e w5 ⟨rfl, hS⟩
        have HV := Lib.hid (cVersions d us _ _ hS (by omega))
        clear hS HC
        go_wp2_with fail
        refine HV.out.mono ?_
        rintro e w6 ⟨v6, rfl, hS⟩
        obtain ⟨A6, c6, rfl, _, _, _⟩ := hS.own_.slv'
        rw [rwV_len] at hS ⊢
        have HV2 := Lib.hid (cVersions p vs _ _ hS.drop.s1 (by omega))
        clear hS HV
        go_wp2_with fail
        refine HV2.out.mono ?_
        rintro e w7 ⟨v7, rfl, hS⟩
        obtain ⟨A7, c7, rfl, _, _, _⟩ := hS.own_.slv'
        rw [rwV_len] at hS ⊢
        have HS7 := Lib.hid hS.drop
        clear hS HV2
        by_cases htb : t < b
        · have HK := Lib.hid (lawake _ HS7.out.s2.err_)
          have HB := Lib.hid HS7.out.s4.old_
          clear HS7
          go_wp2_with fail
          refine HK.out.mono ?_
          rintro e w9 ⟨rfl, hb9⟩
          have HB9 := Lib.hid (below_then HB.out hb9)
          clear hb9 HK
          go_wp2_with fail
          exact ⟨rfl, HB9.out⟩
        · have hr2 := hrU.out (by omega)
          have HR1 := Lib.hid (cRead p vs t _ _ HS7.out.s2.s1 HO.out.1 (by omega))
          have HR2 := Lib.hid (fun l w h => cRead d us t l w h hoU.out (by omega))
          generalize rdV us t = r2 at hr2 HR2
          generalize rdV vs t = r1 at hr2 HR1
          obtain ⟨v1, x1, y1, z1⟩ := r1
          obtain ⟨v2, x2, y2, z2⟩ := r2
          injection hr2 with e1 e2
          injection e2 with e2 e3
          subst e1 e2 e3
          clear HS7
          go_wp2_with fail
          refine HR1.out.mono ?_
          rintro e w8 ⟨rfl, hS⟩
          have HR3 := Lib.hid (HR2.out _ _ hS.s2.s2.s1)
          clear hS HR1 HR2
          go_wp2_with fail
          refine HR3.out.mono ?_
          rintro e w9 ⟨rfl, hS⟩
          have HK := Lib.hid (lawake _ hS.s1.err_)
          have HB := Lib.hid hS.s4.old_
          clear hS HR3
          go_wp2_with fail
          refine HK.out.mono ?_
          rintro e w10 ⟨rfl, hb9⟩
          have HB9 := Lib.hid (below_then HB.out hb9)
          clear hb9 HK
          go_wp2_with fail
          exact ⟨by simp, HB9.out⟩

      · obtain rfl : j = os.length := by omega
        obtain ⟨K, hK⟩ : ∃ K : Int, K = (vs.length : Int) - (prV b vs).length := ⟨_, rfl⟩
        have hlp := len_pr b vs
        have hoU := Lib.hid (ok_pr HO.out.1 b)
        have hrU := Lib.hid (fun h : b ≤ t => rd_pr HO.out.1 h)
        have hpr := cPrune_at (vs := vs) (b := b) (by have := HO.out.2; omega) hK
        have HPr := Lib.hid hpr
        generalize prV b vs = us at hK hlp hoU hrU HPr
        have hk0 : ¬ K < 0 := by omega
        have hvl : vs.length ≤ 1000 := by have := HO.out.2; omega
        have hw1 : IntKind.i64.wrap ((vs.length : Int) - K) = (us.length : Int) := by rw [IntKind.wrap_i64]; omega
        have hul : us.length ≤ 1000 := by omega
        clear hK hlp hpr
        go_wp2_with fail
        refine (cCopy p vs _ _ HP.out (by omega)).mono ?_
        rintro e w4 ⟨d, rfl, hS⟩
        have HC := Lib.hid (HPr.out d _ _ hS)
        clear hS HPr
        go_wp2_with fail
        refine HC.out.mono ?_
        rintro e w5 ⟨rfl, hS⟩
        have HV := Lib.hid (cVersions d us _ _ hS (by omega))
        clear hS HC
        go_wp2_with fail
        refine HV.out.mono ?_
        rintro e w6 ⟨v6, rfl, hS⟩
        obtain ⟨A6, c6, rfl, _, _, _⟩ := hS.own_.slv'
        rw [rwV_len] at hS ⊢
        have HV2 := Lib.hid (cVersions p vs _ _ hS.drop.s1 (by omega))
        clear hS HV
        go_wp2_with fail
        refine HV2.out.mono ?_
        rintro e w7 ⟨v7, rfl, hS⟩
        obtain ⟨A7, c7, rfl, _, _, _⟩ := hS.own_.slv'
        rw [rwV_len] at hS ⊢
        have HS7 := Lib.hid hS.drop
        clear hS HV2
        by_cases htb : t < b
        · have HK := Lib.hid (lawake _ HS7.out.s2.err_)
          have HB := Lib.hid HS7.out.s4.old_
          clear HS7
          go_wp2_with fail
          refine HK.out.mono ?_
          rintro e w9 ⟨rfl, hb9⟩
          have HB9 := Lib.hid (below_then HB.out hb9)
          clear hb9 HK
          go_wp2_with fail
          exact ⟨rfl, HB9.out⟩
        · have hr2 := hrU.out (by omega)
          have HR1 := Lib.hid (cRead p vs t _ _ HS7.out.s2.s1 HO.out.1 (by omega))
          have HR2 := Lib.hid (fun l w h => cRead d us t l w h hoU.out (by omega))
          generalize rdV us t = r2 at hr2 HR2
          generalize rdV vs t = r1 at hr2 HR1
          obtain ⟨v1, x1, y1, z1⟩ := r1
          obtain ⟨v2, x2, y2, z2⟩ := r2
          injection hr2 with e1 e2
          injection e2 with e2 e3
          subst e1 e2 e3
          clear HS7
          go_wp2_with fail
          refine HR1.out.mono ?_
          rintro e w8 ⟨rfl, hS⟩
          have HR3 := Lib.hid (HR2.out _ _ hS.s2.s2.s1)
          clear hS HR1 HR2
          go_wp2_with fail
          refine HR3.out.mono ?_
          rintro e w9 ⟨rfl, hS⟩
          have HK := Lib.hid (lawake _ hS.s1.err_)
          have HB := Lib.hid hS.s4.old_
          clear hS HR3
          go_wp2_with fail
          refine HK.out.mono ?_
          rintro e w10 ⟨rfl, hb9⟩
          have HB9 := Lib.hid (below_then HB.out hb9)
          clear hb9 HK
          go_wp2_with fail
          exact ⟨by simp, HB9.out⟩

end Go.Proofs.YtaaijjgaeppmkaaDoor
