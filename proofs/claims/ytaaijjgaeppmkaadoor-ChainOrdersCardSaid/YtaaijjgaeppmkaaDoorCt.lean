/- Chapter 13: ChainPlays. -/
import Derived.Test.YtaaijjgaeppmkaaDoorCs
set_option linter.unusedVariables false
set_option maxRecDepth 100000
namespace Go.Proofs.YtaaijjgaeppmkaaDoor
open Go.Proofs.BL Go.Proofs.Peel Go.RowKit Go.Proofs.Cn

structure Opn where
  k : Int
  a : Int
  n : Int
  th : Bool
def Opn.enc (o : Opn) : List Value := [.int .i64 o.k, .int .i64 o.a, .int .i64 o.n, .bool o.th]
/-- Calls' cells, one by one. -/
theorem rows_op {w : World} {A : Option Addr} {os : List Opn} (h : RowsAt w 4 A (os.map Opn.enc)) {j : Nat} (hj : j < os.length) : ∃ b o, A = some ⟨b, o, none⟩ ∧ w.cell? ⟨b, o + j * 4, none⟩ = some (.int .i64 os[j].k) ∧ w.cell? ⟨b, o + j * 4 + 1, none⟩ = some (.int .i64 os[j].a) ∧ w.cell? ⟨b, o + j * 4 + 2, none⟩ = some (.int .i64 os[j].n) ∧ w.cell? ⟨b, o + j * 4 + 3, none⟩ = some (.bool os[j].th) := by
  obtain ⟨b, o, e, hc⟩ := h j (os[j].enc) (by simp [hj])
  exact ⟨b, o, e, hc 0 _ rfl, hc 1 _ rfl, hc 2 _ rfl, hc 3 _ rfl⟩
theorem lsame2 (p q d s : Nat) (vs us : Vs) (l : List Part) (w : World) (h : Sat (chP p vs :: errP :: rcP q vs :: chP d us :: rcP s us :: l) w) (hl : us.length ≤ 1000000) :
    Calls Tryd.prog 20 #[.pointer (some ⟨d, 0, none⟩), .pointer (some ⟨s, 0, none⟩)] w (fun e w' => e = .returned (.bool true) ∧ Sat (chP p vs :: errP :: rcP q vs :: chP d us :: rcP s us :: l) w') :=
  (lsame d s us _ w h.s4.s4.s3.s1 hl).mono fun e w' ⟨h1, h2⟩ => ⟨h1, h2.s1.t3.t4.t4⟩
/-- Where ChainPlays stands ahead of a call. -/
def PlS (W : World) (p q : Nat) (cut : Int) (j : Nat) (vs : Vs) (x12 x13 : Value) (w : World) : Prop :=
  (x12 = .pointer none ∧ x13 = .pointer (some ⟨q, 0, none⟩) ∧ Sat [chP p vs, errP, rcP q vs, old W] w) ∨
  (∃ d s us, x12 = .pointer (some ⟨d, 0, none⟩) ∧ x13 = .pointer (some ⟨s, 0, none⟩) ∧ cut < j ∧ us.length ≤ 1000 ∧ Sat [chP p vs, errP, rcP q vs, chP d us, rcP s us, old W] w)
theorem PlS.base {W : World} {p q : Nat} {cut : Int} {j : Nat} {vs : Vs} {x12 x13 : Value} {w : World} (h : PlS W p q cut j vs x12 x13 w) : ErrT w ∧ Below W.heap.size W w := by
  rcases h with ⟨_, _, h⟩ | ⟨d, s, us, _, _, _, _, h⟩
  · exact ⟨h.s1.err_, h.s3.old_⟩
  · exact ⟨h.s1.err_, h.s5.old_⟩

set_option maxHeartbeats 4000000 in
theorem lawPlays (n : Int) (th : Bool) (os : List Opn) (cut : Int) (A : Option Addr) (c : Nat) (w : World) (hE : ErrT w) (hc : os.length ≤ c) (hr : RowsAt w 4 A (os.map Opn.enc)) (hm : os.length ≤ 9223372036854775807) :
    Calls Tryd.prog 5 #[.int .i64 n, .bool th, .slice A os.length c, .int .i64 cut] w (Ans w (.bool true)) := by
  have H0 := Lib.hid ((Sat.start w).old_err hE)
  have HRo := Lib.hid hr
  clear hE hr
  refine via fun Q hQ => ?_
  go_enter Tryd.func5, Tryd.ntmps5
  go_wp2_with fail
  refine (cNew n th _ _ H0.out).mono ?_
  rintro e w1 ⟨p, rfl, hS⟩
  have H1 := Lib.hid hS
  clear hS H0
  go_wp2_with fail
  refine (rNew n th _ _ H1.out).mono ?_
  rintro e w2 ⟨q, rfl, hS⟩
  have H2 := Lib.hid (lsame p q _ _ _ hS.t2 (by simp))
  clear hS H1
  go_wp2_with fail
  refine H2.out.mono ?_
  rintro e w3 ⟨rfl, hS⟩
  have H3 := Lib.hid hS
  have hok0 := ok_new n th
  have hl0 : [mk 0 n th false].length ≤ 0 + 1 := Nat.le_refl _
  generalize [mk 0 n th false] = v0 at H3 hok0 hl0
  have HO0 := Lib.hid hok0
  clear hS H2 hok0
  go_wp2_with fail
  go_loopg [11, 12, 13, 28] os.length (fun g x11 x12 x13 x28 ws => ∃ (j : Nat) (vs : Vs), j ≤ os.length ∧ g = os.length - j ∧ x28 = .int .i64 j ∧ x11 = .bool true ∧ j ≤ 50 ∧ Hid (Ok vs ∧ vs.length ≤ j + 1) ∧ Hid (PlS w p q cut j vs x12 x13 ws))
  case atStart => exact ⟨0, v0, Nat.zero_le _, rfl, rfl, rfl, by omega, Lib.hid ⟨HO0.out, hl0⟩, Lib.hid (.inl ⟨rfl, rfl, H3.out⟩)⟩
  case round =>
    clear H3 HO0 hl0
    obtain ⟨j, vs, hj, rfl, rfl, rfl, hj50, HO, HP⟩ := hrel
    by_cases hgo : j < os.length ∧ j < 50
    · obtain ⟨hlt, h50⟩ := hgo
      have hlv := HO.out.2
      obtain ⟨bb, o, rfl, d1, d2, d3, d4⟩ := rows_op (HRo.out.below HP.out.base.2) hlt
      generalize os[j] = x at d1 d2 d3 d4
      obtain ⟨xk, xa, xn, xt⟩ := x
      have hok' := ok_st HO.out.1 xk xa xn xt
      have hln' := len_st vs xk xa xn xt
      have HO' := Lib.hid (show Ok (stV xk xa xn xt vs) ∧ (stV xk xa xn xt vs).length ≤ j + 1 + 1 from ⟨hok', by omega⟩)
      clear hok' hln'
      rcases HP.out with ⟨rfl, rfl, hS⟩ | ⟨d, s, us, rfl, rfl, hcut, hus, hS⟩
      · have HSx := Lib.hid (hS.alloc #[.int .i64 xk, .int .i64 xa, .int .i64 xn, .bool xt] 27).t3
        clear hS HP
        by_cases hjc : (j : Int) = cut
        · obtain rfl : cut = (j : Int) := hjc.symm
          clear hjc
          go_wp2_with fail
          refine (cCopy p vs _ _ HSx.out (by omega)).mono ?_
          rintro e w4 ⟨d, rfl, hS4⟩
          have HS4 := Lib.hid hS4.s3
          clear hS4 HSx
          go_wp2_with fail
          refine (rCopy q vs _ _ HS4.out (by omega)).mono ?_
          rintro e w5 ⟨s, rfl, hS5⟩
          have HS5 := Lib.hid hS5.t4.t3.t3
          have hb := HS5.out.s5.blk_
          have k0 := hb.at_ 0 rfl
          have k1 := hb.at_ 1 rfl
          have k2 := hb.at_ 2 rfl
          have k3 := hb.at_ 3 rfl
          have HK := Lib.hid (lstep p q vs xk xa xn xt _ _ HS5.out HO.out.1 (by omega))
          clear hS5 HS4 hb
          go_wp2_with fail
          refine HK.out.mono ?_
          rintro e w6 ⟨rfl, hS6⟩
          have HK2 := Lib.hid (lsame p q _ _ _ hS6 (by have := HO'.out.2; omega))
          clear hS6 HK HS5 k0 k1 k2 k3
          go_wp2_with fail
          refine HK2.out.mono ?_
          rintro e w7 ⟨rfl, hS7⟩
          have HK3 := Lib.hid (lsame2 p q d s _ vs _ _ hS7 (by omega))
          clear hS7 HK2
          go_wp2_with fail
          refine HK3.out.mono ?_
          rintro e w8 ⟨rfl, hS8⟩
          have HS8 := Lib.hid hS8.s5.drop
          clear hS8 HK3
          go_wp2_with fail
          go_roundg (os.length - (j + 1))
          case measure => omega
          case rel => exact ⟨j + 1, stV xk xa xn xt vs, hlt, rfl, by go_num, rfl, h50, HO', Lib.hid (.inr ⟨d, s, vs, rfl, rfl, by omega, by omega, HS8.out⟩)⟩
        · have hjc2 : ((j : Int) == cut) = false := by simpa using hjc
          clear hjc
          have HK := Lib.hid (lstep p q vs xk xa xn xt _ _ HSx.out HO.out.1 (by omega))
          clear HSx
          go_wp2_with fail
          refine HK.out.mono ?_
          rintro e w6 ⟨rfl, hS6⟩
          have HK2 := Lib.hid (lsame p q _ _ _ hS6 (by have := HO'.out.2; omega))
          clear hS6 HK
          go_wp2_with fail
          refine HK2.out.mono ?_
          rintro e w7 ⟨rfl, hS7⟩
          have HS8 := Lib.hid hS7.s3.drop
          clear hS7 HK2
          go_wp2_with fail
          go_roundg (os.length - (j + 1))
          case measure => omega
          case rel => exact ⟨j + 1, stV xk xa xn xt vs, hlt, rfl, by go_num, rfl, h50, HO', Lib.hid (.inl ⟨rfl, rfl, HS8.out⟩)⟩
      · have HSx := Lib.hid (hS.alloc #[.int .i64 xk, .int .i64 xa, .int .i64 xn, .bool xt] 27).t5
        clear hS HP
        have hjc2 : ((j : Int) == cut) = false := by simpa using (show ¬ (j : Int) = cut by omega)
        have HK := Lib.hid (lstep p q vs xk xa xn xt _ _ HSx.out HO.out.1 (by omega))
        clear HSx
        go_wp2_with fail
        refine HK.out.mono ?_
        rintro e w6 ⟨rfl, hS6⟩
        have HK2 := Lib.hid (lsame p q _ _ _ hS6 (by have := HO'.out.2; omega))
        clear hS6 HK
        go_wp2_with fail
        refine HK2.out.mono ?_
        rintro e w7 ⟨rfl, hS7⟩
        have HK3 := Lib.hid (lsame2 p q d s _ us _ _ hS7 (by omega))
        clear hS7 HK2
        go_wp2_with fail
        refine HK3.out.mono ?_
        rintro e w8 ⟨rfl, hS8⟩
        have HS8 := Lib.hid hS8.s5.drop
        clear hS8 HK3
        go_wp2_with fail
        go_roundg (os.length - (j + 1))
        case measure => omega
        case rel => exact ⟨j + 1, stV xk xa xn xt vs, hlt, rfl, by go_num, rfl, h50, HO', Lib.hid (.inr ⟨d, s, us, rfl, rfl, by omega, hus, HS8.out⟩)⟩
    · have hb := HP.out.base
      have HK := Lib.hid (lawake wr hb.1)
      have HB := Lib.hid hb.2
      by_cases hlt : j < os.length
      · have h50 : j = 50 := by omega
        subst h50
        obtain ⟨bb, o, rfl, d1, d2, d3, d4⟩ := rows_op (HRo.out.below HB.out) hlt
        generalize os[50] = x at d1 d2 d3 d4
        obtain ⟨xk, xa, xn, xt⟩ := x
        have HB2 := Lib.hid (HB.out.alloc HB.out.size (.cells #[.int .i64 xk, .int .i64 xa, .int .i64 xn, .bool xt] 27))
        have HK2 := Lib.hid (lawake (wr.alloc (.cells #[.int .i64 xk, .int .i64 xa, .int .i64 xn, .bool xt] 27)) (hb.1.below ((Below.refl wr.heap.size wr).alloc (Nat.le_refl _) _)))
        clear hb HK HP
        go_wp2_with fail
        refine HK2.out.mono ?_
        rintro e w9 ⟨rfl, hb9⟩
        have HB9 := Lib.hid (below_then HB2.out hb9)
        clear hb9 HK2
        go_wp2_with fail
        exact ⟨rfl, HB9.out⟩
      · obtain rfl : j = os.length := by omega
        clear hb HP
        go_wp2_with fail
        refine HK.out.mono ?_
        rintro e w9 ⟨rfl, hb9⟩
        have HB9 := Lib.hid (below_then HB.out hb9)
        clear hb9 HK
        go_wp2_with fail
        exact ⟨rfl, HB9.out⟩
end Go.Proofs.YtaaijjgaeppmkaaDoor
