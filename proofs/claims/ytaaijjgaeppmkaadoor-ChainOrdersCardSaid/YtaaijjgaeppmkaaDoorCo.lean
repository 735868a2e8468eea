/- Chapter 13: nil receivers, the example, ChainNil. -/
import Derived.Test.YtaaijjgaeppmkaaDoorCn
set_option linter.unusedVariables false
set_option maxRecDepth 100000
namespace Go.Proofs.YtaaijjgaeppmkaaDoor
open Go.Proofs.BL Go.Proofs.Peel Go.RowKit Go.Proofs.Cn

set_option maxHeartbeats 1000000 in
theorem cRead_nil (t : Int) (w : World) (hE : ErrT w) : Calls Tryd.prog 8 #[.pointer none, .int .i64 t] w (Ans w (.tuple #[.int .i64 0, .bool false, .int .i64 1])) := by
  have hfind := Lib.hid (cfind_nil t w)
  have HE := Lib.hid hE
  clear hE
  refine via fun Q hQ => ?_
  go_enter Tryd.func8, Tryd.ntmps8
  go_wp2_with fail
  refine hfind.out.mono ?_
  rintro e w1 ⟨v1, rfl, hc1, hb1⟩
  obtain ⟨ki, bi, rfl⟩ := chn_iface hc1 (by decide)
  have HK := Lib.hid (fcode _ _ w1 (HE.out.below hb1) hc1)
  have HB1 := Lib.hid hb1
  clear hb1 hc1 hfind
  go_wp2_with fail
  refine HK.out.mono ?_
  rintro e w2 ⟨rfl, hb2⟩
  have HS2 := Lib.hid (below_then HB1.out hb2)
  clear hb2 HK
  rw [show codeOf [.num 1] = 1 from rfl]
  go_wp2
  go_ret3
  exact hQ _ _ ⟨rfl, HS2.out⟩
set_option maxHeartbeats 1000000 in
theorem cWrite_nil (t n : Int) (th : Bool) (w : World) (hE : ErrT w) : Calls Tryd.prog 10 #[.pointer none, .int .i64 t, .int .i64 n, .bool th] w (Ans w (.int .i64 1)) := by
  have hfind := Lib.hid (cfind_nil t w)
  have HE := Lib.hid hE
  clear hE
  refine via fun Q hQ => ?_
  go_enter Tryd.func10, Tryd.ntmps10
  go_wp2_with fail
  refine hfind.out.mono ?_
  rintro e w1 ⟨v1, rfl, hc1, hb1⟩
  obtain ⟨ki, bi, rfl⟩ := chn_iface hc1 (by decide)
  have HK := Lib.hid (fcode _ _ w1 (HE.out.below hb1) hc1)
  have HB1 := Lib.hid hb1
  clear hb1 hc1 hfind
  go_wp2_with fail
  refine HK.out.mono ?_
  rintro e w2 ⟨rfl, hb2⟩
  have HS2 := Lib.hid (below_then HB1.out hb2)
  clear hb2 HK
  rw [show codeOf [.num 1] = 1 from rfl]
  go_wp2
  exact ⟨rfl, HS2.out⟩

abbrev V1 : Vs := [⟨0, 5, true, 0, false⟩, ⟨3, 7, true, 0, true⟩]
abbrev V2 : Vs := [⟨0, 5, true, 2, false⟩, ⟨3, 7, true, 0, true⟩]
abbrev V3 : Vs := [⟨0, 5, true, 2, false⟩, ⟨3, 7, true, 0, false⟩]
abbrev V4 : Vs := [⟨0, 5, true, 2, false⟩, ⟨3, 7, true, 4, false⟩]
theorem aw1 : wrV [mk 0 5 true false] 3 7 true = (V1, 0) := by rfl
theorem aw2 : rdV V1 2 = (V2, 5, true, 0) := by rfl
theorem aw3 : rdV V2 4 = (V2, 0, false, 20) := by rfl
theorem aw4 : cmV V2 3 = (V3, true) := by rfl
theorem aw5 : rdV V3 4 = (V4, 7, true, 0) := by rfl
theorem aw6 : wrV V4 1 9 true = (V4, 22) := by rfl
theorem ok0 : Ok [mk 0 5 true false] := ok_new 5 true
theorem ok1 : Ok V1 := by have := ok_wr ok0 3 7 true; rwa [aw1] at this
theorem ok2 : Ok V2 := by have := ok_rd ok1 2; rwa [aw2] at this
theorem ok3 : Ok V3 := by have := ok_cm ok2 3; rwa [aw4] at this
theorem ok4 : Ok V4 := by have := ok_rd ok3 4; rwa [aw5] at this

set_option maxHeartbeats 2000000 in
theorem lawake (w : World) (hE : ErrT w) : Calls Tryd.prog 15 #[] w (Ans w (.bool true)) := by
  have HS0 := Lib.hid ((Sat.start w).old_err hE)
  clear hE
  refine via fun Q hQ => ?_
  go_enter Tryd.func15, Tryd.ntmps15
  go_wp2_with fail
  refine (cNew 5 true _ _ HS0.out).mono ?_
  rintro e w1 ⟨p, rfl, hS⟩
  have HP := Lib.hid (cWrite p _ 3 7 true _ _ hS ok0 (by decide))
  rw [aw1] at HP
  clear hS HS0
  go_wp2_with fail
  refine HP.out.mono ?_
  rintro e w2 ⟨rfl, hS⟩
  have HP2 := Lib.hid (cRead p _ 2 _ _ hS ok1 (by decide))
  rw [aw2] at HP2
  clear hS HP
  go_wp2_with fail
  refine HP2.out.mono ?_
  rintro e w3 ⟨rfl, hS⟩
  have HP3 := Lib.hid (cRead p _ 4 _ _ hS ok2 (by decide))
  rw [aw3] at HP3
  clear hS HP2
  go_wp2_with fail
  refine HP3.out.mono ?_
  rintro e w4 ⟨rfl, hS⟩
  have HP4 := Lib.hid (cCommit p _ 3 _ _ hS (by decide))
  rw [aw4] at HP4
  clear hS HP3
  go_wp2_with fail
  refine HP4.out.mono ?_
  rintro e w5 ⟨rfl, hS⟩
  have HP5 := Lib.hid (cRead p _ 4 _ _ hS ok3 (by decide))
  rw [aw5] at HP5
  clear hS HP4
  go_wp2_with fail
  refine HP5.out.mono ?_
  rintro e w6 ⟨rfl, hS⟩
  have HP6 := Lib.hid (cWrite p _ 1 9 true _ _ hS ok4 (by decide))
  rw [aw6] at HP6
  clear hS HP5
  go_wp2_with fail
  refine HP6.out.mono ?_
  rintro e w7 ⟨rfl, hS⟩
  have HP7 := Lib.hid (cVersions p _ _ _ hS (by decide))
  clear hS HP6
  go_wp2_with fail
  refine HP7.out.mono ?_
  rintro e w8 ⟨v, rfl, hS⟩
  obtain ⟨A, c, rfl, _, _, _⟩ := hS.own_.slv'
  have HB := Lib.hid hS.drop.drop.drop
  rw [show (rwV V4).length = 2 from rfl]
  clear hS HP7
  go_wp2_with fail
  exact ⟨rfl, HB.out.old_⟩
set_option maxHeartbeats 2000000 in
theorem lawNil (t n : Int) (w : World) (hE : ErrT w) : Calls Tryd.prog 6 #[.int .i64 t, .int .i64 n] w (Ans w (.bool true)) := by
  have HE := Lib.hid hE
  clear hE
  refine via fun Q hQ => ?_
  go_enter Tryd.func6, Tryd.ntmps6
  go_wp2_with fail
  refine (cRead_nil t _ HE.out).mono ?_
  rintro e w1 ⟨rfl, hb⟩
  have HB := Lib.hid hb
  clear hb
  go_wp2_with fail
  refine (cLatest_nil _).mono ?_
  rintro e w2 ⟨rfl, hb⟩
  have HB2 := Lib.hid (below_then HB.out hb)
  clear hb HB
  go_wp2_with fail
  refine (cWrite_nil t n true _ (HE.out.below HB2.out)).mono ?_
  rintro e w3 ⟨rfl, hb⟩
  have HB3 := Lib.hid (below_then HB2.out hb)
  clear hb HB2
  go_wp2_with fail
  refine (cEnd_nil t _).1.mono ?_
  rintro e w4 ⟨rfl, hb⟩
  have HB4 := Lib.hid (below_then HB3.out hb)
  clear hb HB3
  go_wp2_with fail
  refine (cEnd_nil t _).2.mono ?_
  rintro e w5 ⟨rfl, hb⟩
  have HB5 := Lib.hid (below_then HB4.out hb)
  clear hb HB4
  go_wp2_with fail
  refine (cPrune_nil t _).mono ?_
  rintro e w6 ⟨rfl, hb⟩
  have HB6 := Lib.hid (below_then HB5.out hb)
  clear hb HB5
  go_wp2_with fail
  refine (cNils _).mono ?_
  rintro e w7 ⟨rfl, rfl⟩
  go_wp2_with fail
  refine (cNilCopy _).mono ?_
  rintro e w8 ⟨rfl, rfl⟩
  go_wp2_with fail
  refine (lawake _ (HE.out.below HB6.out)).mono ?_
  rintro e w9 ⟨rfl, hb⟩
  have HB7 := Lib.hid (below_then HB6.out hb)
  clear hb HB6
  go_wp2_with fail
  exact ⟨rfl, HB7.out⟩
end Go.Proofs.YtaaijjgaeppmkaaDoor
