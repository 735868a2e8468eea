/- Chapter 16: nil receivers; the chapter's example; ValidNil, walked. -/
import Derived.Test.YtkfciofpbnlmeaaDoorVg
set_option linter.unusedVariables false
set_option linter.unusedSimpArgs false
set_option maxRecDepth 100000
namespace Go.Proofs.YtkfciofpbnlmeaaDoor
open Go.Proofs.BL Go.Proofs.Peel Go.RowKit Go.Proofs.Ky Go.Proofs.Vl

set_option maxHeartbeats 2000000 in
theorem nAdd (v : Value) (w : World) : Calls Tryd.prog 7 #[.pointer none, v] w (Tells_ (.tuple #[.int .i64 0, .int .i64 1]) w) := by
  refine via fun Q hQ => ?_
  have HQ := Lib.hid hQ
  clear hQ
  go_enter Tryd.func7, Tryd.ntmps7
  go_wp2_with fail
  exact HQ.out _ _ ⟨rfl, Below.refl _ _⟩
set_option maxHeartbeats 2000000 in
theorem nNow (w : World) : Calls Tryd.prog 9 #[.pointer none] w (Tells_ (.int .i64 0) w) := by
  refine via fun Q hQ => ?_
  have HQ := Lib.hid hQ
  clear hQ
  go_enter Tryd.func9, Tryd.ntmps9
  go_wp2_with fail
  exact HQ.out _ _ ⟨rfl, Below.refl _ _⟩
set_option maxHeartbeats 2000000 in
theorem nFloor (w : World) : Calls Tryd.prog 13 #[.pointer none] w (Tells_ (.int .i64 0) w) := by
  refine via fun Q hQ => ?_
  have HQ := Lib.hid hQ
  clear hQ
  go_enter Tryd.func13, Tryd.ntmps13
  go_wp2_with fail
  exact HQ.out _ _ ⟨rfl, Below.refl _ _⟩
set_option maxHeartbeats 2000000 in
theorem nForget (n : Int) (w : World) : Calls Tryd.prog 15 #[.pointer none, .int .i64 n] w (Tells_ (.int .i64 0) w) := by
  refine via fun Q hQ => ?_
  have HQ := Lib.hid hQ
  clear hQ
  go_enter Tryd.func15, Tryd.ntmps15
  go_wp2_with fail
  exact HQ.out _ _ ⟨rfl, Below.refl _ _⟩
set_option maxHeartbeats 2000000 in
theorem nKeys (n : Int) (w : World) : Calls Tryd.prog 16 #[.pointer none, .int .i64 n] w (Tells_ (.slice none 0 0) w) := by
  refine via fun Q hQ => ?_
  have HQ := Lib.hid hQ
  clear hQ
  go_enter Tryd.func16, Tryd.ntmps16
  go_wp2_with fail
  exact HQ.out _ _ ⟨rfl, Below.refl _ _⟩
set_option maxHeartbeats 2000000 in
theorem nSince (n : Int) (w : World) : Calls Tryd.prog 20 #[.pointer none, .int .i64 n] w (ErrNew w [.num 1]) := by
  refine via fun Q hQ => ?_
  have HQ := Lib.hid hQ
  have HE := Lib.hid (fnew 1 w)
  clear hQ
  go_enter Tryd.func20, Tryd.ntmps20
  go_wp2_with fail
  (with_reducible refine HE.out.mono ?_)
  rintro e w2 ⟨v2, rfl, hc2, hb2⟩
  have HC := Lib.hid hc2
  have HB := Lib.hid hb2
  clear hc2 hb2
  go_wp2_with fail
  exact HQ.out _ _ ⟨_, rfl, HC.out, HB.out⟩
set_option maxHeartbeats 2000000 in
theorem nCheck (n : Int) (v : Value) (w : World) (hE : ErrT w) : Calls Tryd.prog 10 #[.pointer none, .int .i64 n, v] w (Tells_ (.int .i64 1) w) := by
  refine via fun Q hQ => ?_
  have HQ := Lib.hid hQ
  have HE := Lib.hid hE
  have HS := Lib.hid (nSince n w)
  clear hQ hE
  go_enter Tryd.func10, Tryd.ntmps10
  go_wp2_with fail
  (with_reducible refine HS.out.mono ?_)
  rintro e w2 ⟨v2, rfl, hc2, hb2⟩
  have HB := Lib.hid hb2
  have HC := Lib.hid (fcode v2 _ w2 (HE.out.below hb2) hc2)
  obtain ⟨b, u, rfl, _⟩ := hc2
  clear hb2
  go_wp2_with fail
  (with_reducible refine HC.out.mono ?_)
  rintro e w3 ⟨rfl, hb3⟩
  have HB3 := Lib.hid (below_then HB.out hb3)
  go_wp2_with fail
  exact HQ.out _ _ ⟨rfl, HB3.out⟩
set_option maxHeartbeats 2000000 in
theorem nFst (n : Int) (v : Value) (w : World) : Calls Tryd.prog 14 #[.pointer none, .int .i64 n, v] w (Tells_ (.tuple #[.int .i64 0, .bool false]) w) := by
  refine via fun Q hQ => ?_
  have HQ := Lib.hid hQ
  have HS := Lib.hid (nSince n w)
  clear hQ
  go_enter Tryd.func14, Tryd.ntmps14
  go_wp2_with fail
  (with_reducible refine HS.out.mono ?_)
  rintro e w2 ⟨v2, rfl, hc2, hb2⟩
  have HB := Lib.hid hb2
  obtain ⟨b, u, rfl, _⟩ := hc2
  clear hb2
  go_wp2_with fail
  exact HQ.out _ _ ⟨rfl, HB.out⟩

theorem litR (w : World) (l : List Str) (cs : Array Value) (h : cs.toList = l.map Value.string) : RowsAt (w.alloc (.cells cs 9)) 1 (some ⟨w.heap.size, 0, none⟩) (rwS l) := fun i r hi => by
  rw [rwS, List.getElem?_map] at hi
  obtain ⟨x, hx, rfl⟩ := Option.map_eq_some_iff.1 hi
  refine ⟨w.heap.size, 0, rfl, fun j u hj => ?_⟩
  cases j with
  | succ j => simp [enS] at hj
  | zero =>
    simp [enS] at hj
    subst hj
    have h1 : cs.toList[i]? = some (.string x) := by rw [h, List.getElem?_map, hx]; rfl
    have h2 : cs[i]? = some (.string x) := by rw [← Array.getElem?_toList]; exact h1
    have := (Blk.new w cs 9).at_ i h2
    rw [show (0 + i * 1 + 0 : Nat) = i from by omega, this]
    try exact h2
abbrev sA : Str := ⟨#[97]⟩
abbrev sB : Str := ⟨#[98]⟩
abbrev sC : Str := ⟨#[99]⟩
theorem set_ab : setR tx [sA, sB] = [sA, sB] := by decide
theorem set_c : setR tx [sC] = [sC] := by decide
theorem aw_1 : fstT 0 [[sA, sB], [sC]] 0 [sA] = (1, true) := by decide
theorem aw_2 : checkV 0 [[sA, sB], [sC]] 1 [sA, sB] = 0 := by decide
theorem aw_3 : checkV 0 [[sA, sB], [sC]] 1 [sC] = 23 := by decide
theorem aw_4 : fgtV 0 2 2 = 1 := by decide
theorem aw_5 : checkV 1 [[sA, sB], [sC]] 0 [] = 22 := by decide
theorem aw_6 : checkV 1 [[sA, sB], [sC]] 1 [] = 0 := by decide
theorem aw_sh : ∀ s ∈ [[sA, sB], [sC]], s.length ≤ 1000 := by decide
set_option maxHeartbeats 8000000 in
theorem lawake (w : World) (hE : ErrT w) : Calls Tryd.prog 11 #[] w (Tells_ (.bool true) w) := by
  refine via fun Q hQ => ?_
  have HQ := Lib.hid hQ
  have HE := Lib.hid (fun (W : World) (h : Below w.heap.size w W) => hE.below h)
  have HN := Lib.hid (vNew [old w] w (Sat.start w))
  clear hQ hE
  go_enter Tryd.func11, Tryd.ntmps11
  go_wp2_with fail
  (with_reducible refine HN.out.mono ?_)
  rintro e w1 ⟨p, rfl, hS1⟩
  have HA := Lib.hid (vAdd p 0 [] _ 2 2 [sA, sB] [old w] _ (hS1.below ((Below.refl _ _).alloc (Nat.le_refl _) (.cells #[.string sA, .string sB] 9))) (Nat.zero_le _) (by decide) (fun s hs => by cases hs) (litR w1 [sA, sB] #[.string sA, .string sB] rfl) rfl (by decide))
  clear hS1 HN
  go_wp2_with fail
  (with_reducible refine HA.out.mono ?_)
  rintro e w2 ⟨rfl, hS2⟩
  rw [set_ab] at hS2
  have HA2 := Lib.hid (vAdd p 0 [[sA, sB]] _ 1 1 [sC] [old w] _ (hS2.below ((Below.refl _ _).alloc (Nat.le_refl _) (.cells #[.string sC] 9))) (Nat.zero_le _) (by decide) (by decide) (litR w2 [sC] #[.string sC] rfl) rfl (by decide))
  clear hS2 HA
  go_wp2_with fail
  (with_reducible refine HA2.out.mono ?_)
  rintro e w3 ⟨rfl, hS3⟩
  rw [set_c] at hS3
  have hS3 : Sat (hisP p 0 [[sA, sB], [sC]] :: [old w]) w3 := hS3
  have HS3 := Lib.hid hS3
  obtain ⟨Lv, vs, hF⟩ := Sat.hisF hS3 (Nat.zero_le _) (by decide) aw_sh
  have HF := Lib.hid (fun (W : World) (h : Below w3.heap.size w3 W) => hF.below h)
  have HB3 := Lib.hid (fun (W : World) (h : Below w3.heap.size w3 W) => HE.out W (below_then hS3.drop.old_ h))
  have h4 := (Below.refl w3.heap.size w3).alloc (Nat.le_refl _) (.cells #[.string sA] 9)
  have HI := Lib.hid (vFst p 0 Lv vs _ 0 _ 1 1 [sA] _ (HF.out _ h4) (litR w3 [sA] #[.string sA] rfl) rfl (by decide))
  have H4 := Lib.hid h4
  clear hS3 hF HA2 h4
  go_wp2_with fail
  (with_reducible refine HI.out.mono ?_)
  rintro e w4 ⟨rfl, hb4⟩
  rw [aw_1]
  have HB4 := Lib.hid (below_then H4.out hb4)
  have h5 := (Below.refl w4.heap.size w4).alloc (Nat.le_refl _) (.cells #[.string sA, .string sB] 9)
  have HC := Lib.hid (vCheck p 0 Lv vs _ 1 _ 2 2 [sA, sB] _ (HF.out _ (below_then HB4.out h5)) (HB3.out _ (below_then HB4.out h5)) (litR w4 [sA, sB] #[.string sA, .string sB] rfl) rfl (by decide))
  have H5 := Lib.hid (below_then HB4.out h5)
  clear hb4 h5 HI H4
  go_wp2_with fail
  (with_reducible refine HC.out.mono ?_)
  rintro e w5 ⟨rfl, hb5⟩
  rw [aw_2]
  have HB5 := Lib.hid (below_then H5.out hb5)
  have h6 := (Below.refl w5.heap.size w5).alloc (Nat.le_refl _) (.cells #[.string sC] 9)
  have HC2 := Lib.hid (vCheck p 0 Lv vs _ 1 _ 1 1 [sC] _ (HF.out _ (below_then HB5.out h6)) (HB3.out _ (below_then HB5.out h6)) (litR w5 [sC] #[.string sC] rfl) rfl (by decide))
  have H6 := Lib.hid (below_then HB5.out h6)
  clear hb5 h6 HC H5
  go_wp2_with fail
  (with_reducible refine HC2.out.mono ?_)
  rintro e w6 ⟨rfl, hb6⟩
  rw [aw_3]
  have HG := Lib.hid (vForget p 0 [[sA, sB], [sC]] 2 [old w] w6 (HS3.out.below (below_then H6.out hb6)) (Nat.zero_le _) (by decide) aw_sh (by decide))
  clear hb6 HC2 H6 HF HB3 HS3
  go_wp2_with fail
  (with_reducible refine HG.out.mono ?_)
  rintro e w7 ⟨rfl, hS7⟩
  have e4 : fgtV 0 [[sA, sB], [sC]].length 2 = 1 := aw_4
  rw [e4] at hS7 ⊢
  have hS7 : Sat (hisP p 1 [[sA, sB], [sC]] :: [old w]) w7 := hS7
  obtain ⟨Lv7, vs7, hF7⟩ := Sat.hisF hS7 (by decide) (by decide) aw_sh
  have HF7 := Lib.hid (fun (W : World) (h : Below w7.heap.size w7 W) => hF7.below h)
  have HB7 := Lib.hid (fun (W : World) (h : Below w7.heap.size w7 W) => below_then hS7.drop.old_ h)
  have HC5 := Lib.hid (vCheck p 1 Lv7 vs7 _ 0 none 0 0 [] w7 hF7 (HE.out _ hS7.drop.old_) (RowsAt.nil _ _ _) rfl (by decide))
  clear hS7 hF7 HG
  go_wp2_with fail
  (with_reducible refine HC5.out.mono ?_)
  rintro e w8 ⟨rfl, hb8⟩
  rw [aw_5]
  have HB8 := Lib.hid hb8
  have HC6 := Lib.hid (vCheck p 1 Lv7 vs7 _ 1 none 0 0 [] w8 (HF7.out _ hb8) (HE.out _ (HB7.out _ hb8)) (RowsAt.nil _ _ _) rfl (by decide))
  clear hb8 HC5
  go_wp2_with fail
  (with_reducible refine HC6.out.mono ?_)
  rintro e w9 ⟨rfl, hb9⟩
  rw [aw_6]
  have HB9 := Lib.hid (below_then HB8.out hb9)
  have HFl := Lib.hid (vFloor p 1 Lv7 vs7 _ w9 (HF7.out _ HB9.out))
  have HNw := Lib.hid (vNow p 1 Lv7 vs7 _ w9 (HF7.out _ HB9.out))
  clear hb9 HC6
  go_wp2_with fail
  (with_reducible refine HFl.out.mono ?_)
  rintro e w10 ⟨rfl, rfl⟩
  go_wp2_with fail
  (with_reducible refine HNw.out.mono ?_)
  rintro e w11 ⟨rfl, hb11⟩
  have HBz := Lib.hid (HB7.out _ (below_then HB9.out hb11))
  go_wp2_with fail
  exact HQ.out _ _ ⟨rfl, HBz.out⟩
def LawPost (W : World) (e : Ending) (W' : World) : Prop := e = .returned (.bool true) ∧ Below W.heap.size W W'
set_option maxHeartbeats 8000000 in
theorem lawNil (n : Int) (key : Str) (w : World) (hE : ErrT w) : Calls Tryd.prog 5 #[.int .i64 n, .string key] w (LawPost w) := by
  refine via fun Q hQ => ?_
  have HQ := Lib.hid hQ
  have HE := Lib.hid (fun (W : World) (h : Below w.heap.size w W) => hE.below h)
  have HA := Lib.hid (fun (v : Value) (W : World) => nAdd v W)
  have HF := Lib.hid (fun (n : Int) (v : Value) (W : World) => nFst n v W)
  have HC := Lib.hid (fun (n : Int) (v : Value) (W : World) (h : ErrT W) => nCheck n v W h)
  have HG := Lib.hid (fun (n : Int) (W : World) => nForget n W)
  have HN := Lib.hid (fun (W : World) => nNow W)
  have HL := Lib.hid (fun (W : World) => nFloor W)
  have HK := Lib.hid (fun (n : Int) (W : World) => nKeys n W)
  have HW := Lib.hid (fun (W : World) (h : ErrT W) => lawake W h)
  clear hQ hE
  go_enter Tryd.func5, Tryd.ntmps5
  go_wp2_with fail
  have HB0 := Lib.hid ((Below.refl w.heap.size w).alloc (Nat.le_refl _) (.cells #[.string key] 9))
  (with_reducible refine (HA.out _ _).mono ?_)
  rintro e w1 ⟨rfl, hb1⟩
  have HB1 := Lib.hid (below_then HB0.out hb1)
  clear hb1
  go_wp2_with fail
  have HB2' := Lib.hid (below_then HB1.out ((Below.refl w1.heap.size w1).alloc (Nat.le_refl _) (.cells #[.string key] 9)))
  (with_reducible refine (HF.out _ _ _).mono ?_)
  rintro e w2 ⟨rfl, hb2⟩
  have HB2 := Lib.hid (below_then HB2'.out hb2)
  clear hb2
  go_wp2_with fail
  have HB3' := Lib.hid (below_then HB2.out ((Below.refl w2.heap.size w2).alloc (Nat.le_refl _) (.cells #[.string key] 9)))
  (with_reducible refine (HC.out _ _ _ (HE.out _ HB3'.out)).mono ?_)
  rintro e w3 ⟨rfl, hb3⟩
  have HB3 := Lib.hid (below_then HB3'.out hb3)
  clear hb3
  go_wp2_with fail
  (with_reducible refine (HG.out _ _).mono ?_)
  rintro e w4 ⟨rfl, hb4⟩
  have HB4 := Lib.hid (below_then HB3.out hb4)
  clear hb4
  go_wp2_with fail
  (with_reducible refine (HN.out _).mono ?_)
  rintro e w5 ⟨rfl, hb5⟩
  have HB5 := Lib.hid (below_then HB4.out hb5)
  clear hb5
  go_wp2_with fail
  (with_reducible refine (HL.out _).mono ?_)
  rintro e w6 ⟨rfl, hb6⟩
  have HB6 := Lib.hid (below_then HB5.out hb6)
  clear hb6
  go_wp2_with fail
  (with_reducible refine (HK.out _ _).mono ?_)
  rintro e w7 ⟨rfl, hb7⟩
  have HB7 := Lib.hid (below_then HB6.out hb7)
  clear hb7
  go_wp2_with fail
  (with_reducible refine (HW.out _ (HE.out _ HB7.out)).mono ?_)
  rintro e w8 ⟨rfl, hb8⟩
  have HB8 := Lib.hid (below_then HB7.out hb8)
  go_wp2_with fail
  exact HQ.out _ _ ⟨rfl, HB8.out⟩
end Go.Proofs.YtkfciofpbnlmeaaDoor
