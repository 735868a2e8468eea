/- Chapter 2's examples: awake; a reader that is not there. -/
import Derived.Test.YtgijnchfonfeaaaDoorOi
namespace Go.Proofs.YtgijnchfonfeaaaDoor
open Go.Proofs.BL Go.Proofs.Peel Go.RowKit
set_option maxRecDepth 100000
set_option linter.unusedVariables false

theorem ex300 : natB 300 = [2, 1, 44] := by simp [natB, dig]
theorem ex3 : natB (zig (-3)) = [1, 5] := by rw [show zig (-3) = 5 from by decide]; simp [natB, dig]
theorem exab : strB ⟨#[97, 98]⟩ = [1, 2, 97, 98] := by rw [strB, show (⟨#[97, 98]⟩ : ByteArray).size = 2 from rfl]; simp [natB, dig, txt]
theorem exr : rdNat [1, 1, 1, 9, 97] 0 [] = (1, 2, []) := by rfl
theorem exs : rdStr [1, 1, 1, 9, 97] 2 [] 4 = (⟨#[]⟩, 2, bad7 2) := by rfl

/-- What a call put into bytes, taken as a text. -/
theorem ByAns.str {w : World} {l : List UInt8} {e : Ending} {w' : World} (h : ByAns w l e w') (n : Nat) (s : ByteArray) (hn : l.length = n) (hs : (⟨l.toArray⟩ : ByteArray) = s) :
    ∃ A c, e = .returned (.slice A n c) ∧ (convert 22 9 (.slice A n c)).run Tryd.prog w' = .ok (.string s) w' ∧ Below w.heap.size w w' := by
  obtain ⟨v, rfl, ho, hb⟩ := h
  obtain ⟨A, c, rfl, _, _, hr⟩ := ho.slv'
  subst hn hs
  refine ⟨A, c, by rw [bys_len], ?_, hb⟩
  exact run_str (P := Tryd.prog) w' 22 9 5 Tryd.underlying22 Tryd.underlying5 Tryd.underlying9 A l.length c l rfl hr

set_option maxHeartbeats 2000000 in
theorem oawake (w : World) (hE : ErrT w) : Calls Tryd.prog 14 #[] w (Ans w (.bool true)) := by
  have HE := Lib.hid hE
  clear hE
  refine via fun Q hQ => ?_
  go_enter Tryd.func14, Tryd.ntmps14
  go_wp2_with fail
  have hal : Below w.heap.size w (w.alloc (.cells #[.int .u8 1, .int .u8 1, .int .u8 1, .int .u8 9, .int .u8 97] 5)) := (Below.refl _ _).alloc (Nat.le_refl _) _
  refine (oof (some ⟨w.heap.size, 0, none⟩) 5 [1, 1, 1, 9, 97] (w.alloc (.cells #[.int .u8 1, .int .u8 1, .int .u8 1, .int .u8 9, .int .u8 97] 5)) (Nat.le_refl _) (blk_bytes [] [1, 1, 1, 9, 97] (Blk.new w _ _))).mono ?_
  rintro e w1 ⟨rfl, hrd, hb1⟩
  have hpz : (w.alloc (.cells #[.int .u8 1, .int .u8 1, .int .u8 1, .int .u8 9, .int .u8 97] 5)).heap.size = w.heap.size + 1 := by simp
  have hb01 := below_then hal hb1
  rw [hpz] at hrd
  have h1 := mNat w1 (by decide) hrd
  rw [exr] at h1
  have hp : w.heap.size ≤ w.heap.size + 1 := Nat.le_succ _
  have H1 := Lib.hid h1
  have HB1 := Lib.hid hb01
  clear hrd hb1 hal h1 hb01 hpz
  go_wp2_with fail
  refine H1.out.mono ?_
  rintro e w2 ⟨rfl, hrd, hf⟩
  have h2 := mStr (a := 2) (c := []) w2 4 (by decide) (by decide) (by decide) hrd
  rw [exs] at h2
  have H2 := Lib.hid h2
  have HB2 := Lib.hid (below_step HB1.out hp hf)
  clear h2 hrd hf
  go_wp2_with fail
  refine H2.out.mono ?_
  rintro e w3 ⟨rfl, hrd, hf⟩
  have HR3 := Lib.hid (show Rd w3 (w.heap.size + 1) [1, 1, 1, 9, 97] 2 (bad7 2) from hrd)
  have HB3 := Lib.hid (below_step HB2.out hp hf)
  clear hrd hf
  go_wp2_with fail
  refine (onat 300 w3 (by decide)).mono ?_
  intro e w4 h4
  obtain ⟨A4, c4, rfl, hcv4, hb4⟩ := h4.str 3 ⟨#[2, 1, 44]⟩ (by rw [ex300]; rfl) (by rw [ex300])
  have HB4 := Lib.hid (below_then HB3.out hb4)
  have HR4 := Lib.hid (HR3.out.below hb4)
  clear h4 hb4
  go_wp2_with fail
  refine (onum (-3) w4 (by decide) (by decide)).mono ?_
  intro e w5 h5
  obtain ⟨A5, c5, rfl, hcv5, hb5⟩ := h5.str 2 ⟨#[1, 5]⟩ (by rw [ex3]; rfl) (by rw [ex3])
  have HB5 := Lib.hid (below_then HB4.out hb5)
  have HR5 := Lib.hid (HR4.out.below hb5)
  clear h5 hb5
  go_wp2_with fail
  refine (ostr ⟨#[97, 98]⟩ w5 (by decide)).mono ?_
  intro e w6 h6
  obtain ⟨A6, c6, rfl, hcv6, hb6⟩ := h6.str 4 ⟨#[1, 2, 97, 98]⟩ (by rw [exab]; rfl) (by rw [exab])
  have HB6 := Lib.hid (below_then HB5.out hb6)
  have HR6 := Lib.hid (HR5.out.below hb6)
  clear h6 hb6
  go_wp2_with fail
  refine (mErr w6 (HE.out.below HB6.out) HR6.out).mono ?_
  rintro e w7 ⟨rfl, hb7⟩
  have HB7 := Lib.hid (below_then HB6.out hb7)
  have HR7 := Lib.hid (HR6.out.below hb7)
  rw [show codeOf (bad7 2) = 7 from rfl]
  clear hb7
  go_wp2_with fail
  refine (mPlace w7 (HE.out.below HB7.out) HR7.out).mono ?_
  rintro e w8 ⟨rfl, hb8⟩
  have HB8 := Lib.hid (below_then HB7.out hb8)
  rw [show placeOf (bad7 2) = 2 from rfl]
  clear hb8
  go_wp2_with fail
  exact ⟨rfl, HB8.out⟩

/-! A reader that is not there. -/
theorem nNat (w : World) : Calls Tryd.prog 5 #[.pointer none] w (Ans w (.int .u64 0)) := by
  refine via fun Q hQ => ?_
  go_enter Tryd.func5, Tryd.ntmps5
  go_wp2_with fail
  refine (rbad_nil w).mono ?_
  rintro e w1 ⟨rfl, rfl⟩
  go_wp2
  exact ⟨rfl, Below.refl _ _⟩
theorem nNum (w : World) : Calls Tryd.prog 6 #[.pointer none] w (Ans w (.int .i64 0)) := by
  refine via fun Q hQ => ?_
  go_enter Tryd.func6, Tryd.ntmps6
  go_wp2_with fail
  refine (nNat w).mono ?_
  rintro e w1 ⟨rfl, hb⟩
  go_wp2_with fail
  refine (osigned 0 w1 (by decide)).mono ?_
  rintro e w2 ⟨rfl, rfl⟩
  go_wp2
  exact ⟨rfl, hb⟩
theorem nStr (most : Int) (w : World) : Calls Tryd.prog 7 #[.pointer none, .int .i64 most] w (Ans w (.string noB)) := by
  refine via fun Q hQ => ?_
  go_enter Tryd.func7, Tryd.ntmps7
  go_wp2_with fail
  refine (rbad_nil w).mono ?_
  rintro e w1 ⟨rfl, rfl⟩
  go_wp2
  exact ⟨rfl, Below.refl _ _⟩
theorem nStrs (x y : Int) (w : World) : Calls Tryd.prog 8 #[.pointer none, .int .i64 x, .int .i64 y] w (Ans w (.slice none 0 0)) := by
  refine via fun Q hQ => ?_
  go_enter Tryd.func8, Tryd.ntmps8
  go_wp2_with fail
  refine (rbad_nil w).mono ?_
  rintro e w1 ⟨rfl, rfl⟩
  go_wp2
  exact ⟨rfl, Below.refl _ _⟩
theorem nErr (w : World) : Calls Tryd.prog 20 #[.pointer none] w (Ans w (.int .i64 1)) := by
  refine via fun Q hQ => ?_
  go_enter Tryd.func20, Tryd.ntmps20
  go_wp2
  exact ⟨rfl, Below.refl _ _⟩
theorem nPlace (w : World) : Calls Tryd.prog 21 #[.pointer none] w (Ans w (.int .i64 (-1))) := by
  refine via fun Q hQ => ?_
  go_enter Tryd.func21, Tryd.ntmps21
  go_wp2
  exact ⟨rfl, Below.refl _ _⟩
theorem nEnd (w : World) : Calls Tryd.prog 9 #[.pointer none] w (Ans w (.int .i64 1)) := by
  refine via fun Q hQ => ?_
  go_enter Tryd.func9, Tryd.ntmps9
  go_wp2_with fail
  go_quiet (fail)
  go_wp2_with fail
  refine (nErr _).mono ?_
  rintro e w1 ⟨rfl, hb⟩
  go_wp2
  exact ⟨rfl, below_then (drew_below _ _) hb⟩
end Go.Proofs.YtgijnchfonfeaaaDoor
