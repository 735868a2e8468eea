/- slices.Clone at rows. -/
import Derived.Test.YtlekfpeonehggaaPIp
import Derived.Test.YtlekfpeonehggaaPIo
import Derived.Test.YtlekfpeonehggaaSat
set_option linter.unusedVariables false
set_option maxRecDepth 100000
namespace Go.Proofs.Ytlekfpeonehggaa
open Go.Proofs.BL Go.Proofs.Peel Go.RowKit
/-- slices.Clone of a row of one's own: a new row. -/
def ClRPost (rows : List (List Value)) (w : World) (e : Ending) (w' : World) : Prop := ∃ v', e = .returned v' ∧ Own w' w.heap.size 52 2 v' rows ∧ Below w.heap.size w w'
set_option maxHeartbeats 1000000 in
theorem clR_ro (A : Option Addr) (c : Nat) (rows : List (List Value)) (w : World) (hc : rows.length ≤ c) (hA : A = none → c = 0) (hr : RowsAt w 2 A rows) (hf : ∀ a, A = some a → a.spot = none) (hs : ∀ r ∈ rows, r.length = 2) (h1 : ∀ r ∈ rows, ∀ u ∈ r, u.oneCell' = true) (hbig : rows.length * 24 ≤ 140737488355328) :
    Calls Try.prog 26 #[.slice A rows.length c] w (ClRPost rows w) := by
  cases A with
  | none =>
    obtain rfl := hA rfl
    obtain rfl := List.eq_nil_of_length_eq_zero (show rows.length = 0 by omega)
    clear hr hs h1 hbig hf
    have hne := fun W (a : Option Addr) n c => Lib.run_eql_slice_nil (P := Try.prog) W 34 52 a n c 0 0 Try.underlying34
    refine via fun Q hQ => ?_
    go_enter Try.func26, Try.ntmps26
    go_wp2
    exact ⟨_, rfl, Own.nil _ _ _ _, Below.refl _ _⟩
  | some ad =>
    obtain ⟨b, o, fl⟩ := ad
    obtain rfl : fl = none := hf _ rfl
    have hal : Below w.heap.size w (w.alloc (.cells #[] 52)) := (Below.refl _ _).alloc (Nat.le_refl _) _
    have HRr := Lib.hid (hr.below hal)
    have HO2 := Lib.hid (Own.lit w 52 2 0 [] #[] w.heap.size (Nat.le_refl _) rfl (Nat.zero_le _) rfl (fun r h => by cases h) (by simp))
    have H5 := Lib.hid hs
    have H1 := Lib.hid h1
    have hb1 : w.heap.size ≤ (w.alloc (.cells #[] 52)).heap.size := hal.size
    have HBs := Lib.hid hb1
    have HA := Lib.hid hal
    have HBig := Lib.hid (show (([] : List (List Value)).length + rows.length) * 24 ≤ 140737488355328 from by simpa using hbig)
    have Hsn := Lib.hid (show (some ⟨b, o, none⟩ : Option Addr) = none → c = 0 from fun h => by cases h)
    have HInfo := Lib.hid (show (Try.prog.info? 52).map (fun i => (i.zero, i.size, i.bytes)) = some (some (.agg #[.string ByteArray.empty, .int .i64 0] : Value), 2, 24) from by kernel_rfl)
    have HZc := Lib.hid (show ((.agg #[.string ByteArray.empty, .int .i64 0] : Value)).cells.size = 2 from by kernel_rfl)
    clear hr h1 hal hbig hb1 hs hA hf
    have hne := fun W (a : Option Addr) n c => Lib.run_eql_slice_nil (P := Try.prog) W 34 52 a n c 0 0 Try.underlying34
    refine via fun Q hQ => ?_
    go_enter Try.func26, Try.ntmps26
    go_wp2_with (at_builtin; go_loud (refine appendNL (W := w.alloc (.cells #[] 52)) w.heap.size 52 2 24 (.agg #[.string ByteArray.empty, .int .i64 0] : Value) rfl (.tmp 5) (.tmp 6) 34 rfl Try.underlying34 HInfo.out HZc.out (by decide) (by decide) (.slice (some ⟨w.heap.size, 0, none⟩) 0 0) [] rows rfl (some ⟨b, o, none⟩) rows.length c rfl rfl Hsn.out HRr.out H5.out H1.out HO2.out HBs.out HBig.out ?_); intro v1 w1 ho1 hf1 hl1)
    have hbf : Below w.heap.size w w1 := ((Fr.of_below (S := none_) HA.out).trans hf1 (fun i hi h => by
      simp only [Value.ownBlock, Option.some.injEq] at h
      omega)).below
    have HO1 := Lib.hid ho1
    have HB1 := Lib.hid hbf
    clear ho1 hf1 hl1 hbf
    exact ⟨v1, rfl, HO1.out, HB1.out⟩

end Go.Proofs.Ytlekfpeonehggaa
