/- PageNil, PageMost, walked. -/
import Derived.Test.YtlekfpeonehggaaPk
set_option linter.unusedVariables false
set_option linter.unusedSimpArgs false
set_option maxRecDepth 100000
namespace Go.Proofs.Ytlekfpeonehggaa
open Go.Proofs.BL Go.Proofs.Peel Go.RowKit Go.Proofs.Ky

def LawPost (w : World) (e : Ending) (w' : World) : Prop := e = .returned (.bool true) ∧ Below w.heap.size w w'
set_option maxHeartbeats 4000000 in
theorem lawNil (key : ByteArray) (n : Int) (W : World) : Calls Try.prog 5 #[.string key, .int .i64 n] W (LawPost W) := by
  refine via fun Q hQ => ?_
  go_enter Try.func5, Try.ntmps5
  go_wp2_with fail
  (with_reducible refine (pgNilGet key _).mono ?_)
  rintro e w1 ⟨rfl, hb1⟩
  have HB1 := Lib.hid hb1
  clear hb1
  go_wp2_with fail
  (with_reducible refine (pgPutNil key n _).mono ?_)
  rintro e w2 ⟨rfl, rfl⟩
  go_wp2_with fail
  (with_reducible refine (pgDelNil key _).mono ?_)
  rintro e w3 ⟨rfl, hb3⟩
  have HB3 := Lib.hid (below_then HB1.out hb3)
  clear hb3 HB1
  go_wp2_with fail
  (with_reducible refine (pgNilScan key _ _).mono ?_)
  rintro e w4 ⟨rfl, rfl⟩
  go_wp2_with fail
  (with_reducible refine (pgNilPages _).mono ?_)
  rintro e w5 ⟨rfl, rfl⟩
  go_wp2_with fail
  (with_reducible refine (pgNilLen _).mono ?_)
  rintro e w6 ⟨rfl, rfl⟩
  go_wp2_with fail
  (with_reducible refine (pgNilBytes _).mono ?_)
  rintro e w7 ⟨rfl, rfl⟩
  go_wp2_with fail
  (with_reducible refine (pgNilCopy _).mono ?_)
  rintro e w8 ⟨rfl, rfl⟩
  go_wp2_with fail
  have HA := Lib.hid (lawake _ _ ((Sat.start W).below HB3.out))
  (with_reducible refine HA.out.mono ?_)
  rintro e w9 ⟨rfl, hS⟩
  have HB := Lib.hid hS.old_
  clear hS
  go_wp2_with fail
  exact ⟨rfl, HB.out⟩
end Go.Proofs.Ytlekfpeonehggaa
