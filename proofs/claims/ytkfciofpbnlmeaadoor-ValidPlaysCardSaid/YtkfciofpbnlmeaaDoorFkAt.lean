/- fault.At. -/
import Derived.Test.YtkfciofpbnlmeaaDoorFkc
set_option maxRecDepth 100000
namespace Go.Proofs.YtkfciofpbnlmeaaDoor
open Go.Proofs.BL Go.Proofs.Peel Go.RowKit
/-- fault.At. -/
theorem fat (p : Int) (v : Value) (c : List Lk) (w : World) (hc : Chn w v c) : Calls Tryd.prog 22 #[.int .i64 p, v] w (ErrNew w (if c = [] then [] else .at_ p :: c)) := by
  cases c with
  | nil =>
    obtain rfl : v = .nilIface := hc
    go_enter Tryd.func22, Tryd.ntmps22
    go_wp2
    go_ret
    exact ⟨_, rfl, rfl, Below.refl _ _⟩
  | cons x r =>
    have HC := Lib.hid hc
    obtain ⟨b, u, rfl, _⟩ := hc
    go_enter Tryd.func22, Tryd.ntmps22
    go_wp2
    go_ret
    have hb : Below w.heap.size w (w.alloc (.cells #[.iface x.kind.t1 (.pointer (some ⟨b, 0, none⟩)), .int .i64 p] 75)) := (Below.refl _ _).alloc (Nat.le_refl _) _
    exact ⟨_, rfl, ⟨_, _, rfl, Blk.new _ _ _, HC.out.below hb, by simp [Lk.kind]⟩, hb⟩
end Go.Proofs.YtkfciofpbnlmeaaDoor
