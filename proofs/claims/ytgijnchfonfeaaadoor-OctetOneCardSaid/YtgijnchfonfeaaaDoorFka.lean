/- errors.As: closed facts on reflectlite at the four kinds of faults. -/
import Derived.Test.YtgijnchfonfeaaaDoorChecked
import Derived.WalkKit
import Derived.ProofKit
import Derived.Stop.Asserts
import Derived.Below
import Derived.Deep.LoopGhost
import Derived.Test.YtgijnchfonfeaaaDoorPeel
namespace Go.Proofs.YtgijnchfonfeaaaDoor
open Go.Proofs.Peel Go.RowKit Go.Extern.Stop Go.Stop Go.Extern
set_option maxRecDepth 100000

inductive FK where
  | num
  | at_
def FK.t1 : FK → TypeId
  | .num => 63
  | .at_ => 58
def FK.ix : FK → Nat
  | .num => 0
  | .at_ => 1
def FK.same (a b : FK) : Bool := a.ix == b.ix
/-- What errors.As is asked for. -/
inductive FT where
  | num
  | at_
def FT.t2 : FT → TypeId
  | .num => 67
  | .at_ => 68
def FT.fk : FT → FK
  | .num => .num
  | .at_ => .at_
abbrev hnd (t : Nat) : Value := .agg #[.pointer (some ⟨1, t, none⟩)]
abbrev rty (t : Nat) : Value := .iface 82 (hnd t)
abbrev vlu (t : Nat) (a : Nat) : Value := .agg #[.pointer (some ⟨1, t, none⟩), .pointer (some ⟨a, 0, none⟩), .int .u64 150]
abbrev vla (t : Nat) (a : Addr) : Value := .agg #[.pointer (some ⟨1, t, none⟩), .pointer (some a), .int .u64 406]
theorem call71 (k : FT) (p : Option Addr) (w : World) : (callFunc 28 #[.iface k.t2 (.pointer p)]).run Tryd.prog w = .ok (.value (vlu k.t2 w.heap.size)) (w.alloc (.cells #[.pointer p] k.t2)) := by cases k <;> kernel_rfl
theorem call71e (k : FK) (p : Option Addr) (w : World) : (callFunc 28 #[.iface k.t1 (.pointer p)]).run Tryd.prog w = .ok (.value (vlu k.t1 w.heap.size)) (w.alloc (.cells #[.pointer p] k.t1)) := by cases k <;> kernel_rfl
theorem call72 (k : FT) (p : Nat) (w : World) : (callFunc 29 #[vlu k.t2 p]).run Tryd.prog w = .ok (.value (rty k.t2)) w := by cases k <;> kernel_rfl
theorem mKind2 (k : FT) (w : World) : (Go.method 224 82 (hnd k.t2) "Kind").run Tryd.prog w = .ok (49, .pointer (some ⟨1, k.t2, none⟩)) w := by cases k <;> kernel_rfl
theorem mKind1 (k : FK) (w : World) : (Go.method 224 82 (hnd k.t1) "Kind").run Tryd.prog w = .ok (49, .pointer (some ⟨1, k.t1, none⟩)) w := by cases k <;> kernel_rfl
theorem call91 (k : FT) (w : World) : (callFunc 49 #[.pointer (some ⟨1, k.t2, none⟩)]).run Tryd.prog w = .ok (.value (.int .u8 22)) w := by cases k <;> kernel_rfl
theorem call91e (k : FK) (w : World) : (callFunc 49 #[.pointer (some ⟨1, k.t1, none⟩)]).run Tryd.prog w = .ok (.value (.int .u8 22)) w := by cases k <;> kernel_rfl
theorem mElem (k : FT) (w : World) : (Go.method 224 82 (hnd k.t2) "Elem").run Tryd.prog w = .ok (62, hnd k.t2) w := by cases k <;> kernel_rfl
theorem call106 (k : FT) (w : World) : (callFunc 62 #[hnd k.t2]).run Tryd.prog w = .ok (.value (rty k.fk.t1)) w := by cases k <;> kernel_rfl
theorem mImpl (k : FK) (w : World) : (Go.method 224 82 (hnd k.t1) "Implements").run Tryd.prog w = .ok (63, hnd k.t1) w := by cases k <;> kernel_rfl
theorem call107 (k : FK) (w : World) : (callFunc 63 #[hnd k.t1, rty 40]).run Tryd.prog w = .ok (.value (.bool true)) w := by cases k <;> kernel_rfl
theorem call63 (k : FK) (v : Value) (w : World) : (callFunc 32 #[.iface k.t1 v]).run Tryd.prog w = .ok (.value (rty k.t1)) w := by cases k <;> kernel_rfl
theorem mAssign (k : FK) (w : World) : (Go.method 224 82 (hnd k.t1) "AssignableTo").run Tryd.prog w = .ok (60, hnd k.t1) w := by cases k <;> kernel_rfl
theorem call104 (j k : FK) (w : World) : (callFunc 60 #[hnd j.t1, rty k.t1]).run Tryd.prog w = .ok (.value (.bool (j.same k))) w := by cases k <;> cases j <;> kernel_rfl
theorem call73 (k : FT) (a : Nat) (p : Addr) (w : World) (h : w.cell? ⟨a, 0, none⟩ = some (.pointer (some p))) : (callFunc 30 #[vlu k.t2 a]).run Tryd.prog w = .ok (.value (.bool false)) w := by
  rw [peel_load (a := ⟨a, 0, none⟩) (by cases k <;> kernel_rfl) h]
  cases k <;> kernel_rfl
theorem call75 (k : FT) (a : Nat) (p : Addr) (w : World) (h : w.cell? ⟨a, 0, none⟩ = some (.pointer (some p))) : (callFunc 33 #[vlu k.t2 a]).run Tryd.prog w = .ok (.value (vla k.fk.t1 p)) w := by
  rw [peel_load (a := ⟨a, 0, none⟩) (by cases k <;> kernel_rfl) h]
  cases k <;> kernel_rfl
theorem call76 (k : FK) (a : Addr) (b : Nat) (p : Addr) (w : World) (o : Value) (h : w.cell? ⟨b, 0, none⟩ = some (.pointer (some p))) (ha : w.cell? a = some o) (hf : w.frozen? a = false) :
    (callFunc 34 #[vla k.t1 a, vlu k.t1 b]).run Tryd.prog w = .ok (.value (.tuple #[])) (w.setCell a (.pointer (some p))) := by
  rw [peel_load (a := ⟨b, 0, none⟩) (by cases k <;> kernel_rfl) h, peel_store (a := a) (v := .pointer (some p)) (by cases k <;> kernel_rfl) rfl ha hf]
  cases k <;> kernel_rfl
theorem noAs (k : FK) (v : Value) (xT : TypeId) (w : World) : (Instr.typeAssert (.iface k.t1 v) xT 87 true).run Tryd.prog w = .ok (.tuple #[.nilIface, .bool false]) w := by
  cases k <;> exact run_typeAssert_lacksB Tryd.underlying87 (by kernel_rfl) (by kernel_rfl) v xT w
theorem noUnwraps (k : FK) (v : Value) (xT : TypeId) (w : World) : (Instr.typeAssert (.iface k.t1 v) xT 92 true).run Tryd.prog w = .ok (.tuple #[.nilIface, .bool false]) w := by
  cases k <;> exact run_typeAssert_lacksB Tryd.underlying92 (by kernel_rfl) (by kernel_rfl) v xT w
theorem noUnwrap (v : Value) (xT : TypeId) (w : World) : (Instr.typeAssert (.iface (FK.num).t1 v) xT 90 true).run Tryd.prog w = .ok (.tuple #[.nilIface, .bool false]) w :=
  run_typeAssert_lacksB Tryd.underlying90 (by kernel_rfl) (by kernel_rfl) v xT w
theorem hasUnwrap (k : FK) (hk : k ≠ .num) (v : Value) (xT : TypeId) (w : World) : (Instr.typeAssert (.iface k.t1 v) xT 90 true).run Tryd.prog w = .ok (.tuple #[.iface k.t1 v, .bool true]) w := by
  cases k <;> first | exact absurd rfl hk | exact run_typeAssert_hasB Tryd.underlying90 (by kernel_rfl) v xT w
theorem mUnwrap (k : FK) (hk : k ≠ .num) (b : Nat) (t : TypeId) (u : Value) (w : World) (h : w.cell? ⟨b, 0, none⟩ = some (.iface t u)) : (Go.method 224 k.t1 (.pointer (some ⟨b, 0, none⟩)) "Unwrap").run Tryd.prog w = .ok (54, .agg #[.iface t u]) w := by
  cases k
  · exact absurd rfl hk
  all_goals
    rw [peel_load (a := ⟨b, 0, none⟩) (by kernel_rfl) h]
    kernel_rfl
theorem unwrap97 (t : TypeId) (u : Value) (w : World) : Calls Tryd.prog 54 #[.agg #[.iface t u]] w fun e w' => e = .returned (.iface t u) ∧ Below w.heap.size w w' := by
  go_enter Tryd.func54, Tryd.ntmps54
  go_wp2
  go_ret
  exact ⟨rfl, (Below.refl _ _).alloc (Nat.le_refl _) _⟩
end Go.Proofs.YtgijnchfonfeaaaDoor
