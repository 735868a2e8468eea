/- errors.As: closed facts on reflectlite at the four kinds of faults. -/
import Derived.Test.YtoejeiaeladgjaaDoorChecked
import Derived.WalkKit
import Derived.ProofKit
import Derived.Stop.Asserts
import Derived.Below
import Derived.Deep.LoopGhost
import Derived.Test.YtoejeiaeladgjaaDoorPeel
namespace Go.Proofs.YtoejeiaeladgjaaDoor
open Go.Proofs.Peel Go.RowKit Go.Extern.Stop Go.Stop Go.Extern
set_option maxRecDepth 100000

inductive FK where
  | num | at_ | in_ | bnd
def FK.t1 : FK → TypeId | .num => 79 | .at_ => 84 | .in_ => 96 | .bnd => 92
def FK.t2 : FK → TypeId | .num => 81 | .at_ => 85 | .in_ => 97 | .bnd => 93
def FK.same : FK → FK → Bool
  | .num, .num => true | .at_, .at_ => true | .in_, .in_ => true | .bnd, .bnd => true | _, _ => false
abbrev hnd (t : Nat) : Value := .agg #[.pointer (some ⟨1, t, none⟩)]
abbrev rty (t : Nat) : Value := .iface 130 (hnd t)
abbrev vlu (t : Nat) (a : Nat) : Value := .agg #[.pointer (some ⟨1, t, none⟩), .pointer (some ⟨a, 0, none⟩), .int .u64 150]
abbrev vla (t : Nat) (a : Addr) : Value := .agg #[.pointer (some ⟨1, t, none⟩), .pointer (some a), .int .u64 406]
theorem call71 (k : FK) (p : Option Addr) (w : World) : (callFunc 71 #[.iface k.t2 (.pointer p)]).run Tryd.prog w = .ok (.value (vlu k.t2 w.heap.size)) (w.alloc (.cells #[.pointer p] k.t2)) := by cases k <;> kernel_rfl
theorem call71e (k : FK) (p : Option Addr) (w : World) : (callFunc 71 #[.iface k.t1 (.pointer p)]).run Tryd.prog w = .ok (.value (vlu k.t1 w.heap.size)) (w.alloc (.cells #[.pointer p] k.t1)) := by cases k <;> kernel_rfl
theorem call72 (k : FK) (p : Nat) (w : World) : (callFunc 72 #[vlu k.t2 p]).run Tryd.prog w = .ok (.value (rty k.t2)) w := by cases k <;> kernel_rfl
theorem mKind2 (k : FK) (w : World) : (Go.method 271 130 (hnd k.t2) "Kind").run Tryd.prog w = .ok (91, .pointer (some ⟨1, k.t2, none⟩)) w := by cases k <;> kernel_rfl
theorem mKind1 (k : FK) (w : World) : (Go.method 271 130 (hnd k.t1) "Kind").run Tryd.prog w = .ok (91, .pointer (some ⟨1, k.t1, none⟩)) w := by cases k <;> kernel_rfl
theorem call91 (k : FK) (w : World) : (callFunc 91 #[.pointer (some ⟨1, k.t2, none⟩)]).run Tryd.prog w = .ok (.value (.int .u8 22)) w := by cases k <;> kernel_rfl
theorem call91e (k : FK) (w : World) : (callFunc 91 #[.pointer (some ⟨1, k.t1, none⟩)]).run Tryd.prog w = .ok (.value (.int .u8 22)) w := by cases k <;> kernel_rfl
theorem mElem (k : FK) (w : World) : (Go.method 271 130 (hnd k.t2) "Elem").run Tryd.prog w = .ok (106, hnd k.t2) w := by cases k <;> kernel_rfl
theorem call106 (k : FK) (w : World) : (callFunc 106 #[hnd k.t2]).run Tryd.prog w = .ok (.value (rty k.t1)) w := by cases k <;> kernel_rfl
theorem mImpl (k : FK) (w : World) : (Go.method 271 130 (hnd k.t1) "Implements").run Tryd.prog w = .ok (107, hnd k.t1) w := by cases k <;> kernel_rfl
theorem call107 (k : FK) (w : World) : (callFunc 107 #[hnd k.t1, rty 25]).run Tryd.prog w = .ok (.value (.bool true)) w := by cases k <;> kernel_rfl
theorem call63 (k : FK) (v : Value) (w : World) : (callFunc 63 #[.iface k.t1 v]).run Tryd.prog w = .ok (.value (rty k.t1)) w := by cases k <;> kernel_rfl
theorem mAssign (k : FK) (w : World) : (Go.method 271 130 (hnd k.t1) "AssignableTo").run Tryd.prog w = .ok (104, hnd k.t1) w := by cases k <;> kernel_rfl
theorem call104 (j k : FK) (w : World) : (callFunc 104 #[hnd j.t1, rty k.t1]).run Tryd.prog w = .ok (.value (.bool (j.same k))) w := by cases k <;> cases j <;> kernel_rfl
theorem call73 (k : FK) (a : Nat) (p : Addr) (w : World) (h : w.cell? ⟨a, 0, none⟩ = some (.pointer (some p))) : (callFunc 73 #[vlu k.t2 a]).run Tryd.prog w = .ok (.value (.bool false)) w := by
  rw [peel_load (a := ⟨a, 0, none⟩) (by cases k <;> kernel_rfl) h]
  cases k <;> kernel_rfl
theorem call75 (k : FK) (a : Nat) (p : Addr) (w : World) (h : w.cell? ⟨a, 0, none⟩ = some (.pointer (some p))) : (callFunc 75 #[vlu k.t2 a]).run Tryd.prog w = .ok (.value (vla k.t1 p)) w := by
  rw [peel_load (a := ⟨a, 0, none⟩) (by cases k <;> kernel_rfl) h]
  cases k <;> kernel_rfl
theorem call76 (k : FK) (a : Addr) (b : Nat) (p : Addr) (w : World) (o : Value) (h : w.cell? ⟨b, 0, none⟩ = some (.pointer (some p))) (ha : w.cell? a = some o) (hf : w.frozen? a = false) :
    (callFunc 76 #[vla k.t1 a, vlu k.t1 b]).run Tryd.prog w = .ok (.value (.tuple #[])) (w.setCell a (.pointer (some p))) := by
  rw [peel_load (a := ⟨b, 0, none⟩) (by cases k <;> kernel_rfl) h, peel_store (a := a) (v := .pointer (some p)) (by cases k <;> kernel_rfl) rfl ha hf]
  cases k <;> kernel_rfl
theorem noAs (k : FK) (v : Value) (xT : TypeId) (w : World) : (Instr.typeAssert (.iface k.t1 v) xT 139 true).run Tryd.prog w = .ok (.tuple #[.nilIface, .bool false]) w := by
  cases k <;> exact run_typeAssert_lacksB Tryd.underlying139 (by kernel_rfl) (by kernel_rfl) v xT w
theorem noUnwraps (k : FK) (v : Value) (xT : TypeId) (w : World) : (Instr.typeAssert (.iface k.t1 v) xT 135 true).run Tryd.prog w = .ok (.tuple #[.nilIface, .bool false]) w := by
  cases k <;> exact run_typeAssert_lacksB Tryd.underlying135 (by kernel_rfl) (by kernel_rfl) v xT w
theorem noUnwrap (v : Value) (xT : TypeId) (w : World) : (Instr.typeAssert (.iface (FK.num).t1 v) xT 126 true).run Tryd.prog w = .ok (.tuple #[.nilIface, .bool false]) w :=
  run_typeAssert_lacksB Tryd.underlying126 (by kernel_rfl) (by kernel_rfl) v xT w
theorem hasUnwrap (k : FK) (hk : k ≠ .num) (v : Value) (xT : TypeId) (w : World) : (Instr.typeAssert (.iface k.t1 v) xT 126 true).run Tryd.prog w = .ok (.tuple #[.iface k.t1 v, .bool true]) w := by
  cases k <;> first | exact absurd rfl hk | exact run_typeAssert_hasB Tryd.underlying126 (by kernel_rfl) v xT w
theorem mUnwrap (k : FK) (hk : k ≠ .num) (b : Nat) (t : TypeId) (u : Value) (w : World) (h : w.cell? ⟨b, 0, none⟩ = some (.iface t u)) : (Go.method 271 k.t1 (.pointer (some ⟨b, 0, none⟩)) "Unwrap").run Tryd.prog w = .ok (97, .agg #[.iface t u]) w := by
  cases k
  · exact absurd rfl hk
  all_goals
    rw [peel_load (a := ⟨b, 0, none⟩) (by kernel_rfl) h]
    kernel_rfl
theorem unwrap97 (t : TypeId) (u : Value) (w : World) : Calls Tryd.prog 97 #[.agg #[.iface t u]] w fun e w' => e = .returned (.iface t u) ∧ Below w.heap.size w w' := by
  go_enter Tryd.func97, Tryd.ntmps97
  go_wp2
  go_ret
  exact ⟨rfl, (Below.refl _ _).alloc (Nat.le_refl _) _⟩
end Go.Proofs.YtoejeiaeladgjaaDoor
