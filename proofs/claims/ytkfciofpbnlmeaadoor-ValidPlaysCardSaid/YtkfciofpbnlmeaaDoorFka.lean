/- errors.As: closed facts on reflectlite at the four kinds of faults. -/
import Derived.Test.YtkfciofpbnlmeaaDoorChecked
import Derived.WalkKit
import Derived.ProofKit
import Derived.Stop.Asserts
import Derived.Below
import Derived.Deep.LoopGhost
import Derived.Test.YtkfciofpbnlmeaaDoorPeel
namespace Go.Proofs.YtkfciofpbnlmeaaDoor
open Go.Proofs.Peel Go.RowKit Go.Extern.Stop Go.Stop Go.Extern
set_option maxRecDepth 100000

inductive FK where
  | num
  | at_
  | bnd
def FK.t1 : FK → TypeId
  | .num => 76
  | .at_ => 71
  | .bnd => 85
def FK.ix : FK → Nat
  | .num => 0
  | .at_ => 1
  | .bnd => 3
def FK.same (a b : FK) : Bool := a.ix == b.ix
/-- What errors.As is asked for. -/
inductive FT where
  | num
def FT.t2 : FT → TypeId
  | .num => 80
def FT.fk : FT → FK
  | .num => .num
abbrev hnd (t : Nat) : Value := .agg #[.pointer (some ⟨1, t, none⟩)]
abbrev rty (t : Nat) : Value := .iface 115 (hnd t)
abbrev vlu (t : Nat) (a : Nat) : Value := .agg #[.pointer (some ⟨1, t, none⟩), .pointer (some ⟨a, 0, none⟩), .int .u64 150]
abbrev vla (t : Nat) (a : Addr) : Value := .agg #[.pointer (some ⟨1, t, none⟩), .pointer (some a), .int .u64 406]
theorem call71 (k : FT) (p : Option Addr) (w : World) : (callFunc 47 #[.iface k.t2 (.pointer p)]).run Tryd.prog w = .ok (.value (vlu k.t2 w.heap.size)) (w.alloc (.cells #[.pointer p] k.t2)) := by cases k <;> kernel_rfl
theorem call71e (k : FK) (p : Option Addr) (w : World) : (callFunc 47 #[.iface k.t1 (.pointer p)]).run Tryd.prog w = .ok (.value (vlu k.t1 w.heap.size)) (w.alloc (.cells #[.pointer p] k.t1)) := by cases k <;> kernel_rfl
theorem call72 (k : FT) (p : Nat) (w : World) : (callFunc 48 #[vlu k.t2 p]).run Tryd.prog w = .ok (.value (rty k.t2)) w := by cases k <;> kernel_rfl
theorem mKind2 (k : FT) (w : World) : (Go.method 265 115 (hnd k.t2) "Kind").run Tryd.prog w = .ok (86, .pointer (some ⟨1, k.t2, none⟩)) w := by cases k <;> kernel_rfl
theorem mKind1 (k : FK) (w : World) : (Go.method 265 115 (hnd k.t1) "Kind").run Tryd.prog w = .ok (86, .pointer (some ⟨1, k.t1, none⟩)) w := by cases k <;> kernel_rfl
theorem call91 (k : FT) (w : World) : (callFunc 86 #[.pointer (some ⟨1, k.t2, none⟩)]).run Tryd.prog w = .ok (.value (.int .u8 22)) w := by cases k <;> kernel_rfl
theorem call91e (k : FK) (w : World) : (callFunc 86 #[.pointer (some ⟨1, k.t1, none⟩)]).run Tryd.prog w = .ok (.value (.int .u8 22)) w := by cases k <;> kernel_rfl
theorem mElem (k : FT) (w : World) : (Go.method 265 115 (hnd k.t2) "Elem").run Tryd.prog w = .ok (99, hnd k.t2) w := by cases k <;> kernel_rfl
theorem call106 (k : FT) (w : World) : (callFunc 99 #[hnd k.t2]).run Tryd.prog w = .ok (.value (rty k.fk.t1)) w := by cases k <;> kernel_rfl
theorem mImpl (k : FK) (w : World) : (Go.method 265 115 (hnd k.t1) "Implements").run Tryd.prog w = .ok (100, hnd k.t1) w := by cases k <;> kernel_rfl
theorem call107 (k : FK) (w : World) : (callFunc 100 #[hnd k.t1, rty 54]).run Tryd.prog w = .ok (.value (.bool true)) w := by cases k <;> kernel_rfl
theorem call63 (k : FK) (v : Value) (w : World) : (callFunc 62 #[.iface k.t1 v]).run Tryd.prog w = .ok (.value (rty k.t1)) w := by cases k <;> kernel_rfl
theorem mAssign (k : FK) (w : World) : (Go.method 265 115 (hnd k.t1) "AssignableTo").run Tryd.prog w = .ok (97, hnd k.t1) w := by cases k <;> kernel_rfl
theorem call104 (j k : FK) (w : World) : (callFunc 97 #[hnd j.t1, rty k.t1]).run Tryd.prog w = .ok (.value (.bool (j.same k))) w := by cases k <;> cases j <;> kernel_rfl
theorem call73 (k : FT) (a : Nat) (p : Addr) (w : World) (h : w.cell? ⟨a, 0, none⟩ = some (.pointer (some p))) : (callFunc 49 #[vlu k.t2 a]).run Tryd.prog w = .ok (.value (.bool false)) w := by
  rw [peel_load (a := ⟨a, 0, none⟩) (by cases k <;> kernel_rfl) h]
  cases k <;> kernel_rfl
theorem call75 (k : FT) (a : Nat) (p : Addr) (w : World) (h : w.cell? ⟨a, 0, none⟩ = some (.pointer (some p))) : (callFunc 63 #[vlu k.t2 a]).run Tryd.prog w = .ok (.value (vla k.fk.t1 p)) w := by
  rw [peel_load (a := ⟨a, 0, none⟩) (by cases k <;> kernel_rfl) h]
  cases k <;> kernel_rfl
theorem call76 (k : FK) (a : Addr) (b : Nat) (p : Addr) (w : World) (o : Value) (h : w.cell? ⟨b, 0, none⟩ = some (.pointer (some p))) (ha : w.cell? a = some o) (hf : w.frozen? a = false) :
    (callFunc 64 #[vla k.t1 a, vlu k.t1 b]).run Tryd.prog w = .ok (.value (.tuple #[])) (w.setCell a (.pointer (some p))) := by
  rw [peel_load (a := ⟨b, 0, none⟩) (by cases k <;> kernel_rfl) h, peel_store (a := a) (v := .pointer (some p)) (by cases k <;> kernel_rfl) rfl ha hf]
  cases k <;> kernel_rfl
theorem noAs (k : FK) (v : Value) (xT : TypeId) (w : World) : (Instr.typeAssert (.iface k.t1 v) xT 120 true).run Tryd.prog w = .ok (.tuple #[.nilIface, .bool false]) w := by
  cases k <;> exact run_typeAssert_lacksB Tryd.underlying120 (by kernel_rfl) (by kernel_rfl) v xT w
theorem noUnwraps (k : FK) (v : Value) (xT : TypeId) (w : World) : (Instr.typeAssert (.iface k.t1 v) xT 125 true).run Tryd.prog w = .ok (.tuple #[.nilIface, .bool false]) w := by
  cases k <;> exact run_typeAssert_lacksB Tryd.underlying125 (by kernel_rfl) (by kernel_rfl) v xT w
theorem noUnwrap (v : Value) (xT : TypeId) (w : World) : (Instr.typeAssert (.iface (FK.num).t1 v) xT 123 true).run Tryd.prog w = .ok (.tuple #[.nilIface, .bool false]) w :=
  run_typeAssert_lacksB Tryd.underlying123 (by kernel_rfl) (by kernel_rfl) v xT w
theorem hasUnwrap (k : FK) (hk : k ≠ .num) (v : Value) (xT : TypeId) (w : World) : (Instr.typeAssert (.iface k.t1 v) xT 123 true).run Tryd.prog w = .ok (.tuple #[.iface k.t1 v, .bool true]) w := by
  cases k <;> first | exact absurd rfl hk | exact run_typeAssert_hasB Tryd.underlying123 (by kernel_rfl) v xT w
theorem mUnwrap (k : FK) (hk : k ≠ .num) (b : Nat) (t : TypeId) (u : Value) (w : World) (h : w.cell? ⟨b, 0, none⟩ = some (.iface t u)) : (Go.method 265 k.t1 (.pointer (some ⟨b, 0, none⟩)) "Unwrap").run Tryd.prog w = .ok (90, .agg #[.iface t u]) w := by
  cases k
  · exact absurd rfl hk
  all_goals
    rw [peel_load (a := ⟨b, 0, none⟩) (by kernel_rfl) h]
    kernel_rfl
theorem unwrap97 (t : TypeId) (u : Value) (w : World) : Calls Tryd.prog 90 #[.agg #[.iface t u]] w fun e w' => e = .returned (.iface t u) ∧ Below w.heap.size w w' := by
  go_enter Tryd.func90, Tryd.ntmps90
  go_wp2
  go_ret
  exact ⟨rfl, (Below.refl _ _).alloc (Nat.le_refl _) _⟩
end Go.Proofs.YtkfciofpbnlmeaaDoor
