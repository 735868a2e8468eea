/- Peeling a run of Sem, load by load and store by store. errors.As: closed facts on reflectlite at the four kinds of faults. Plain words on worlds: what a call may have written; blocks known whole. -/
import Derived.WalkKit
import Derived.Test.YtlekfpeonehggaaGreatDoorChecked
import Derived.ProofKit
import Derived.Stop.Asserts
import Derived.Below
import Derived.Deep.LoopGhost
import Derived.Deep.Draws
section
namespace Go.Proofs.Peel

def strip {α : Type} (P : Program) : Sem α → Sem α
  | .program k => strip P (k P)
  | .mark _ k => strip P k
  | s => s
theorem strip_run {α : Type} (P : Program) (s : Sem α) (w : World) : (strip P s).run P w = s.run P w := by
  induction s generalizing w with
  | program k ih => simp only [strip, Sem.run]; exact ih _ _
  | mark m k ih => simp only [strip, Sem.run]; exact ih _
  | _ => rfl
def headLoad {α : Type} (P : Program) (s : Sem α) : Option Addr := match strip P s with | .load _ a _ => some a | _ => none
def afterLoad {α : Type} (P : Program) (s : Sem α) (v : Value) : Sem α := match strip P s with | .load _ _ k => k v | t => t
theorem peel_load {α : Type} {P : Program} {s : Sem α} {a : Addr} {v : Value} {w : World} (h : headLoad P s = some a) (hc : w.cell? a = some v) : s.run P w = (afterLoad P s v).run P w := by
  rw [← strip_run P s w]
  unfold headLoad at h
  unfold afterLoad
  generalize strip P s = t at h ⊢
  cases t <;> simp at h
  subst h
  simp only [Sem.run, hc]
def headStore {α : Type} (P : Program) (s : Sem α) : Option (Addr × Value) := match strip P s with | .store _ a v _ => some (a, v) | _ => none
def afterStore {α : Type} (P : Program) (s : Sem α) : Sem α := match strip P s with | .store _ _ _ k => k | t => t
theorem peel_store {α : Type} {P : Program} {s : Sem α} {a : Addr} {v o : Value} {w : World} (h : headStore P s = some (a, v)) (h1 : v.oneCell' = true) (hc : w.cell? a = some o) (hf : w.frozen? a = false) :
    s.run P w = (afterStore P s).run P (w.setCell a v) := by
  rw [← strip_run P s w]
  unfold headStore at h
  unfold afterStore
  generalize strip P s = t at h ⊢
  cases t <;> simp at h
  obtain ⟨e1, e2⟩ := h
  subst e1
  rename_i m v' k
  rw [← e2] at h1 ⊢
  cases v' <;> simp [Value.oneCell'] at h1 <;> simp [Sem.run, hc, hf]
end Go.Proofs.Peel
end

section
namespace Go.Proofs.YtlekfpeonehggaaGreatDoor
open Go.Proofs.Peel Go.RowKit Go.Extern.Stop Go.Stop Go.Extern
set_option maxRecDepth 100000

inductive FK where
  | num
  | at_
  | in_
  | bnd
def FK.t1 : FK → TypeId
  | .num => 117
  | .at_ => 92
  | .in_ => 124
  | .bnd => 114
def FK.ix : FK → Nat
  | .num => 0
  | .at_ => 1
  | .in_ => 2
  | .bnd => 3
def FK.same (a b : FK) : Bool := a.ix == b.ix
/-- What errors.As is asked for. -/
inductive FT where
  | num
def FT.t2 : FT → TypeId
  | .num => 137
def FT.fk : FT → FK
  | .num => .num
abbrev hnd (t : Nat) : Value := .agg #[.pointer (some ⟨2, t, none⟩)]
abbrev rty (t : Nat) : Value := .iface 155 (hnd t)
abbrev vlu (t : Nat) (a : Nat) : Value := .agg #[.pointer (some ⟨2, t, none⟩), .pointer (some ⟨a, 0, none⟩), .int .u64 150]
abbrev vla (t : Nat) (a : Addr) : Value := .agg #[.pointer (some ⟨2, t, none⟩), .pointer (some a), .int .u64 406]
theorem call71 (k : FT) (p : Option Addr) (w : World) : (callFunc 85 #[.iface k.t2 (.pointer p)]).run Tryz.prog w = .ok (.value (vlu k.t2 w.heap.size)) (w.alloc (.cells #[.pointer p] k.t2)) := by cases k <;> kernel_rfl
theorem call71e (k : FK) (p : Option Addr) (w : World) : (callFunc 85 #[.iface k.t1 (.pointer p)]).run Tryz.prog w = .ok (.value (vlu k.t1 w.heap.size)) (w.alloc (.cells #[.pointer p] k.t1)) := by cases k <;> kernel_rfl
theorem call72 (k : FT) (p : Nat) (w : World) : (callFunc 86 #[vlu k.t2 p]).run Tryz.prog w = .ok (.value (rty k.t2)) w := by cases k <;> kernel_rfl
theorem mKind2 (k : FT) (w : World) : (Go.method 298 155 (hnd k.t2) "Kind").run Tryz.prog w = .ok (110, .pointer (some ⟨2, k.t2, none⟩)) w := by cases k <;> kernel_rfl
theorem mKind1 (k : FK) (w : World) : (Go.method 298 155 (hnd k.t1) "Kind").run Tryz.prog w = .ok (110, .pointer (some ⟨2, k.t1, none⟩)) w := by cases k <;> kernel_rfl
theorem call91 (k : FT) (w : World) : (callFunc 110 #[.pointer (some ⟨2, k.t2, none⟩)]).run Tryz.prog w = .ok (.value (.int .u8 22)) w := by cases k <;> kernel_rfl
theorem call91e (k : FK) (w : World) : (callFunc 110 #[.pointer (some ⟨2, k.t1, none⟩)]).run Tryz.prog w = .ok (.value (.int .u8 22)) w := by cases k <;> kernel_rfl
theorem mElem (k : FT) (w : World) : (Go.method 298 155 (hnd k.t2) "Elem").run Tryz.prog w = .ok (125, hnd k.t2) w := by cases k <;> kernel_rfl
theorem call106 (k : FT) (w : World) : (callFunc 125 #[hnd k.t2]).run Tryz.prog w = .ok (.value (rty k.fk.t1)) w := by cases k <;> kernel_rfl
theorem mImpl (k : FK) (w : World) : (Go.method 298 155 (hnd k.t1) "Implements").run Tryz.prog w = .ok (126, hnd k.t1) w := by cases k <;> kernel_rfl
theorem call107 (k : FK) (w : World) : (callFunc 126 #[hnd k.t1, rty 61]).run Tryz.prog w = .ok (.value (.bool true)) w := by cases k <;> kernel_rfl
theorem call63 (k : FK) (v : Value) (w : World) : (callFunc 92 #[.iface k.t1 v]).run Tryz.prog w = .ok (.value (rty k.t1)) w := by cases k <;> kernel_rfl
theorem mAssign (k : FK) (w : World) : (Go.method 298 155 (hnd k.t1) "AssignableTo").run Tryz.prog w = .ok (123, hnd k.t1) w := by cases k <;> kernel_rfl
theorem call104 (j k : FK) (w : World) : (callFunc 123 #[hnd j.t1, rty k.t1]).run Tryz.prog w = .ok (.value (.bool (j.same k))) w := by cases k <;> cases j <;> kernel_rfl
theorem call73 (k : FT) (a : Nat) (p : Addr) (w : World) (h : w.cell? ⟨a, 0, none⟩ = some (.pointer (some p))) : (callFunc 87 #[vlu k.t2 a]).run Tryz.prog w = .ok (.value (.bool false)) w := by
  rw [peel_load (a := ⟨a, 0, none⟩) (by cases k <;> kernel_rfl) h]
  cases k <;> kernel_rfl
theorem call75 (k : FT) (a : Nat) (p : Addr) (w : World) (h : w.cell? ⟨a, 0, none⟩ = some (.pointer (some p))) : (callFunc 93 #[vlu k.t2 a]).run Tryz.prog w = .ok (.value (vla k.fk.t1 p)) w := by
  rw [peel_load (a := ⟨a, 0, none⟩) (by cases k <;> kernel_rfl) h]
  cases k <;> kernel_rfl
theorem call76 (k : FK) (a : Addr) (b : Nat) (p : Addr) (w : World) (o : Value) (h : w.cell? ⟨b, 0, none⟩ = some (.pointer (some p))) (ha : w.cell? a = some o) (hf : w.frozen? a = false) :
    (callFunc 94 #[vla k.t1 a, vlu k.t1 b]).run Tryz.prog w = .ok (.value (.tuple #[])) (w.setCell a (.pointer (some p))) := by
  rw [peel_load (a := ⟨b, 0, none⟩) (by cases k <;> kernel_rfl) h, peel_store (a := a) (v := .pointer (some p)) (by cases k <;> kernel_rfl) rfl ha hf]
  cases k <;> kernel_rfl
theorem noAs (k : FK) (v : Value) (xT : TypeId) (w : World) : (Instr.typeAssert (.iface k.t1 v) xT 160 true).run Tryz.prog w = .ok (.tuple #[.nilIface, .bool false]) w := by
  cases k <;> exact run_typeAssert_lacksB Tryz.underlying160 (by kernel_rfl) (by kernel_rfl) v xT w
theorem noUnwraps (k : FK) (v : Value) (xT : TypeId) (w : World) : (Instr.typeAssert (.iface k.t1 v) xT 165 true).run Tryz.prog w = .ok (.tuple #[.nilIface, .bool false]) w := by
  cases k <;> exact run_typeAssert_lacksB Tryz.underlying165 (by kernel_rfl) (by kernel_rfl) v xT w
theorem noUnwrap (v : Value) (xT : TypeId) (w : World) : (Instr.typeAssert (.iface (FK.num).t1 v) xT 163 true).run Tryz.prog w = .ok (.tuple #[.nilIface, .bool false]) w :=
  run_typeAssert_lacksB Tryz.underlying163 (by kernel_rfl) (by kernel_rfl) v xT w
theorem hasUnwrap (k : FK) (hk : k ≠ .num) (v : Value) (xT : TypeId) (w : World) : (Instr.typeAssert (.iface k.t1 v) xT 163 true).run Tryz.prog w = .ok (.tuple #[.iface k.t1 v, .bool true]) w := by
  cases k <;> first | exact absurd rfl hk | exact run_typeAssert_hasB Tryz.underlying163 (by kernel_rfl) v xT w
theorem mUnwrap (k : FK) (hk : k ≠ .num) (b : Nat) (t : TypeId) (u : Value) (w : World) (h : w.cell? ⟨b, 0, none⟩ = some (.iface t u)) : (Go.method 298 k.t1 (.pointer (some ⟨b, 0, none⟩)) "Unwrap").run Tryz.prog w = .ok (115, .agg #[.iface t u]) w := by
  cases k
  · exact absurd rfl hk
  all_goals
    rw [peel_load (a := ⟨b, 0, none⟩) (by kernel_rfl) h]
    kernel_rfl
theorem unwrap97 (t : TypeId) (u : Value) (w : World) : Calls Tryz.prog 115 #[.agg #[.iface t u]] w fun e w' => e = .returned (.iface t u) ∧ Below w.heap.size w w' := by
  go_enter Tryz.func115, Tryz.ntmps115
  go_wp2
  go_ret
  exact ⟨rfl, (Below.refl _ _).alloc (Nat.le_refl _) _⟩
end Go.Proofs.YtlekfpeonehggaaGreatDoor
end

section
namespace Go.Proofs.BL
open Go.RowKit

/-- From w to w' nothing that was there has turned but blocks in S. -/
structure Fr (S : Nat → Prop) (w w' : World) : Prop where
  os : w'.os = w.os
  tape : w'.tape = w.tape
  output : w'.output = w.output
  size : w.heap.size ≤ w'.heap.size
  block : ∀ k, k < w.heap.size → ¬ S k → w'.heap[k]? = w.heap[k]?

def none_ : Nat → Prop := fun _ => False
def only (a : Nat) : Nat → Prop := fun k => k = a

theorem Fr.refl (S : Nat → Prop) (w : World) : Fr S w w := ⟨rfl, rfl, rfl, Nat.le_refl _, fun _ _ _ => rfl⟩
theorem Fr.mono {S T : Nat → Prop} {w w' : World} (h : Fr S w w') (hs : ∀ k, k < w.heap.size → S k → T k) : Fr T w w' :=
  ⟨h.os, h.tape, h.output, h.size, fun k hk hn => h.block k hk (fun hS => hn (hs k hk hS))⟩
/-- Two steps: what the second one writes is in S, or new. -/
theorem Fr.trans {S T : Nat → Prop} {a b c : World} (h : Fr S a b) (k : Fr T b c) (hT : ∀ i, i < a.heap.size → T i → S i) : Fr S a c :=
  ⟨k.os.trans h.os, k.tape.trans h.tape, k.output.trans h.output, Nat.le_trans h.size k.size,
    fun i hi hn => (k.block i (Nat.lt_of_lt_of_le hi h.size) (fun hTi => hn (hT i hi hTi))).trans (h.block i hi hn)⟩
theorem Fr.of_below {S : Nat → Prop} {w w' : World} (h : Below w.heap.size w w') : Fr S w w' := ⟨h.os, h.tape, h.output, h.size, fun k hk _ => h.block k hk⟩
theorem Fr.below {w w' : World} (h : Fr none_ w w') : Below w.heap.size w w' := ⟨h.os, h.tape, h.output, h.size, fun k hk => h.block k hk (fun e => e)⟩
theorem Fr.drew {S : Nat → Prop} {a w : World} (h : Fr S a w) : Fr S a w.drew := ⟨h.os, h.tape, h.output, h.size, h.block⟩
theorem Fr.drewN {S : Nat → Prop} {a w : World} (h : Fr S a w) (n : Nat) : Fr S a (w.drewN n) := ⟨h.os, h.tape, h.output, h.size, h.block⟩
theorem Fr.alloc {S : Nat → Prop} {a w : World} (h : Fr S a w) (o : Obj) : Fr S a (w.alloc o) :=
  ⟨h.os, h.tape, h.output, by have := h.size; simp; omega, fun k hk hn => (Below.heap_alloc _ _ _ (Nat.lt_of_lt_of_le hk h.size)).trans (h.block k hk hn)⟩
theorem Fr.setCell {S : Nat → Prop} {a w : World} (h : Fr S a w) {p : Addr} (hp : a.heap.size ≤ p.block ∨ S p.block) (u : Value) : Fr S a (w.setCell p u) :=
  ⟨h.os, h.tape, h.output, by have := h.size; simpa [World.setCell] using this, fun k hk hn => (Below.heap_setCell _ _ _ _ (by
    rintro rfl
    rcases hp with hp | hp
    · omega
    · exact hn hp)).trans (h.block k hk hn)⟩
theorem Fr.then_below {S : Nat → Prop} {a b c : World} (h : Fr S a b) (k : Below b.heap.size b c) : Fr S a c := h.trans (Fr.of_below (S := none_) k) (fun _ _ e => e.elim)
theorem below_then {a b c : World} (h : Below a.heap.size a b) (k : Below b.heap.size b c) : Below a.heap.size a c := h.trans (k.mono h.size)

/-- Block b holds the cells cs, of element type t; nothing is frozen. -/
def Blk (w : World) (b : Nat) (cs : Array Value) (t : TypeId) : Prop := w.heap[b]? = some (.cells cs t (0, 0))
theorem Blk.lt {w : World} {b : Nat} {cs : Array Value} {t : TypeId} (h : Blk w b cs t) : b < w.heap.size := (Array.getElem?_eq_some_iff.1 h).1
theorem Blk.cell {w : World} {b : Nat} {cs : Array Value} {t : TypeId} (h : Blk w b cs t) (i : Nat) : w.cell? ⟨b, i, none⟩ = cs[i]? := by
  unfold Blk at h
  simp [World.cell?, h]
theorem Blk.at_ {w : World} {b : Nat} {cs : Array Value} {t : TypeId} (h : Blk w b cs t) (i : Nat) {v : Value} (hv : cs[i]? = some v) : w.cell? ⟨b, i, none⟩ = some v := (h.cell i).trans hv
theorem Blk.free {w : World} {b : Nat} {cs : Array Value} {t : TypeId} (h : Blk w b cs t) (i : Nat) : w.frozen? ⟨b, i, none⟩ = false := by
  unfold Blk at h
  simp [World.frozen?, h]
theorem Blk.fr {S : Nat → Prop} {w w' : World} {b : Nat} {cs : Array Value} {t : TypeId} (h : Blk w b cs t) (hf : Fr S w w') (hn : ¬ S b) : Blk w' b cs t := (hf.block b h.lt hn).trans h
theorem Blk.below {w w' : World} {b : Nat} {cs : Array Value} {t : TypeId} (h : Blk w b cs t) (hf : Below w.heap.size w w') : Blk w' b cs t := (hf.block b h.lt).trans h
theorem Blk.alloc {w : World} {b : Nat} {cs : Array Value} {t : TypeId} (h : Blk w b cs t) (o : Obj) : Blk (w.alloc o) b cs t := (Below.heap_alloc _ _ _ h.lt).trans h
theorem Blk.set {w : World} {b : Nat} {cs : Array Value} {t : TypeId} (h : Blk w b cs t) (i : Nat) (u : Value) : Blk (w.setCell ⟨b, i, none⟩ u) b (cs.setIfInBounds i u) t := by
  unfold Blk at *
  simp only [World.setCell, Array.getElem?_modify, h]
  simp
theorem Blk.far {w : World} {b : Nat} {cs : Array Value} {t : TypeId} (h : Blk w b cs t) {p : Addr} (hp : b ≠ p.block) (u : Value) : Blk (w.setCell p u) b cs t := (Below.heap_setCell _ _ _ _ hp).trans h
theorem Blk.new (w : World) (cs : Array Value) (t : TypeId) : Blk (w.alloc (.cells cs t)) w.heap.size cs t := by
  show (w.heap.push _)[w.heap.size]? = _
  simp
theorem Blk.ne {w : World} {b b' : Nat} {cs cs' : Array Value} {t t' : TypeId} (h : Blk w b cs t) (h' : Blk w b' cs' t') (ht : t ≠ t') : b ≠ b' := by
  rintro rfl
  unfold Blk at *
  rw [h] at h'
  injection h' with h'
  injection h' with _ e
  exact ht e
theorem Blk.inj {w : World} {b : Nat} {cs cs' : Array Value} {t t' : TypeId} (h : Blk w b cs t) (h' : Blk w b cs' t') : cs = cs' ∧ t = t' := by
  unfold Blk at *
  rw [h] at h'
  injection h' with h'
  injection h' with e1 e2
  exact ⟨e1, e2⟩
theorem bytes_ext {a b : ByteArray} (h : a.toList = b.toList) : a = b := by
  rw [ByteArray.toList_eq, ByteArray.toList_eq] at h
  cases a with | mk x => cases b with | mk y => exact congrArg ByteArray.mk (Array.toList_inj.1 h)
theorem str_same {a b : ByteArray} (h : a = b) : (a.toList == b.toList) = true := by rw [h]; exact beq_self_eq_true _
theorem str_diff {a b : ByteArray} (h : a ≠ b) : (a.toList == b.toList) = false := by
  cases e : a.toList == b.toList
  · rfl
  · exact absurd (bytes_ext (eq_of_beq e)) h
theorem int_same {a b : Int} (h : a = b) : (a == b) = true := by rw [h]; exact beq_self_eq_true _
theorem int_diff {a b : Int} (h : a ≠ b) : (a == b) = false := by simpa using h
/-- The post behind a variable, so that the walk does not look into it. -/
theorem via {P : Program} {f : FuncId} {args : Array Value} {w : World} {R : Ending → World → Prop} (h : ∀ Q : Ending → World → Prop, (∀ e w', R e w' → Q e w') → Calls P f args w Q) : Calls P f args w R := h R (fun _ _ h => h)
end Go.Proofs.BL
end
