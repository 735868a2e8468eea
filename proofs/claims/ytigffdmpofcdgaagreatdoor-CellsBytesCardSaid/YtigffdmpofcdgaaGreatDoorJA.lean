/- Plain words on worlds: what a call may have written; blocks known whole. Peeling a run of Sem, load by load and store by store. errors.As: closed facts on reflectlite at the four kinds of faults. errors.As by its contract, whatever chain of faults it is handed. Slices: as they read, and as a call owns them. Slices: appends of whole slices and of strings; bytes. Appends, and where the new row lies. copy, clear, append at elements of several cells; a block's cells laid over. Memory in parts: what is held, what nobody writes any more. The contracts of package fault: what makes faults, and what asks them. Objects of one slice; the table of errors.As as a part; rows of one's own, read and written. fault.Bound. fault.In. fault.At. fault.Place. -/
import Derived.Below
import Derived.WalkKit
import Derived.Deep.Draws
import Derived.Test.YtigffdmpofcdgaaGreatDoorChecked
import Derived.ProofKit
import Derived.Stop.Asserts
import Derived.Deep.LoopGhost
import Derived.Lib.Hide
import Derived.OwnWalk
import Derived.Maps.AppendAt
import Derived.Deep.AppendLies
import Derived.Lib.AppendStr
import Derived.Laws.AppendOwnNone
import Derived.Lib.ConvBytes
import Derived.Laws.IdiomStrings
import Derived.Lib.BufferRead
import Derived.Laws.IdiomCopy
import Derived.Lib.SliceRun
import Derived.Lib.AppendZerosOnto
import Derived.Lib.Overlaps
import Derived.ArgAppend
import Derived.Deep.QuietTactic
import Derived.BigQuiet
import Derived.Deep.RegionHeld3
import Derived.Laws.Rows
section
namespace Go.Proofs.BL
open Go.RowKit

/-- From w to w' nothing that was there has turned but blocks in S. -/
structure Fr (S : Nat → Prop) (w w' : World) : Prop where
  os : w'.os = w.os
  tape : w'.tape = w.tape
  output : w'.output = w.output
  size : w.heap.size ≤ w'.heap.size
  block : ∀ k, k < w.heap.size → ¬ S k → w'.heap[k]? = w.heap[k]?

def none_ : Nat → Prop := fun _ => False
def only (a : Nat) : Nat → Prop := fun k => k = a

theorem Fr.refl (S : Nat → Prop) (w : World) : Fr S w w := ⟨rfl, rfl, rfl, Nat.le_refl _, fun _ _ _ => rfl⟩
theorem Fr.mono {S T : Nat → Prop} {w w' : World} (h : Fr S w w') (hs : ∀ k, k < w.heap.size → S k → T k) : Fr T w w' :=
  ⟨h.os, h.tape, h.output, h.size, fun k hk hn => h.block k hk (fun hS => hn (hs k hk hS))⟩
/-- Two steps: what the second one writes is in S, or new. -/
theorem Fr.trans {S T : Nat → Prop} {a b c : World} (h : Fr S a b) (k : Fr T b c) (hT : ∀ i, i < a.heap.size → T i → S i) : Fr S a c :=
  ⟨k.os.trans h.os, k.tape.trans h.tape, k.output.trans h.output, Nat.le_trans h.size k.size,
    fun i hi hn => (k.block i (Nat.lt_of_lt_of_le hi h.size) (fun hTi => hn (hT i hi hTi))).trans (h.block i hi hn)⟩
theorem Fr.of_below {S : Nat → Prop} {w w' : World} (h : Below w.heap.size w w') : Fr S w w' := ⟨h.os, h.tape, h.output, h.size, fun k hk _ => h.block k hk⟩
theorem Fr.below {w w' : World} (h : Fr none_ w w') : Below w.heap.size w w' := ⟨h.os, h.tape, h.output, h.size, fun k hk => h.block k hk (fun e => e)⟩
theorem Fr.drew {S : Nat → Prop} {a w : World} (h : Fr S a w) : Fr S a w.drew := ⟨h.os, h.tape, h.output, h.size, h.block⟩
theorem Fr.drewN {S : Nat → Prop} {a w : World} (h : Fr S a w) (n : Nat) : Fr S a (w.drewN n) := ⟨h.os, h.tape, h.output, h.size, h.block⟩
theorem Fr.alloc {S : Nat → Prop} {a w : World} (h : Fr S a w) (o : Obj) : Fr S a (w.alloc o) :=
  ⟨h.os, h.tape, h.output, by have := h.size; simp; omega, fun k hk hn => (Below.heap_alloc _ _ _ (Nat.lt_of_lt_of_le hk h.size)).trans (h.block k hk hn)⟩
theorem Fr.setCell {S : Nat → Prop} {a w : World} (h : Fr S a w) {p : Addr} (hp : a.heap.size ≤ p.block ∨ S p.block) (u : Value) : Fr S a (w.setCell p u) :=
  ⟨h.os, h.tape, h.output, by have := h.size; simpa [World.setCell] using this, fun k hk hn => (Below.heap_setCell _ _ _ _ (by
    rintro rfl
    rcases hp with hp | hp
    · omega
    · exact hn hp)).trans (h.block k hk hn)⟩
theorem Fr.then_below {S : Nat → Prop} {a b c : World} (h : Fr S a b) (k : Below b.heap.size b c) : Fr S a c := h.trans (Fr.of_below (S := none_) k) (fun _ _ e => e.elim)
theorem below_then {a b c : World} (h : Below a.heap.size a b) (k : Below b.heap.size b c) : Below a.heap.size a c := h.trans (k.mono h.size)

/-- Block b holds the cells cs, of element type t; nothing is frozen. -/
def Blk (w : World) (b : Nat) (cs : Array Value) (t : TypeId) : Prop := w.heap[b]? = some (.cells cs t (0, 0))
theorem Blk.lt {w : World} {b : Nat} {cs : Array Value} {t : TypeId} (h : Blk w b cs t) : b < w.heap.size := (Array.getElem?_eq_some_iff.1 h).1
theorem Blk.cell {w : World} {b : Nat} {cs : Array Value} {t : TypeId} (h : Blk w b cs t) (i : Nat) : w.cell? ⟨b, i, none⟩ = cs[i]? := by
  unfold Blk at h
  simp [World.cell?, h]
theorem Blk.at_ {w : World} {b : Nat} {cs : Array Value} {t : TypeId} (h : Blk w b cs t) (i : Nat) {v : Value} (hv : cs[i]? = some v) : w.cell? ⟨b, i, none⟩ = some v := (h.cell i).trans hv
theorem Blk.free {w : World} {b : Nat} {cs : Array Value} {t : TypeId} (h : Blk w b cs t) (i : Nat) : w.frozen? ⟨b, i, none⟩ = false := by
  unfold Blk at h
  simp [World.frozen?, h]
theorem Blk.fr {S : Nat → Prop} {w w' : World} {b : Nat} {cs : Array Value} {t : TypeId} (h : Blk w b cs t) (hf : Fr S w w') (hn : ¬ S b) : Blk w' b cs t := (hf.block b h.lt hn).trans h
theorem Blk.below {w w' : World} {b : Nat} {cs : Array Value} {t : TypeId} (h : Blk w b cs t) (hf : Below w.heap.size w w') : Blk w' b cs t := (hf.block b h.lt).trans h
theorem Blk.alloc {w : World} {b : Nat} {cs : Array Value} {t : TypeId} (h : Blk w b cs t) (o : Obj) : Blk (w.alloc o) b cs t := (Below.heap_alloc _ _ _ h.lt).trans h
theorem Blk.set {w : World} {b : Nat} {cs : Array Value} {t : TypeId} (h : Blk w b cs t) (i : Nat) (u : Value) : Blk (w.setCell ⟨b, i, none⟩ u) b (cs.setIfInBounds i u) t := by
  unfold Blk at *
  simp only [World.setCell, Array.getElem?_modify, h]
  simp
theorem Blk.far {w : World} {b : Nat} {cs : Array Value} {t : TypeId} (h : Blk w b cs t) {p : Addr} (hp : b ≠ p.block) (u : Value) : Blk (w.setCell p u) b cs t := (Below.heap_setCell _ _ _ _ hp).trans h
theorem Blk.new (w : World) (cs : Array Value) (t : TypeId) : Blk (w.alloc (.cells cs t)) w.heap.size cs t := by
  show (w.heap.push _)[w.heap.size]? = _
  simp
theorem Blk.ne {w : World} {b b' : Nat} {cs cs' : Array Value} {t t' : TypeId} (h : Blk w b cs t) (h' : Blk w b' cs' t') (ht : t ≠ t') : b ≠ b' := by
  rintro rfl
  unfold Blk at *
  rw [h] at h'
  injection h' with h'
  injection h' with _ e
  exact ht e
theorem Blk.inj {w : World} {b : Nat} {cs cs' : Array Value} {t t' : TypeId} (h : Blk w b cs t) (h' : Blk w b cs' t') : cs = cs' ∧ t = t' := by
  unfold Blk at *
  rw [h] at h'
  injection h' with h'
  injection h' with e1 e2
  exact ⟨e1, e2⟩
theorem bytes_ext {a b : ByteArray} (h : a.toList = b.toList) : a = b := by
  rw [ByteArray.toList_eq, ByteArray.toList_eq] at h
  cases a with | mk x => cases b with | mk y => exact congrArg ByteArray.mk (Array.toList_inj.1 h)
theorem str_same {a b : ByteArray} (h : a = b) : (a.toList == b.toList) = true := by rw [h]; exact beq_self_eq_true _
theorem str_diff {a b : ByteArray} (h : a ≠ b) : (a.toList == b.toList) = false := by
  cases e : a.toList == b.toList
  · rfl
  · exact absurd (bytes_ext (eq_of_beq e)) h
theorem int_same {a b : Int} (h : a = b) : (a == b) = true := by rw [h]; exact beq_self_eq_true _
theorem int_diff {a b : Int} (h : a ≠ b) : (a == b) = false := by simpa using h
/-- The post behind a variable, so that the walk does not look into it. -/
theorem via {P : Program} {f : FuncId} {args : Array Value} {w : World} {R : Ending → World → Prop} (h : ∀ Q : Ending → World → Prop, (∀ e w', R e w' → Q e w') → Calls P f args w Q) : Calls P f args w R := h R (fun _ _ h => h)
end Go.Proofs.BL
end

section
namespace Go.Proofs.Peel

def strip {α : Type} (P : Program) : Sem α → Sem α
  | .program k => strip P (k P)
  | .mark _ k => strip P k
  | s => s
theorem strip_run {α : Type} (P : Program) (s : Sem α) (w : World) : (strip P s).run P w = s.run P w := by
  induction s generalizing w with
  | program k ih => simp only [strip, Sem.run]; exact ih _ _
  | mark m k ih => simp only [strip, Sem.run]; exact ih _
  | _ => rfl
def headLoad {α : Type} (P : Program) (s : Sem α) : Option Addr := match strip P s with | .load _ a _ => some a | _ => none
def afterLoad {α : Type} (P : Program) (s : Sem α) (v : Value) : Sem α := match strip P s with | .load _ _ k => k v | t => t
theorem peel_load {α : Type} {P : Program} {s : Sem α} {a : Addr} {v : Value} {w : World} (h : headLoad P s = some a) (hc : w.cell? a = some v) : s.run P w = (afterLoad P s v).run P w := by
  rw [← strip_run P s w]
  unfold headLoad at h
  unfold afterLoad
  generalize strip P s = t at h ⊢
  cases t <;> simp at h
  subst h
  simp only [Sem.run, hc]
def headStore {α : Type} (P : Program) (s : Sem α) : Option (Addr × Value) := match strip P s with | .store _ a v _ => some (a, v) | _ => none
def afterStore {α : Type} (P : Program) (s : Sem α) : Sem α := match strip P s with | .store _ _ _ k => k | t => t
theorem peel_store {α : Type} {P : Program} {s : Sem α} {a : Addr} {v o : Value} {w : World} (h : headStore P s = some (a, v)) (h1 : v.oneCell' = true) (hc : w.cell? a = some o) (hf : w.frozen? a = false) :
    s.run P w = (afterStore P s).run P (w.setCell a v) := by
  rw [← strip_run P s w]
  unfold headStore at h
  unfold afterStore
  generalize strip P s = t at h ⊢
  cases t <;> simp at h
  obtain ⟨e1, e2⟩ := h
  subst e1
  rename_i m v' k
  rw [← e2] at h1 ⊢
  cases v' <;> simp [Value.oneCell'] at h1 <;> simp [Sem.run, hc, hf]
end Go.Proofs.Peel
end

section
namespace Go.Proofs.YtigffdmpofcdgaaGreatDoor
open Go.Proofs.Peel Go.RowKit Go.Extern.Stop Go.Stop Go.Extern
set_option maxRecDepth 100000

inductive FK where
  | num
  | at_
  | in_
  | bnd
def FK.t1 : FK → TypeId
  | .num => 98
  | .at_ => 113
  | .in_ => 140
  | .bnd => 134
def FK.ix : FK → Nat
  | .num => 0
  | .at_ => 1
  | .in_ => 2
  | .bnd => 3
def FK.same (a b : FK) : Bool := a.ix == b.ix
/-- What errors.As is asked for. -/
inductive FT where
  | num
  | at_
def FT.t2 : FT → TypeId
  | .num => 100
  | .at_ => 118
def FT.fk : FT → FK
  | .num => .num
  | .at_ => .at_
abbrev hnd (t : Nat) : Value := .agg #[.pointer (some ⟨2, t, none⟩)]
abbrev rty (t : Nat) : Value := .iface 145 (hnd t)
abbrev vlu (t : Nat) (a : Nat) : Value := .agg #[.pointer (some ⟨2, t, none⟩), .pointer (some ⟨a, 0, none⟩), .int .u64 150]
abbrev vla (t : Nat) (a : Addr) : Value := .agg #[.pointer (some ⟨2, t, none⟩), .pointer (some a), .int .u64 406]
theorem call71 (k : FT) (p : Option Addr) (w : World) : (callFunc 63 #[.iface k.t2 (.pointer p)]).run Tryz.prog w = .ok (.value (vlu k.t2 w.heap.size)) (w.alloc (.cells #[.pointer p] k.t2)) := by cases k <;> kernel_rfl
theorem call71e (k : FK) (p : Option Addr) (w : World) : (callFunc 63 #[.iface k.t1 (.pointer p)]).run Tryz.prog w = .ok (.value (vlu k.t1 w.heap.size)) (w.alloc (.cells #[.pointer p] k.t1)) := by cases k <;> kernel_rfl
theorem call72 (k : FT) (p : Nat) (w : World) : (callFunc 64 #[vlu k.t2 p]).run Tryz.prog w = .ok (.value (rty k.t2)) w := by cases k <;> kernel_rfl
theorem mKind2 (k : FT) (w : World) : (Go.method 292 145 (hnd k.t2) "Kind").run Tryz.prog w = .ok (103, .pointer (some ⟨2, k.t2, none⟩)) w := by cases k <;> kernel_rfl
theorem mKind1 (k : FK) (w : World) : (Go.method 292 145 (hnd k.t1) "Kind").run Tryz.prog w = .ok (103, .pointer (some ⟨2, k.t1, none⟩)) w := by cases k <;> kernel_rfl
theorem call91 (k : FT) (w : World) : (callFunc 103 #[.pointer (some ⟨2, k.t2, none⟩)]).run Tryz.prog w = .ok (.value (.int .u8 22)) w := by cases k <;> kernel_rfl
theorem call91e (k : FK) (w : World) : (callFunc 103 #[.pointer (some ⟨2, k.t1, none⟩)]).run Tryz.prog w = .ok (.value (.int .u8 22)) w := by cases k <;> kernel_rfl
theorem mElem (k : FT) (w : World) : (Go.method 292 145 (hnd k.t2) "Elem").run Tryz.prog w = .ok (120, hnd k.t2) w := by cases k <;> kernel_rfl
theorem call106 (k : FT) (w : World) : (callFunc 120 #[hnd k.t2]).run Tryz.prog w = .ok (.value (rty k.fk.t1)) w := by cases k <;> kernel_rfl
theorem mImpl (k : FK) (w : World) : (Go.method 292 145 (hnd k.t1) "Implements").run Tryz.prog w = .ok (121, hnd k.t1) w := by cases k <;> kernel_rfl
theorem call107 (k : FK) (w : World) : (callFunc 121 #[hnd k.t1, rty 73]).run Tryz.prog w = .ok (.value (.bool true)) w := by cases k <;> kernel_rfl
theorem call63 (k : FK) (v : Value) (w : World) : (callFunc 75 #[.iface k.t1 v]).run Tryz.prog w = .ok (.value (rty k.t1)) w := by cases k <;> kernel_rfl
theorem mAssign (k : FK) (w : World) : (Go.method 292 145 (hnd k.t1) "AssignableTo").run Tryz.prog w = .ok (118, hnd k.t1) w := by cases k <;> kernel_rfl
theorem call104 (j k : FK) (w : World) : (callFunc 118 #[hnd j.t1, rty k.t1]).run Tryz.prog w = .ok (.value (.bool (j.same k))) w := by cases k <;> cases j <;> kernel_rfl
theorem call73 (k : FT) (a : Nat) (p : Addr) (w : World) (h : w.cell? ⟨a, 0, none⟩ = some (.pointer (some p))) : (callFunc 65 #[vlu k.t2 a]).run Tryz.prog w = .ok (.value (.bool false)) w := by
  rw [peel_load (a := ⟨a, 0, none⟩) (by cases k <;> kernel_rfl) h]
  cases k <;> kernel_rfl
theorem call75 (k : FT) (a : Nat) (p : Addr) (w : World) (h : w.cell? ⟨a, 0, none⟩ = some (.pointer (some p))) : (callFunc 76 #[vlu k.t2 a]).run Tryz.prog w = .ok (.value (vla k.fk.t1 p)) w := by
  rw [peel_load (a := ⟨a, 0, none⟩) (by cases k <;> kernel_rfl) h]
  cases k <;> kernel_rfl
theorem call76 (k : FK) (a : Addr) (b : Nat) (p : Addr) (w : World) (o : Value) (h : w.cell? ⟨b, 0, none⟩ = some (.pointer (some p))) (ha : w.cell? a = some o) (hf : w.frozen? a = false) :
    (callFunc 77 #[vla k.t1 a, vlu k.t1 b]).run Tryz.prog w = .ok (.value (.tuple #[])) (w.setCell a (.pointer (some p))) := by
  rw [peel_load (a := ⟨b, 0, none⟩) (by cases k <;> kernel_rfl) h, peel_store (a := a) (v := .pointer (some p)) (by cases k <;> kernel_rfl) rfl ha hf]
  cases k <;> kernel_rfl
theorem noAs (k : FK) (v : Value) (xT : TypeId) (w : World) : (Instr.typeAssert (.iface k.t1 v) xT 150 true).run Tryz.prog w = .ok (.tuple #[.nilIface, .bool false]) w := by
  cases k <;> exact run_typeAssert_lacksB Tryz.underlying150 (by kernel_rfl) (by kernel_rfl) v xT w
theorem noUnwraps (k : FK) (v : Value) (xT : TypeId) (w : World) : (Instr.typeAssert (.iface k.t1 v) xT 155 true).run Tryz.prog w = .ok (.tuple #[.nilIface, .bool false]) w := by
  cases k <;> exact run_typeAssert_lacksB Tryz.underlying155 (by kernel_rfl) (by kernel_rfl) v xT w
theorem noUnwrap (v : Value) (xT : TypeId) (w : World) : (Instr.typeAssert (.iface (FK.num).t1 v) xT 153 true).run Tryz.prog w = .ok (.tuple #[.nilIface, .bool false]) w :=
  run_typeAssert_lacksB Tryz.underlying153 (by kernel_rfl) (by kernel_rfl) v xT w
theorem hasUnwrap (k : FK) (hk : k ≠ .num) (v : Value) (xT : TypeId) (w : World) : (Instr.typeAssert (.iface k.t1 v) xT 153 true).run Tryz.prog w = .ok (.tuple #[.iface k.t1 v, .bool true]) w := by
  cases k <;> first | exact absurd rfl hk | exact run_typeAssert_hasB Tryz.underlying153 (by kernel_rfl) v xT w
theorem mUnwrap (k : FK) (hk : k ≠ .num) (b : Nat) (t : TypeId) (u : Value) (w : World) (h : w.cell? ⟨b, 0, none⟩ = some (.iface t u)) : (Go.method 292 k.t1 (.pointer (some ⟨b, 0, none⟩)) "Unwrap").run Tryz.prog w = .ok (111, .agg #[.iface t u]) w := by
  cases k
  · exact absurd rfl hk
  all_goals
    rw [peel_load (a := ⟨b, 0, none⟩) (by kernel_rfl) h]
    kernel_rfl
theorem unwrap97 (t : TypeId) (u : Value) (w : World) : Calls Tryz.prog 111 #[.agg #[.iface t u]] w fun e w' => e = .returned (.iface t u) ∧ Below w.heap.size w w' := by
  go_enter Tryz.func111, Tryz.ntmps111
  go_wp2
  go_ret
  exact ⟨rfl, (Below.refl _ _).alloc (Nat.le_refl _) _⟩
end Go.Proofs.YtigffdmpofcdgaaGreatDoor
end

section
namespace Go.Proofs.YtigffdmpofcdgaaGreatDoor
open Go.Proofs.BL Go.Proofs.Peel Go.RowKit Go.Extern.Stop Go.Stop Go.Extern
set_option maxRecDepth 100000

inductive Lk where
  | num (e : Int)
  | at_ (p : Int)
  | in_ (s : ByteArray)
  | bnd (l g : Int)
def Lk.kind : Lk → FK
  | .num _ => .num
  | .at_ _ => .at_
  | .in_ _ => .in_
  | .bnd _ _ => .bnd
def Lk.cells (u : Value) : Lk → Array Value
  | .num e => #[.int .i64 e]
  | .at_ p => #[u, .int .i64 p]
  | .in_ s => #[u, .string s]
  | .bnd l g => #[u, .int .i64 l, .int .i64 g]
def FK.t0 : FK → TypeId
  | .num => 102
  | .at_ => 117
  | .in_ => 142
  | .bnd => 136
def isErrT (t : TypeId) : Bool := (t == 102)
  || (t == 117)
  || (t == 142)
  || (t == 136)
theorem t0_err (k : FK) : isErrT k.t0 = true := by cases k <;> rfl

/-- The interface value v is an error whose chain is c. -/
def Chn (w : World) : Value → List Lk → Prop
  | v, [] => v = .nilIface
  | v, x :: r => ∃ b u, v = .iface x.kind.t1 (.pointer (some ⟨b, 0, none⟩)) ∧ Blk w b (x.cells u) x.kind.t0 ∧ Chn w u r ∧ (x.kind = .num ↔ r = [])

theorem Chn.fr {S : Nat → Prop} {w w' : World} (hf : Fr S w w') (hS : ∀ k cs t f, S k → w.heap[k]? = some (.cells cs t f) → isErrT t = false) : ∀ {c : List Lk} {v : Value}, Chn w v c → Chn w' v c
  | [], _, h => h
  | x :: r, v, ⟨b, u, e, hb, hc, hn⟩ => ⟨b, u, e, hb.fr hf (fun hs => by have := hS b _ _ _ hs hb; rw [t0_err] at this; cases this), hc.fr hf hS, hn⟩
theorem Chn.below {w w' : World} (hf : Below w.heap.size w w') {c : List Lk} {v : Value} (h : Chn w v c) : Chn w' v c :=
  h.fr (S := none_) (Fr.of_below hf) (fun _ _ _ _ h => h.elim)

/-- From the first link of a kind on. -/
def upto (k : FK) : List Lk → List Lk
  | [] => []
  | x :: r => if x.kind.same k then x :: r else upto k r
theorem same_iff (j k : FK) : j.same k = true ↔ j = k := by cases j <;> cases k <;> simp [FK.same, FK.ix]

theorem upto_head {k : FK} : ∀ {c : List Lk} {x : Lk} {r : List Lk}, upto k c = x :: r → x.kind.same k = true
  | [], _, _, h => by cases h
  | y :: c, x, r, h => by
    unfold upto at h
    split at h
    · rename_i hy
      injection h with h1 _
      rw [← h1]
      exact hy
    · exact upto_head h
/-- What errors.As leaves: the found one's pointer in the target's block, or nothing changed. -/
def AsPost (k : FK) (a : Nat) (w : World) (c : List Lk) (e : Ending) (w' : World) : Prop :=
  (upto k c = [] → e = .returned (.bool false) ∧ Below w.heap.size w w') ∧
  (upto k c ≠ [] → e = .returned (.bool true) ∧ Fr (only a) w w' ∧ ∃ p, Blk w' a #[.pointer (some ⟨p, 0, none⟩)] k.t1 ∧ Chn w' (.iface k.t1 (.pointer (some ⟨p, 0, none⟩))) (upto k c))

theorem as_found {c : List Lk} {o : Value} {a b : Nat} {w wr : World} {x : Lk} {r : List Lk} (hs : x.kind.same x.kind = true) (hu : upto x.kind (x :: r) = upto x.kind c)
    (hc : Chn w (.iface x.kind.t1 (.pointer (some ⟨b, 0, none⟩))) (x :: r)) (hb : Below w.heap.size w wr) (ha : Blk wr a #[o] x.kind.t1) :
    AsPost x.kind a w c (.returned (.bool true)) ((wr.alloc (.cells #[.pointer (some ⟨b, 0, none⟩)] x.kind.t1)).setCell ⟨a, 0, none⟩ (.pointer (some ⟨b, 0, none⟩))) := by
  have e : upto x.kind c = x :: r := by rw [← hu]; simp [upto, hs]
  have hf : Fr (only a) w ((wr.alloc (.cells #[.pointer (some ⟨b, 0, none⟩)] x.kind.t1)).setCell ⟨a, 0, none⟩ (.pointer (some ⟨b, 0, none⟩))) :=
    ((Fr.of_below hb).alloc _).setCell (Or.inr (show only a a from rfl)) _
  have hf2 : Fr (only a) wr ((wr.alloc (.cells #[.pointer (some ⟨b, 0, none⟩)] x.kind.t1)).setCell ⟨a, 0, none⟩ (.pointer (some ⟨b, 0, none⟩))) :=
    ((Fr.refl _ _).alloc _).setCell (Or.inr (show only a a from rfl)) _
  refine ⟨fun h => absurd h (by rw [e]; exact List.cons_ne_nil _ _), fun _ => ⟨rfl, hf, b, (ha.alloc _).set 0 _, by
    rw [e]
    refine (hc.below hb).fr hf2 (fun k cs t f hk hh => ?_)
    cases hk
    unfold Blk at ha
    rw [ha] at hh
    injection hh with hh
    injection hh with _ e2 _
    rw [← e2]
    cases x <;> rfl⟩⟩
theorem as_lost {k : FK} {c : List Lk} {a : Nat} {w wr : World} {n : Int} (hs : ¬ (Lk.num n).kind.same k = true) (hu : upto k [Lk.num n] = upto k c) (hb : Below w.heap.size w wr) : AsPost k a w c (.returned (.bool false)) wr := by
  have e : upto k c = [] := by rw [← hu]; simp [upto, hs]
  exact ⟨fun _ => ⟨rfl, hb⟩, fun h => absurd e h⟩

set_option maxHeartbeats 1000000 in
theorem eas (k : FT) (q : FK) (hq : k.fk = q) (c : List Lk) (v o : Value) (a d : Nat) (w : World) (hc : Chn w v c) (hne : c ≠ [])
    (hd : w.cell? ⟨d, 0, none⟩ = some (.pointer (some ⟨a, 0, none⟩))) (ha : Blk w a #[o] q.t1) :
    Calls Tryz.prog 66 #[v, .iface k.t2 (.pointer (some ⟨a, 0, none⟩)), vlu k.t2 d, rty q.t1] w (AsPost q a w c) := by
  have h63 := call63
  have hmA := mAssign
  have h104 := call104
  have h71 := call71e
  have h75 := call75 k
  rw [hq] at h75
  clear hq
  have nA := noAs
  have nU := noUnwraps
  have nN := noUnwrap
  go_enter Tryz.func66, Tryz.ntmps66
  go_wp2
  go_loopg [0] (c.length) (fun n s wr => ∃ c', Chn w s c' ∧ c' ≠ [] ∧ upto q c' = upto q c ∧ n = c'.length ∧ Below (w.heap.size + 1) (w.alloc (.cells #[.pointer (some ⟨2, k.t2, none⟩), .pointer (some ⟨d, 0, none⟩), .int .u64 150] 122)) wr)
  case atStart => exact ⟨c, hc, hne, rfl, rfl, Below.refl _ _⟩
  case round =>
    obtain ⟨c', hc', hne', hup, rfl, hb⟩ := hrel
    have hw0 : Below w.heap.size w wr := (Below.refl _ _).alloc (Nat.le_refl _) _ |>.trans (hb.mono (Nat.le_succ _))
    have hbox := (Blk.new w #[.pointer (some ⟨2, k.t2, none⟩), .pointer (some ⟨d, 0, none⟩), .int .u64 150] 122)
    have hbox' : Blk wr w.heap.size #[.pointer (some ⟨2, k.t2, none⟩), .pointer (some ⟨d, 0, none⟩), .int .u64 150] 122 := (hb.block _ (Nat.lt_succ_self _)).trans hbox
    have g0 : wr.cell? ⟨w.heap.size, 0, none⟩ = some (.pointer (some ⟨2, k.t2, none⟩)) := hbox'.at_ 0 rfl
    have g1 : wr.cell? ⟨w.heap.size, 1, none⟩ = some (.pointer (some ⟨d, 0, none⟩)) := hbox'.at_ 1 rfl
    have g2 : wr.cell? ⟨w.heap.size, 2, none⟩ = some (.int .u64 150) := hbox'.at_ 2 rfl
    have gd : wr.cell? ⟨d, 0, none⟩ = some (.pointer (some ⟨a, 0, none⟩)) := (hw0.cell (World.block_lt_of_cell? w _ hd)).trans hd
    have gA := ha.below hw0
    have ga : wr.cell? ⟨a, 0, none⟩ = some o := gA.at_ 0 rfl
    have gf := gA.free 0
    have HW := Lib.hid hw0
    have HU := Lib.hid hup
    have HB := Lib.hid hb
    have HGA := Lib.hid gA
    have HC := Lib.hid hc
    clear hw0 hup hb gA hbox hbox' ha hd hc hne
    cases c' with
    | nil => exact absurd rfl hne'
    | cons x r =>
      have HC' := Lib.hid hc'
      obtain ⟨b, u, rfl, hx, hr, hn⟩ := hc'
      clear hne'
      by_cases hs : x.kind.same q = true
      · have hk := (same_iff _ _).1 hs
        subst hk
        have HX := Lib.hid hx
        have HR := Lib.hid hr
        have HN := Lib.hid hn
        have h76 := call76 x.kind ⟨a, 0, none⟩ wr.heap.size ⟨b, 0, none⟩ (wr.alloc (.cells #[.pointer (some ⟨b, 0, none⟩)] x.kind.t1)) o ((Blk.new _ _ _).at_ 0 rfl) ((HGA.out.alloc _).at_ 0 rfl) ((HGA.out.alloc _).free 0)
        clear hx hr hn
        go_wp2
        go_ret
        refine as_found (o := o) (hs := hs) (hu := HU.out) (hc := HC'.out) (hb := HW.out) (ha := HGA.out)
      · have HX := Lib.hid hx
        have HN := Lib.hid hn
        cases r with
        | nil =>
          have hk : x.kind = .num := HN.out.2 rfl
          have HR := Lib.hid hr
          cases x <;> simp [Lk.kind] at hk
          simp only [Lk.kind] at *
          clear hx hr hn
          go_wp2
          go_ret
          exact as_lost (hu := HU.out) (hs := hs) (hb := HW.out)
        | cons y r =>
          have hk : x.kind ≠ .num := fun e => by have := HN.out.1 e; cases this
          have HR := Lib.hid hr
          obtain ⟨b', u', rfl, _⟩ := hr
          have gx : wr.cell? ⟨b, 0, none⟩ = some (.iface y.kind.t1 (.pointer (some ⟨b', 0, none⟩))) := (hx.below HW.out).at_ 0 (by cases x <;> first | rfl | exact absurd rfl hk)
          clear hx hn
          have hU := hasUnwrap x.kind hk
          have mU := mUnwrap x.kind hk b _ _ wr gx
          go_wp2_with (go_at_call 111; refine (unwrap97 _ _ _).mono ?_; rintro e w2 ⟨rfl, hb2⟩)
          go_roundg (y :: r).length
          case measure => exact Nat.lt_succ_self _
          case rel => exact ⟨y :: r, HR.out, List.cons_ne_nil _ _, by rw [← HU.out]; simp [upto, hs], rfl, HB.out.trans (hb2.mono (by have := HB.out.size; simpa using this))⟩
theorem AsPost.after {k : FK} {a : Nat} {w w1 : World} {c : List Lk} {e : Ending} {w' : World} (h : AsPost k a w1 c e w') (hb : Below w.heap.size w w1) : AsPost k a w c e w' :=
  ⟨fun hu => ⟨(h.1 hu).1, below_then hb (h.1 hu).2⟩, fun hu => ⟨(h.2 hu).1, (Fr.of_below hb).trans (h.2 hu).2.1 (fun _ _ h => h), (h.2 hu).2.2⟩⟩

/-- The library's own variable errors.errorType. -/
def ErrT (w : World) : Prop := w.cell? ⟨0, 0, none⟩ = some (rty 73)

set_option maxHeartbeats 1000000 in
theorem eAs (k : FT) (q : FK) (hq : k.fk = q) (c : List Lk) (v o : Value) (a : Nat) (w : World) (hE : ErrT w) (hc : Chn w v c) (ha : Blk w a #[o] q.t1) :
    Calls Tryz.prog 55 #[v, .iface k.t2 (.pointer (some ⟨a, 0, none⟩))] w (AsPost q a w c) := by
  cases c with
  | nil =>
    obtain rfl : v = .nilIface := hc
    go_enter Tryz.func55, Tryz.ntmps55
    go_wp2
    go_ret
    exact ⟨fun _ => ⟨rfl, Below.refl _ _⟩, fun h => absurd rfl h⟩
  | cons x r =>
    have HC := Lib.hid hc
    obtain ⟨b, u, rfl, _⟩ := hc
    have hE' : w.cell? ⟨0, 0, none⟩ = some (rty 73) := hE
    have hlt := World.block_lt_of_cell? w _ hE'
    have h71 := call71
    have h72 := call72
    have hm2 := mKind2
    have hm1 := mKind1
    have h91 := call91
    have h91e := call91e
    have hmE := mElem
    have h106 := call106 k
    rw [hq] at h106
    have hmI := mImpl
    have h107 := call107
    have h73 := call73 k w.heap.size ⟨a, 0, none⟩ ((w.alloc (.cells #[.pointer (some ⟨a, 0, none⟩)] k.t2)).alloc (.cells #[.pointer (some ⟨2, k.t2, none⟩), .pointer (some ⟨w.heap.size, 0, none⟩), .int .u64 150] 122)) (((Blk.new _ _ _).alloc _).at_ 0 rfl)
    have hb1 : Below w.heap.size w ((w.alloc (.cells #[.pointer (some ⟨a, 0, none⟩)] k.t2)).alloc (.cells #[.pointer (some ⟨2, k.t2, none⟩), .pointer (some ⟨w.heap.size, 0, none⟩), .int .u64 150] 122)) :=
      ((Below.refl _ _).alloc (Nat.le_refl _) _).alloc (by simp) _
    have H74 := Lib.hid (eas k q hq (x :: r) _ o a w.heap.size _ (HC.out.below hb1) (List.cons_ne_nil _ _) (((Blk.new _ _ _).alloc _).at_ 0 rfl) (ha.below hb1))
    have HB := Lib.hid hb1
    clear ha hb1
    go_enter Tryz.func55, Tryz.ntmps55
    go_wp2_with fail
    refine H74.out.mono ?_
    rintro e w' hp
    have HP := Lib.hid (hp.after HB.out)
    by_cases hu : upto q (x :: r) = []
    · obtain ⟨rfl, _⟩ := hp.1 hu
      clear hp hu
      go_wp2
      go_ret
      exact HP.out
    · obtain ⟨rfl, _⟩ := hp.2 hu
      clear hp hu
      go_wp2
      go_ret
      exact HP.out
end Go.Proofs.YtigffdmpofcdgaaGreatDoor
end

section
set_option linter.unusedVariables false
namespace Go.Proofs.BL
open Go.RowKit

/-- From address A on stand these rows, sz cells each. -/
def RowsAt (w : World) (sz : Nat) (A : Option Addr) (rows : List (List Value)) : Prop :=
  ∀ i r, rows[i]? = some r → ∃ b o, A = some ⟨b, o, none⟩ ∧ ∀ j u, r[j]? = some u → w.cell? ⟨b, o + i * sz + j, none⟩ = some u
theorem RowsAt.nil (w : World) (sz : Nat) (A : Option Addr) : RowsAt w sz A [] := fun i r h => by simp at h
theorem RowsAt.below {w w' : World} {sz : Nat} {A : Option Addr} {rows : List (List Value)} (h : RowsAt w sz A rows) (hb : Below w.heap.size w w') : RowsAt w' sz A rows := fun i r hi => by
  obtain ⟨b, o, e, hc⟩ := h i r hi
  exact ⟨b, o, e, fun j u hj => (hb.cell (World.block_lt_of_cell? w _ (hc j u hj))).trans (hc j u hj)⟩
theorem RowsAt.fr {S : Nat → Prop} {w w' : World} {sz : Nat} {A : Option Addr} {rows : List (List Value)} (h : RowsAt w sz A rows) (hf : Fr S w w') (hS : ∀ a, A = some a → ¬ S a.block) : RowsAt w' sz A rows := fun i r hi => by
  obtain ⟨b, o, e, hc⟩ := h i r hi
  exact ⟨b, o, e, fun j u hj => (World.cell?_of_block (w := w) (hf.block b (World.block_lt_of_cell? w _ (hc j u hj)) (hS _ e))).trans (hc j u hj)⟩
theorem RowsAt.take {w : World} {sz : Nat} {A : Option Addr} {rows : List (List Value)} (h : RowsAt w sz A rows) (n : Nat) : RowsAt w sz A (rows.take n) := fun i r hi => by
  rw [List.getElem?_take] at hi
  split at hi
  · exact h i r hi
  · cases hi
/-- A slice value that reads as these rows. -/
def SlV (w : World) (sz : Nat) (v : Value) (rows : List (List Value)) : Prop :=
  ∃ A c, v = .slice A rows.length c ∧ rows.length ≤ c ∧ RowsAt w sz A rows
theorem SlV.nil (w : World) (sz : Nat) : SlV w sz (.slice none 0 0) [] := ⟨none, 0, rfl, Nat.le_refl _, RowsAt.nil _ _ _⟩
theorem SlV.below {w w' : World} {sz : Nat} {v : Value} {rows : List (List Value)} (h : SlV w sz v rows) (hb : Below w.heap.size w w') : SlV w' sz v rows := by
  obtain ⟨A, c, e, hl, hr⟩ := h
  exact ⟨A, c, e, hl, hr.below hb⟩

theorem flat_get {rows : List (List Value)} {sz : Nat} (hs : ∀ r, r ∈ rows → r.length = sz) : ∀ {i : Nat} {r : List Value}, rows[i]? = some r → ∀ j u, r[j]? = some u → rows.flatten[i * sz + j]? = some u := by
  induction rows with
  | nil => intro i r h; simp at h
  | cons x xs ih =>
    intro i r h j u hj
    have hx : x.length = sz := hs x (by simp)
    have hjl : j < r.length := (List.getElem?_eq_some_iff.1 hj).1
    cases i with
    | zero =>
      simp at h
      subst h
      rw [List.flatten_cons, Nat.zero_mul, Nat.zero_add, List.getElem?_append_left hjl]
      exact hj
    | succ i =>
      simp at h
      rw [List.flatten_cons, List.getElem?_append_right (by rw [hx, Nat.succ_mul]; omega), hx]
      have : (i + 1) * sz + j - sz = i * sz + j := by rw [Nat.succ_mul]; omega
      rw [this]
      exact ih (fun r hr => hs r (by simp [hr])) h j u hj

/-- What a call owns: a row of its own from block 'base' on, or nil. -/
def Own (w : World) (base : Nat) (E : TypeId) (sz : Nat) (v : Value) (rows : List (List Value)) : Prop :=
  w.ownsRow base E sz v rows.length rows.flatten ∧ ∀ r, r ∈ rows → r.length = sz
theorem Own.nil (w : World) (base : Nat) (E : TypeId) (sz : Nat) : Own w base E sz (.slice none 0 0) [] := ⟨World.ownsRow_nil _ _ _ _, fun _ h => by simp at h⟩
theorem Own.slv {w : World} {base : Nat} {E : TypeId} {sz : Nat} {v : Value} {rows : List (List Value)} (h : Own w base E sz v rows) : SlV w sz v rows := by
  rcases h.1.2 with ⟨hv, hn⟩ | ⟨g, cap, cur, hv, _, _, hc, _⟩
  · obtain rfl : rows = [] := List.eq_nil_of_length_eq_zero hn
    exact hv ▸ SlV.nil w sz
  · refine ⟨_, cap, hv, hc, fun i r hi => ⟨g, 0, rfl, fun j u hj => ?_⟩⟩
    have hg : v.ownBlock = some g := by rw [hv]; rfl
    have := h.1.cells hg (i * sz + j) u (flat_get h.2 hi j u hj)
    rwa [show (⟨g, 0, none⟩ : Addr).add (i * sz + j) = ⟨g, 0 + i * sz + j, none⟩ from by unfold Addr.add; split <;> simp_all [Nat.zero_add]] at this
theorem Own.below {w w' : World} {base : Nat} {E : TypeId} {sz : Nat} {v : Value} {rows : List (List Value)} (h : Own w base E sz v rows) (hb : Below w.heap.size w w') : Own w' base E sz v rows :=
  ⟨h.1.kept (row := none) ⟨hb.os, hb.tape, hb.output, hb.size, fun i hi _ => hb.block i hi⟩ (by cases v.ownBlock <;> simp), h.2⟩
theorem Own.alloc {w : World} {base : Nat} {E : TypeId} {sz : Nat} {v : Value} {rows : List (List Value)} (h : Own w base E sz v rows) (o : Obj) : Own (w.alloc o) base E sz v rows := h.below ((Below.refl _ _).alloc (Nat.le_refl _) o)
theorem Own.form {w : World} {base : Nat} {E : TypeId} {sz : Nat} {v : Value} {rows : List (List Value)} (h : Own w base E sz v rows) : ∃ A c, v = .slice A rows.length c ∧ rows.length ≤ c := by
  obtain ⟨A, c, e, hl, _⟩ := h.slv
  exact ⟨A, c, e, hl⟩

section
variable {P : Program} {ops : Array Oper} {rest : List Oper} {o : Oper} {a : Act} {Q : Exit → Act → World → Prop}
/-- append(v, x), behind 'at_builtin': the variadic's block stands last. -/
theorem append1 {W : World} (base : Nat) (E : TypeId) (sz bytes : Nat) (z : Value) (hgd : o.guard = none) (s x : Operand) (t : TypeId)
    (ho : o.op = .call { callee := .builtin .append, args := #[s, x], argTypes := #[t, t] })
    (ht : P.underlying t = some (.slice E)) (hinfo : (P.info? E).map (fun i => (i.zero, i.size, i.bytes)) = some (some z, sz, bytes)) (hz : z.cells.size = sz) (hs0 : 0 < sz) (hb0 : 0 < bytes)
    (v : Value) (rows : List (List Value)) (ys : List Value) (hs : a.eval s = v) (m : Nat) (hx : a.eval x = .slice (some ⟨m, 0, none⟩) 1 1) (hm : W.heap.size = m) (hys : ys.length = sz) (h1 : ∀ u ∈ ys, u.oneCell' = true)
    (HO : Own W base E sz v rows) (hbase : base ≤ W.heap.size) (hl : (rows.length + 1) * bytes ≤ 140737488355328)
    (h : ∀ v1 w1, Own w1 base E sz v1 (rows ++ [ys]) → Fr (fun k => v.ownBlock = some k) W w1 → wpList P ops Q rest (a.put o.dst v1) w1) :
    wpList P ops Q (o :: rest) a (W.alloc (.cells ys.toArray E)) := by
  subst hm
  obtain ⟨i0, hi, hzz⟩ := Option.map_eq_some_iff.1 hinfo
  simp only [Prod.mk.injEq] at hzz
  obtain ⟨hz0, hz1, hz2⟩ := hzz
  have hlen : rows.length + 1 ≤ 140737488355328 := Nat.le_trans (Nat.le_mul_of_pos_right _ hb0) hl
  refine wpList_append_own_at (W.alloc (.cells ys.toArray E)) hgd s x t ho base E i0 z sz bytes ht hi hz0 hz1 hz2 hz hs0 v rows.length rows.flatten hs (HO.alloc _).1 ⟨W.heap.size, 0, none⟩ 1 1 ys hx (by rw [hys]; simp)
    (by simpa using World.news_of_block (cs := ys.toArray) (t := E) (fr := (0, 0)) (heap_alloc_new W (.cells ys.toArray E))) h1 (by simp only [maxLen]; omega) hl (by simp; omega) ?_
  intro v1 w1 hown hg _ _
  refine h v1 w1 ⟨by simpa using hown, fun r hr => ?_⟩ ?_
  · rcases List.mem_append.1 hr with hr | hr
    · exact HO.2 r hr
    · simp at hr; rw [hr]; exact hys
  · have hW : Fr (fun k => v.ownBlock = some k) W (W.alloc (.cells ys.toArray E)) := (Fr.refl _ _).alloc _
    exact hW.trans (T := fun k => v.ownBlock = some k) ⟨hg.os, hg.tape, hg.output, hg.size, fun k hk hn => hg.block k hk (fun e => hn e.symm)⟩ (fun _ _ h => h)
end
/-- A row owned from base on: what its append writes leaves all below base. -/
theorem Own.fr_below {W w1 : World} {base : Nat} {E : TypeId} {sz : Nat} {v : Value} {rows : List (List Value)} (h : Own W base E sz v rows) {w : World} (hw : Below base w W) (hs : base ≤ W.heap.size) (hf : Fr (fun k => v.ownBlock = some k) W w1) : Below base w w1 :=
  hw.trans ⟨hf.os, hf.tape, hf.output, hf.size, fun k hk => hf.block k (by omega) (fun e => by have := (h.1.lt k e).1; omega)⟩
/-- Beyond a block of one's own that may have been written. -/
theorem below_step {w wr w' : World} {a : Nat} (hb : Below w.heap.size w wr) (ha : w.heap.size ≤ a) (hf : Fr (only a) wr w') : Below w.heap.size w w' :=
  ((Fr.of_below (S := none_) hb).trans hf (fun i hi hS => by cases hS; omega)).below

theorem Own.fr {S : Nat → Prop} {w w' : World} {base : Nat} {E : TypeId} {sz : Nat} {v : Value} {rows : List (List Value)} (h : Own w base E sz v rows) (hf : Fr S w w') (hS : ∀ k, v.ownBlock = some k → ¬ S k) : Own w' base E sz v rows := by
  refine ⟨⟨h.1.1, ?_⟩, h.2⟩
  rcases h.1.2 with h1 | ⟨g, cap, cur, hv, hb, hh, r⟩
  · exact Or.inl h1
  · exact Or.inr ⟨g, cap, cur, hv, hb, (hf.block g (Array.getElem?_eq_some_iff.1 hh).1 (hS g (by rw [hv]; rfl))).trans hh, r⟩
theorem Own.type_ne {w : World} {base : Nat} {E : TypeId} {sz : Nat} {v : Value} {rows : List (List Value)} (h : Own w base E sz v rows) {b : Nat} {cs : Array Value} {t : TypeId} (hb : Blk w b cs t) (ht : E ≠ t) : ∀ k, v.ownBlock = some k → k ≠ b := by
  intro k hk e
  subst e
  rcases h.1.2 with ⟨h1, _⟩ | ⟨g, cap, cur, hv, _, hh, _⟩
  · rw [h1] at hk; simp [Value.ownBlock] at hk
  · have : g = k := by rw [hv] at hk; simpa [Value.ownBlock] using hk
    subst this
    unfold Blk at hb
    rw [hh] at hb
    injection hb with hb
    injection hb with _ e
    exact ht e
theorem Own.own_type {w : World} {base : Nat} {E : TypeId} {sz : Nat} {v : Value} {rows : List (List Value)} (h : Own w base E sz v rows) (k : Nat) (hk : v.ownBlock = some k) {cs : Array Value} {t : TypeId} {f : Nat × Nat} (hh : w.heap[k]? = some (.cells cs t f)) : t = E := by
  rcases h.1.2 with ⟨h1, _⟩ | ⟨g, cap, cur, hv, _, hg, _⟩
  · rw [h1] at hk; simp [Value.ownBlock] at hk
  · have : g = k := by rw [hv] at hk; simpa [Value.ownBlock] using hk
    subst this
    rw [hh] at hg
    injection hg with hg
    injection hg with _ e
end Go.Proofs.BL
end

section
set_option linter.unusedVariables false
namespace Go.Proofs.BL
open Go.RowKit

/-- From rows to the cells one behind the other. -/
theorem RowsAt.flat {w : World} {sz : Nat} (b o : Nat) (rows : List (List Value)) (h : RowsAt w sz (some ⟨b, o, none⟩) rows) (hs : ∀ r, r ∈ rows → r.length = sz) :
    ∀ j u, rows.flatten[j]? = some u → w.cell? ⟨b, o + j, none⟩ = some u := by
  induction rows generalizing o with
  | nil => intro j u h; simp at h
  | cons x xs ih =>
    intro j u hj
    have hx : x.length = sz := hs x (by simp)
    rw [List.flatten_cons] at hj
    by_cases hjx : j < x.length
    · rw [List.getElem?_append_left hjx] at hj
      obtain ⟨b', o', e, hc⟩ := h 0 x rfl
      injection e with e; injection e with e1 e2; subst e1 e2
      simpa using hc j u hj
    · rw [List.getElem?_append_right (by omega)] at hj
      have h' : RowsAt w sz (some ⟨b, o + sz, none⟩) xs := fun i r hi => by
        obtain ⟨b', o', e, hc⟩ := h (i + 1) r (by simpa using hi)
        injection e with e; injection e with e1 e2; subst e1 e2
        refine ⟨_, _, rfl, fun j u hj => ?_⟩
        have := hc j u hj
        rwa [show o + (i + 1) * sz + j = o + sz + i * sz + j from by rw [Nat.succ_mul]; omega] at this
      have := ih (o + sz) h' (fun r hr => hs r (by simp [hr])) (j - x.length) u hj
      rwa [hx, show o + sz + (j - sz) = o + j from by omega] at this

section
variable {P : Program} {ops : Array Oper} {rest : List Oper} {o : Oper} {a : Act} {Q : Exit → Act → World → Prop}
/-- append(v, u...), behind 'at_builtin'. -/
theorem appendN {W : World} (base : Nat) (E : TypeId) (sz bytes : Nat) (z : Value) (hgd : o.guard = none) (s x : Operand) (t : TypeId)
    (ho : o.op = .call { callee := .builtin .append, args := #[s, x], argTypes := #[t, t] })
    (ht : P.underlying t = some (.slice E)) (hinfo : (P.info? E).map (fun i => (i.zero, i.size, i.bytes)) = some (some z, sz, bytes)) (hz : z.cells.size = sz) (hs0 : 0 < sz) (hb0 : 0 < bytes)
    (v : Value) (rows ys : List (List Value)) (hs : a.eval s = v) (A : Option Addr) (n c : Nat) (hx : a.eval x = .slice A n c) (hn : n = ys.length) (hA : A = none → c = 0) (HS : RowsAt W sz A ys)
    (hys : ∀ r, r ∈ ys → r.length = sz) (h1 : ∀ r, r ∈ ys → ∀ u ∈ r, u.oneCell' = true)
    (HO : Own W base E sz v rows) (hbase : base ≤ W.heap.size) (hl : (rows.length + ys.length) * bytes ≤ 140737488355328)
    (h : ∀ v1 w1, Own w1 base E sz v1 (rows ++ ys) → Fr (fun k => v.ownBlock = some k) W w1 → wpList P ops Q rest (a.put o.dst v1) w1) :
    wpList P ops Q (o :: rest) a W := by
  subst hn
  obtain ⟨i0, hi, hzz⟩ := Option.map_eq_some_iff.1 hinfo
  simp only [Prod.mk.injEq] at hzz
  obtain ⟨hz0, hz1, hz2⟩ := hzz
  have hlen : rows.length + ys.length ≤ 140737488355328 := Nat.le_trans (Nat.le_mul_of_pos_right _ hb0) hl
  cases A with
  | none =>
    obtain rfl := hA rfl
    obtain rfl : ys = [] := by
      cases ys with
      | nil => rfl
      | cons y ys => obtain ⟨_, _, e, _⟩ := HS 0 y rfl; cases e
    refine wpList_append_own_none hgd s x t ho base E i0 sz ht hi v rows.length rows.flatten hs HO.1 hx ?_
    exact h v W (by simpa using HO) (Fr.refl _ _)
  | some ad =>
    have hfl : ys.flatten.length = ys.length * sz := by
      clear HS h hl hlen hx
      induction ys with
      | nil => simp
      | cons y ys ih => rw [List.flatten_cons, List.length_append, hys y (by simp), ih (fun r hr => hys r (by simp [hr])) (fun r hr => h1 r (by simp [hr])), List.length_cons, Nat.succ_mul]; omega
    have hnews : ∀ j u, ys.flatten[j]? = some u → W.cell? (ad.add j) = some u := by
      cases ys with
      | nil => intro j u hj; simp at hj
      | cons y ys' =>
        obtain ⟨b, o', e, _⟩ := HS 0 y rfl
        injection e with e; subst e
        intro j u hj
        have := HS.flat b o' _ hys j u hj
        rwa [show (⟨b, o', none⟩ : Addr).add j = ⟨b, o' + j, none⟩ from by unfold Addr.add; split <;> simp_all]
    refine wpList_append_own_at W hgd s x t ho base E i0 z sz bytes ht hi hz0 hz1 hz2 hz hs0 v rows.length rows.flatten hs HO.1 ad ys.length c ys.flatten hx hfl hnews
      (fun u hu => by obtain ⟨r, hr, hur⟩ := List.mem_flatten.1 hu; exact h1 r hr u hur) (by simp only [maxLen]; omega) hl hbase ?_
    intro v1 w1 hown hg _ _
    refine h v1 w1 ⟨by simpa using hown, fun r hr => ?_⟩ ⟨hg.os, hg.tape, hg.output, hg.size, fun k hk hn => hg.block k hk (fun e => hn e.symm)⟩
    rcases List.mem_append.1 hr with hr | hr
    · exact HO.2 r hr
    · exact hys r hr
end

/-- A byte's row, and a list of bytes'. -/
def enB (x : UInt8) : List Value := [.int .u8 x.toNat]
abbrev bys (l : List UInt8) : List (List Value) := l.map enB
theorem bys_len (l : List UInt8) : (bys l).length = l.length := by simp
theorem bys_one (l : List UInt8) : ∀ r, r ∈ bys l → r.length = 1 := fun r hr => by obtain ⟨x, _, rfl⟩ := List.mem_map.1 hr; rfl
theorem bys_cell (l : List UInt8) : ∀ r, r ∈ bys l → ∀ u ∈ r, u.oneCell' = true := fun r hr u hu => by obtain ⟨x, _, rfl⟩ := List.mem_map.1 hr; simp [enB] at hu; subst hu; rfl
theorem bys_flat (l : List UInt8) : (bys l).flatten = l.map fun x => Value.int .u8 x.toNat := by
  induction l with
  | nil => rfl
  | cons x l ih => rw [bys, List.map_cons, List.flatten_cons, ih]; rfl
theorem bys_app (l k : List UInt8) : bys l ++ bys k = bys (l ++ k) := List.map_append.symm
/-- A text's bytes. -/
def txt (s : ByteArray) : List UInt8 := s.data.toList
theorem txt_len (s : ByteArray) : (txt s).length = s.size := Array.length_toList
theorem txt_inj {s t : ByteArray} (h : txt s = txt t) : s = t := by
  cases s; cases t; exact congrArg ByteArray.mk (Array.toList_inj.1 h)
theorem txt_same {s t : ByteArray} : (s.toList == t.toList) = decide (s = t) := by
  by_cases h : s = t
  · rw [str_same h]; simp [h]
  · rw [str_diff h]; simp [h]
theorem strCells_txt (s : ByteArray) : Lib.strCells s = (bys (txt s)).flatten := by rw [bys_flat]; rfl

section
variable {P : Program} {ops : Array Oper} {rest : List Oper} {o : Oper} {a : Act} {Q : Exit → Act → World → Prop}
/-- append(v, s...), s a text. -/
theorem appendS {W : World} (base : Nat) (E : TypeId) (hgd : o.guard = none) (sl x : Operand) (t u : TypeId)
    (ho : o.op = .call { callee := .builtin .append, args := #[sl, x], argTypes := #[t, u] })
    (ht : P.underlying t = some (.slice E)) (hu : P.underlying u = some .string) (hinfo : (P.info? E).map (fun i => (i.zero, i.size, i.bytes)) = some (some (.int .u8 0), 1, 1))
    (v : Value) (l : List UInt8) (s : ByteArray) (hs : a.eval sl = v) (hx : a.eval x = .string s)
    (HO : Own W base E 1 v (bys l)) (hbase : base ≤ W.heap.size) (hl : l.length + s.size ≤ 140737488355328)
    (h : ∀ v1 w1, Own w1 base E 1 v1 (bys (l ++ txt s)) → Fr (fun k => v.ownBlock = some k) W w1 → wpList P ops Q rest (a.put o.dst v1) w1) :
    wpList P ops Q (o :: rest) a W := by
  obtain ⟨i0, hi, hzz⟩ := Option.map_eq_some_iff.1 hinfo
  simp only [Prod.mk.injEq] at hzz
  obtain ⟨hz0, hz1, hz2⟩ := hzz
  have hO := HO.1
  rw [bys_len] at hO
  refine Lib.wpList_append_own_string W hgd sl x t u ho base E i0 ht hu hi hz0 hz1 hz2 v l.length (bys l).flatten hs hO s hx (by simp only [maxLen]; omega) hl hbase ?_
  intro v1 w1 hown hg _
  refine h v1 w1 ⟨?_, bys_one _⟩ ⟨hg.os, hg.tape, hg.output, hg.size, fun k hk hn => hg.block k hk (fun e => hn e.symm)⟩
  rw [strCells_txt, ← List.flatten_append, bys_app] at hown
  rw [bys_len, List.length_append, txt_len]
  exact hown
end
/-- What []byte(s) leaves. -/
theorem bytesWorld_below (w : World) (e : TypeId) (s : ByteArray) : Below w.heap.size w (Lib.bytesWorld w e s) :=
  ⟨rfl, rfl, rfl, by rw [Lib.bytesWorld_size]; omega, fun k hk => Lib.bytesWorld_at_old w e s k hk⟩
theorem bytesWorld_rows (w : World) (e : TypeId) (s : ByteArray) : RowsAt (Lib.bytesWorld w e s) 1 (some ⟨w.heap.size, 0, none⟩) (bys (txt s)) := by
  intro i r hi
  refine ⟨_, _, rfl, fun j u hj => ?_⟩
  rw [List.getElem?_map] at hi
  obtain ⟨x, hx, rfl⟩ := Option.map_eq_some_iff.1 hi
  cases j with
  | succ j => simp [enB] at hj
  | zero =>
    simp [enB] at hj
    subst hj
    have hlt := (List.getElem?_eq_some_iff.1 hx).1
    rw [txt_len] at hlt
    rw [show 0 + i * 1 + 0 = i from by omega, Lib.bytesWorld_cell w e s i hlt, List.getD, show s.data.toList[i]? = some x from hx]
    rfl
/-- string(b). -/
theorem run_str {P : Program} (w : World) (src dst e : TypeId) (hs : P.underlying src = some (.slice e)) (he : P.underlying e = some (.int .u8)) (hd : P.underlying dst = some .string)
    (A : Option Addr) (n c : Nat) (l : List UInt8) (hn : n = l.length) (hr : RowsAt w 1 A (bys l)) : (convert src dst (.slice A n c)).run P w = .ok (.string ⟨l.toArray⟩) w := by
  subst hn
  cases A with
  | none =>
    obtain rfl : l = [] := by
      cases l with
      | nil => rfl
      | cons y ys => obtain ⟨_, _, e, _⟩ := hr 0 (enB y) rfl; cases e
    exact Lib.run_convert_nil_bytes w src dst e c hs he hd
  | some a =>
    refine run_convert_bytes_back w src dst e a c l hs he hd (fun j hj => ?_)
    obtain ⟨b, o, e, hc⟩ := hr j (enB l[j]) (by simp [hj])
    injection e with e
    subst e
    have := hc 0 _ rfl
    rwa [show o + j * 1 + 0 = o + j from by omega, show (⟨b, o + j, none⟩ : Addr) = (⟨b, o, none⟩ : Addr).add j from by unfold Addr.add; split <;> simp_all] at this
/-- A literal's row. -/
theorem Own.lit (w : World) (E : TypeId) (sz n : Nat) (rows : List (List Value)) (cs : Array Value) (base : Nat) (hb : base ≤ w.heap.size) (hn : n = rows.length) (hm : n ≤ maxLen) (hcs : cs.toList = rows.flatten) (hs : ∀ r, r ∈ rows → r.length = sz) (hc : cs.size = n * sz) :
    Own (w.alloc (.cells cs E)) base E sz (.slice (some ⟨w.heap.size, 0, none⟩) n n) rows := by
  subst hn
  refine ⟨?_, hs⟩
  have := World.ownsRow_lit (base := base) (e := E) (size := sz) w cs rows.length hb hm hc
  rwa [hcs] at this
theorem Own.slv' {w : World} {base : Nat} {E : TypeId} {sz : Nat} {v : Value} {rows : List (List Value)} (h : Own w base E sz v rows) : ∃ A c, v = .slice A rows.length c ∧ rows.length ≤ c ∧ (A = none → c = 0) ∧ RowsAt w sz A rows := by
  obtain ⟨A, c, e, hl, hr⟩ := h.slv
  refine ⟨A, c, e, hl, fun hA => ?_, hr⟩
  subst hA
  rcases h.1.2 with ⟨hv, _⟩ | ⟨g, cap, cur, hv, _⟩
  · rw [e] at hv; simpa using congrArg (fun | .slice _ _ c => c | _ => 0) hv
  · rw [e] at hv; simp at hv
end Go.Proofs.BL
end

section
set_option linter.unusedVariables false
namespace Go.Proofs.BL
open Go.RowKit
section
variable {P : Program} {ops : Array Oper} {rest : List Oper} {o : Oper} {a : Act} {Q : Exit → Act → World → Prop}
/-- append(v, x), behind 'at_builtin': the variadic's block stands last. -/
theorem append1L {W : World} (base : Nat) (E : TypeId) (sz bytes : Nat) (z : Value) (hgd : o.guard = none) (s x : Operand) (t : TypeId)
    (ho : o.op = .call { callee := .builtin .append, args := #[s, x], argTypes := #[t, t] })
    (ht : P.underlying t = some (.slice E)) (hinfo : (P.info? E).map (fun i => (i.zero, i.size, i.bytes)) = some (some z, sz, bytes)) (hz : z.cells.size = sz) (hs0 : 0 < sz) (hb0 : 0 < bytes)
    (v : Value) (rows : List (List Value)) (ys : List Value) (hs : a.eval s = v) (m : Nat) (hx : a.eval x = .slice (some ⟨m, 0, none⟩) 1 1) (hm : W.heap.size = m) (hys : ys.length = sz) (h1 : ∀ u ∈ ys, u.oneCell' = true)
    (HO : Own W base E sz v rows) (hbase : base ≤ W.heap.size) (hl : (rows.length + 1) * bytes ≤ 140737488355328)
    (h : ∀ v1 w1, Own w1 base E sz v1 (rows ++ [ys]) → Fr (fun k => v.ownBlock = some k) W w1 → (∀ k, v1.ownBlock = some k → v.ownBlock = some k ∨ W.heap.size ≤ k) → wpList P ops Q rest (a.put o.dst v1) w1) :
    wpList P ops Q (o :: rest) a (W.alloc (.cells ys.toArray E)) := by
  subst hm
  obtain ⟨i0, hi, hzz⟩ := Option.map_eq_some_iff.1 hinfo
  simp only [Prod.mk.injEq] at hzz
  obtain ⟨hz0, hz1, hz2⟩ := hzz
  have hlen : rows.length + 1 ≤ 140737488355328 := Nat.le_trans (Nat.le_mul_of_pos_right _ hb0) hl
  refine wpList_append_own_at (W.alloc (.cells ys.toArray E)) hgd s x t ho base E i0 z sz bytes ht hi hz0 hz1 hz2 hz hs0 v rows.length rows.flatten hs (HO.alloc _).1 ⟨W.heap.size, 0, none⟩ 1 1 ys hx (by rw [hys]; simp)
    (by simpa using World.news_of_block (cs := ys.toArray) (t := E) (fr := (0, 0)) (heap_alloc_new W (.cells ys.toArray E))) h1 (by simp only [maxLen]; omega) hl (by simp; omega) ?_
  intro v1 w1 hown hg _ hloc
  refine h v1 w1 ⟨by simpa using hown, fun r hr => ?_⟩ ?_ (fun k hk => by
    rcases hloc with e | e
    · exact .inl (e ▸ hk)
    · rw [hk] at e; injection e with e; simp at e; exact .inr (by omega))
  · rcases List.mem_append.1 hr with hr | hr
    · exact HO.2 r hr
    · simp at hr; rw [hr]; exact hys
  · have hW : Fr (fun k => v.ownBlock = some k) W (W.alloc (.cells ys.toArray E)) := (Fr.refl _ _).alloc _
    exact hW.trans (T := fun k => v.ownBlock = some k) ⟨hg.os, hg.tape, hg.output, hg.size, fun k hk hn => hg.block k hk (fun e => hn e.symm)⟩ (fun _ _ h => h)
/-- append(v, u...), behind 'at_builtin'. -/
theorem appendNL {W : World} (base : Nat) (E : TypeId) (sz bytes : Nat) (z : Value) (hgd : o.guard = none) (s x : Operand) (t : TypeId)
    (ho : o.op = .call { callee := .builtin .append, args := #[s, x], argTypes := #[t, t] })
    (ht : P.underlying t = some (.slice E)) (hinfo : (P.info? E).map (fun i => (i.zero, i.size, i.bytes)) = some (some z, sz, bytes)) (hz : z.cells.size = sz) (hs0 : 0 < sz) (hb0 : 0 < bytes)
    (v : Value) (rows ys : List (List Value)) (hs : a.eval s = v) (A : Option Addr) (n c : Nat) (hx : a.eval x = .slice A n c) (hn : n = ys.length) (hA : A = none → c = 0) (HS : RowsAt W sz A ys)
    (hys : ∀ r, r ∈ ys → r.length = sz) (h1 : ∀ r, r ∈ ys → ∀ u ∈ r, u.oneCell' = true)
    (HO : Own W base E sz v rows) (hbase : base ≤ W.heap.size) (hl : (rows.length + ys.length) * bytes ≤ 140737488355328)
    (h : ∀ v1 w1, Own w1 base E sz v1 (rows ++ ys) → Fr (fun k => v.ownBlock = some k) W w1 → (∀ k, v1.ownBlock = some k → v.ownBlock = some k ∨ W.heap.size ≤ k) → wpList P ops Q rest (a.put o.dst v1) w1) :
    wpList P ops Q (o :: rest) a W := by
  subst hn
  obtain ⟨i0, hi, hzz⟩ := Option.map_eq_some_iff.1 hinfo
  simp only [Prod.mk.injEq] at hzz
  obtain ⟨hz0, hz1, hz2⟩ := hzz
  have hlen : rows.length + ys.length ≤ 140737488355328 := Nat.le_trans (Nat.le_mul_of_pos_right _ hb0) hl
  cases A with
  | none =>
    obtain rfl := hA rfl
    obtain rfl : ys = [] := by
      cases ys with
      | nil => rfl
      | cons y ys => obtain ⟨_, _, e, _⟩ := HS 0 y rfl; cases e
    refine wpList_append_own_none hgd s x t ho base E i0 sz ht hi v rows.length rows.flatten hs HO.1 hx ?_
    exact h v W (by simpa using HO) (Fr.refl _ _) (fun k hk => .inl hk)
  | some ad =>
    have hfl : ys.flatten.length = ys.length * sz := by
      clear HS h hl hlen hx
      induction ys with
      | nil => simp
      | cons y ys ih => rw [List.flatten_cons, List.length_append, hys y (by simp), ih (fun r hr => hys r (by simp [hr])) (fun r hr => h1 r (by simp [hr])), List.length_cons, Nat.succ_mul]; omega
    have hnews : ∀ j u, ys.flatten[j]? = some u → W.cell? (ad.add j) = some u := by
      cases ys with
      | nil => intro j u hj; simp at hj
      | cons y ys' =>
        obtain ⟨b, o', e, _⟩ := HS 0 y rfl
        injection e with e; subst e
        intro j u hj
        have := HS.flat b o' _ hys j u hj
        rwa [show (⟨b, o', none⟩ : Addr).add j = ⟨b, o' + j, none⟩ from by unfold Addr.add; split <;> simp_all]
    refine wpList_append_own_at W hgd s x t ho base E i0 z sz bytes ht hi hz0 hz1 hz2 hz hs0 v rows.length rows.flatten hs HO.1 ad ys.length c ys.flatten hx hfl hnews
      (fun u hu => by obtain ⟨r, hr, hur⟩ := List.mem_flatten.1 hu; exact h1 r hr u hur) (by simp only [maxLen]; omega) hl hbase ?_
    intro v1 w1 hown hg _ hloc
    refine h v1 w1 ⟨by simpa using hown, fun r hr => ?_⟩ ⟨hg.os, hg.tape, hg.output, hg.size, fun k hk hn => hg.block k hk (fun e => hn e.symm)⟩ (fun k hk => by
      rcases hloc with e | e
      · exact .inl (e ▸ hk)
      · rw [hk] at e; injection e with e; exact .inr (by omega))
    rcases List.mem_append.1 hr with hr | hr
    · exact HO.2 r hr
    · exact hys r hr
end
end Go.Proofs.BL
end

section
set_option linter.unusedVariables false
namespace Go.Proofs.BL
open Go.RowKit

/-- Cells laid over an array from o on. -/
def layA (cur : Array Value) : Nat → List Value → Array Value
  | _, [] => cur
  | o, v :: r => layA (cur.setIfInBounds o v) (o + 1) r
theorem layA_size : ∀ (vs : List Value) (cur : Array Value) (o : Nat), (layA cur o vs).size = cur.size
  | [], _, _ => rfl
  | v :: r, cur, o => by rw [layA, layA_size r]; simp
theorem layA_list : ∀ (vs : List Value) (cur : Array Value) (o : Nat), o + vs.length ≤ cur.size → (layA cur o vs).toList = cur.toList.take o ++ vs ++ cur.toList.drop (o + vs.length)
  | [], cur, o, _ => by simp [layA]
  | v :: r, cur, o, h => by
    simp only [List.length_cons] at h
    rw [layA, layA_list r _ _ (by simp; omega), Array.toList_setIfInBounds]
    have h1 : (cur.toList.set o v).take (o + 1) = cur.toList.take o ++ [v] := by
      rw [List.take_set, List.take_add_one, List.set_append, if_neg (by simp; omega)]
      rw [Array.getElem?_toList, Array.getElem?_eq_getElem (by omega)]
      simp [show o - min o cur.size = 0 from by omega]
    have h2 : (cur.toList.set o v).drop (o + 1 + r.length) = cur.toList.drop (o + (r.length + 1)) := by
      rw [List.drop_set, if_pos (by omega), show o + 1 + r.length = o + (r.length + 1) from by omega]
    rw [h1, h2]
    simp
/-- Laid one behind the other: y, then d. -/
theorem layA_first (cur : Array Value) (a y d : List Value) (ha : cur.toList.take a.length = a) (hs : a.length + y.length + d.length ≤ cur.size) :
    (layA (layA cur a.length y) (a.length + y.length) d).toList.take (a.length + y.length + d.length) = a ++ y ++ d := by
  rw [layA_list d _ _ (by rw [layA_size]; exact hs), layA_list y _ _ (by omega), ha]
  rw [List.take_left' (l₁ := a ++ y) (by simp)]
  exact List.take_left' (by simp [Nat.add_assoc])
/-- d ahead of y. -/
theorem layA_second (cur : Array Value) (a y d : List Value) (ha : cur.toList.take a.length = a) (hs : a.length + y.length + d.length ≤ cur.size) :
    (layA (layA cur (a.length + y.length) d) a.length y).toList.take (a.length + y.length + d.length) = a ++ y ++ d := by
  rw [layA_list y _ _ (by rw [layA_size]; omega), layA_list d _ _ hs]
  have h1 : (cur.toList.take (a.length + y.length)).length = a.length + y.length := List.length_take_of_le (by have hl : cur.toList.length = cur.size := Array.length_toList; omega)
  have h2 : (cur.toList.take (a.length + y.length) ++ d ++ cur.toList.drop (a.length + y.length + d.length)).take a.length = a := by
    rw [List.append_assoc, List.take_append_of_le_length (by rw [h1]; omega), List.take_take, Nat.min_eq_left (show a.length ≤ a.length + y.length by omega), ha]
  have h3 : (cur.toList.take (a.length + y.length) ++ d ++ cur.toList.drop (a.length + y.length + d.length)).drop (a.length + y.length) = d ++ cur.toList.drop (a.length + y.length + d.length) := by
    rw [List.append_assoc, List.drop_left' h1]
  rw [h2, h3]
  have h4 : a ++ y ++ (d ++ cur.toList.drop (a.length + y.length + d.length)) = (a ++ y ++ d) ++ cur.toList.drop (a.length + y.length + d.length) := by simp
  rw [h4]
  exact List.take_left' (by simp [Nat.add_assoc])
theorem setCells_blk {b : Nat} {e : TypeId} : ∀ (vs : List Value) (cur : Array Value) (o : Nat) (w : World), Blk w b cur e → Blk (w.setCells b o vs) b (layA cur o vs) e
  | [], _, _, _, h => h
  | v :: r, cur, o, w, h => by rw [World.setCells, layA]; exact setCells_blk r _ _ _ (h.set o v)
theorem setCells_fr {S : Nat → Prop} {b : Nat} (hb : S b) : ∀ (vs : List Value) (o : Nat) (w : World), Fr S w (w.setCells b o vs)
  | [], _, w => Fr.refl _ _
  | v :: r, o, w => ((Fr.refl S w).setCell (p := ⟨b, o, none⟩) (.inr hb) v).trans (setCells_fr hb r _ _) (fun _ _ h => h)
theorem setCells_drew (b : Nat) : ∀ (vs : List Value) (o : Nat) (w : World), (w.setCells b o vs).drew = w.drew.setCells b o vs
  | [], _, _ => rfl
  | v :: r, o, w => by rw [World.setCells, World.setCells, setCells_drew b r]; rfl
theorem Blk.far_cells {b b' : Nat} {e : TypeId} {cs : Array Value} {w : World} (h : Blk w b cs e) (hne : b ≠ b') (vs : List Value) (o : Nat) : Blk (w.setCells b' o vs) b cs e :=
  h.fr (setCells_fr (S := only b') rfl vs o w) (fun e => hne e)

section
variable {P : Program}
/-- copy, elements of sz cells: all is read before anything is written. -/
theorem run_copy_k (w : World) (dT sT ty elem : TypeId) (sz b o dLen dCap : Nat) (a : Addr) (sLen sCap : Nat) (cs : List Value)
    (hu : P.underlying dT = some (.slice elem)) (hs : (P.info? elem).map (·.size) = some sz) (hn : cs.length = Nat.min sLen dLen * sz)
    (hsrc : ∀ j v, cs[j]? = some v → w.cell? (a.add j) = some v) (hc : ∀ j, j < cs.length → (w.cell? ⟨b, o + j, none⟩).isSome = true) (hf : ∀ j, j < cs.length → w.frozen? ⟨b, o + j, none⟩ = false) (h1 : ∀ v ∈ cs, v.oneCell' = true) :
    (Builtin.copy_ #[dT, sT] ty #[.slice (some ⟨b, o, none⟩) dLen dCap, .slice (some a) sLen sCap]).run P w = .ok (goInt (Nat.min sLen dLen)) (w.setCells b o cs) := by
  have hl := run_loadCells_list (P := P) w a cs hsrc
  have hst := run_storeCells_cells (P := P) b o cs 0 w (by simpa using hc) (by simpa using hf) h1
  cases hq : P.info? elem with
  | none => simp [hq] at hs
  | some i =>
    have hi : i.size = sz := by simpa [hq] using hs
    simp [Builtin.copy_, run_underlying hu, Builtin.lenOf, Builtin.firstCells, sizeOf, typeInfo, hq, hi, ← hn, hl, hst]
theorem zeroCells_list (z : Array Value) (hz : 0 < z.size) (n : Nat) : (Builtin.zeroCells z n).toList = (List.replicate n z.toList).flatten := by
  apply List.ext_getElem?
  intro i
  have hR : ∀ (n i : Nat), (List.replicate n z.toList).flatten[i]? = if i < n * z.size then some (z[i % z.size]!) else none := by
    intro n
    induction n with
    | zero => intro i; simp
    | succ n ih =>
      intro i
      rw [List.replicate_succ, List.flatten_cons]
      by_cases h : i < z.size
      · rw [List.getElem?_append_left (by simpa using h), if_pos (by rw [Nat.succ_mul]; omega), Nat.mod_eq_of_lt h, Array.getElem?_toList, Array.getElem?_eq_getElem h, getElem!_pos z i h]
      · rw [List.getElem?_append_right (by simpa using Nat.le_of_not_lt h), ih, Array.length_toList]
        have h1 : (i - z.size < n * z.size) ↔ (i < (n + 1) * z.size) := by rw [Nat.succ_mul]; omega
        have h2 : (i - z.size) % z.size = i % z.size := by
          conv => rhs; rw [show i = (i - z.size) + z.size from by omega, Nat.add_mod_right]
        rw [h2]
        simp only [h1]
  rw [hR]
  unfold Builtin.zeroCells
  by_cases h : i < n * z.size
  · rw [if_pos h]
    simp [h]
  · rw [if_neg h]
    simp [h]
/-- clear, elements of sz cells. -/
theorem run_clear_k (w : World) (t e ty : TypeId) (z : Value) (ht : P.underlying t = some (.slice e)) (hv : ∀ w, (zeroValue e).run P w = .ok z w) (hz : 0 < z.cells.size) (h1 : ∀ u ∈ z.cells.toList, u.oneCell' = true) (b o n c : Nat) (hn : 0 < n)
    (hc : ∀ j, j < n * z.cells.size → (w.cell? ⟨b, o + j, none⟩).isSome = true) (hf : ∀ j, j < n * z.cells.size → w.frozen? ⟨b, o + j, none⟩ = false) :
    (Builtin.clear_ #[t] ty #[.slice (some ⟨b, o, none⟩) n c]).run P w = .ok (.tuple #[]) (w.setCells b o (List.replicate n z.cells.toList).flatten) := by
  have hlen : (List.replicate n z.cells.toList).flatten.length = n * z.cells.size := by simp
  have hst := run_storeCells_cells (P := P) b o (List.replicate n z.cells.toList).flatten 0 w (by rw [hlen]; simpa using hc) (by rw [hlen]; simpa using hf) (by
    intro v hv'
    obtain ⟨r, hr, hvr⟩ := List.mem_flatten.1 hv'
    rw [List.eq_of_mem_replicate hr] at hvr
    exact h1 v hvr)
  simp only [Nat.add_zero] at hst
  obtain ⟨m, rfl⟩ : ∃ m, n = m + 1 := ⟨n - 1, by omega⟩
  have hzl := zeroCells_list z.cells hz (m + 1)
  simp only [Builtin.clear_, List.getElem?_toArray, List.getElem?_cons_zero, Sem.run_bind, run_underlying ht, Result.andThen_ok, hv, hzl, hst, Sem.run_pure]
end
end Go.Proofs.BL
end

section
set_option linter.unusedVariables false
namespace Go.Proofs.YtigffdmpofcdgaaGreatDoor
open Go.Proofs.BL Go.RowKit

/-- A block of a type that nobody writes. -/
def Imm (w : World) (b : Nat) : Prop := ∃ cs t f, w.heap[b]? = some (.cells cs t f) ∧ isErrT t = true

/-- A part: what is told of a world; G: blocks that nobody writes any more; O: blocks that this part holds. -/
structure Part where
  at_ : World → (Nat → Prop) → (Nat → Prop) → Prop
  keep : ∀ {w w' : World} {G G' O : Nat → Prop}, at_ w G O → (∀ b, O b → b < w.heap.size) → (∀ b, G b → b < w.heap.size) → Fr (fun b => ¬ (G b ∨ O b ∨ Imm w b)) w w' → (∀ b, G b → G' b) → at_ w' G' O

def Holds (w : World) (G : Nat → Prop) : List Part → (Nat → Prop) → Prop
  | [], _ => True
  | A :: l, X => ∃ O : Nat → Prop, A.at_ w G O ∧ (∀ b, O b → X b) ∧ Holds w G l (fun b => X b ∧ ¬ O b)

theorem Holds.wide {w : World} {G : Nat → Prop} : ∀ {l : List Part} {X Y : Nat → Prop}, Holds w G l X → (∀ b, X b → Y b) → Holds w G l Y
  | [], _, _, _, _ => trivial
  | _ :: _, _, _, ⟨O, h, hO, hl⟩, hXY => ⟨O, h, fun b hb => hXY b (hO b hb), Holds.wide hl (fun b h => ⟨hXY b h.1, h.2⟩)⟩

theorem Holds.keep {w w' : World} {G G' : Nat → Prop} : ∀ {l : List Part} {X : Nat → Prop}, Holds w G l X → (∀ b, X b → b < w.heap.size) → (∀ b, G b → b < w.heap.size) → Fr (fun b => ¬ (G b ∨ X b ∨ Imm w b)) w w' → (∀ b, G b → G' b) → Holds w' G' l X
  | [], _, _, _, _, _, _ => trivial
  | A :: l, X, ⟨O, h, hO, hl⟩, hX, hG, hf, hGG => by
    refine ⟨O, A.keep h (fun b hb => hX b (hO b hb)) hG (hf.mono (fun k _ hk => ?_)) hGG, hO, Holds.keep hl (fun b hb => hX b hb.1) hG (hf.mono (fun k _ hk => ?_)) hGG⟩
    · intro h; exact hk (h.elim .inl (fun h => h.elim (fun h => absurd (.inr (.inl (hO k h))) hk) (fun h => .inr (.inr h))))
    · intro h; exact hk (h.elim .inl (fun h => h.elim (fun h => absurd (.inr (.inl h.1)) hk) (fun h => .inr (.inr h))))

/-- These parts lie in the world, apart from one another. -/
def Sat (l : List Part) (w : World) : Prop := ∃ G : Nat → Prop, (∀ b, G b → b < w.heap.size) ∧ Holds w G l (fun b => b < w.heap.size ∧ ¬ G b ∧ ¬ Imm w b)

theorem Sat.nil (w : World) : Sat [] w := ⟨fun _ => False, fun _ h => h.elim, trivial⟩
theorem Imm.fr {w w' : World} {S : Nat → Prop} {b : Nat} (h : Imm w b) (hf : Fr S w w') (hS : ¬ S b) : Imm w' b := by
  obtain ⟨cs, t, f, e, ht⟩ := h
  exact ⟨cs, t, f, (hf.block b (Array.getElem?_eq_some_iff.1 e).1 hS).trans e, ht⟩
theorem Imm.back {w w' : World} {S : Nat → Prop} {b : Nat} (h : Imm w' b) (hf : Fr S w w') (hb : b < w.heap.size) (hS : ¬ S b) : Imm w b := by
  obtain ⟨cs, t, f, e, ht⟩ := h
  exact ⟨cs, t, f, (hf.block b hb hS).symm.trans e, ht⟩

/-- One step: what was written lies in the first part, or is new. -/
theorem Sat.step {A B : Part} {l : List Part} {w w' : World} (h : Sat (A :: l) w)
    (H : ∀ G O, A.at_ w G O → (∀ b, O b → b < w.heap.size ∧ ¬ G b ∧ ¬ Imm w b) → (∀ b, G b → b < w.heap.size) →
      Fr O w w' ∧ ∃ O', (∀ G', (∀ b, G b → G' b) → B.at_ w' G' O') ∧ ∀ b, O' b → (O b ∨ w.heap.size ≤ b) ∧ b < w'.heap.size ∧ ¬ Imm w' b) : Sat (B :: l) w' := by
  obtain ⟨G, hG, O, ha, hO, hl⟩ := h
  obtain ⟨hf, O', hb, hO'⟩ := H G O ha hO hG
  refine ⟨G, fun b hb => Nat.lt_of_lt_of_le (hG b hb) hf.size, O', hb G (fun _ h => h), fun b hb => ⟨(hO' b hb).2.1, ?_, (hO' b hb).2.2⟩, ?_⟩
  · intro hg
    rcases (hO' b hb).1 with h1 | h1
    · exact (hO b h1).2.1 hg
    · have := hG b hg; omega
  · refine (hl.keep (G' := G) (fun b hb => hb.1.1) hG (hf.mono (fun k _ hk h => ?_)) (fun _ h => h)).wide (fun b hb => ⟨⟨Nat.lt_of_lt_of_le hb.1.1 hf.size, hb.1.2.1, fun hi => hb.1.2.2 (hi.back hf hb.1.1 hb.2)⟩, fun h => ?_⟩)
    · rcases h with h | h | h
      · exact (hO k hk).2.1 h
      · exact h.2 hk
      · exact (hO k hk).2.2 h
    · rcases (hO' b h).1 with h1 | h1
      · exact hb.2 h1
      · have := hb.1.1; omega

/-- A step that writes nothing that was there: it may leave a new part. -/
theorem Sat.new {B : Part} {l : List Part} {w w' : World} (h : Sat l w) (hf : Below w.heap.size w w')
    (H : ∃ O', (∀ G', B.at_ w' G' O') ∧ ∀ b, O' b → w.heap.size ≤ b ∧ b < w'.heap.size ∧ ¬ Imm w' b) : Sat (B :: l) w' := by
  obtain ⟨G, hG, hl⟩ := h
  obtain ⟨O', hb, hO'⟩ := H
  have hfr : Fr none_ w w' := Fr.of_below hf
  refine ⟨G, fun b hb => Nat.lt_of_lt_of_le (hG b hb) hf.size, O', hb G, fun b hb => ⟨(hO' b hb).2.1, fun hg => ?_, (hO' b hb).2.2⟩, ?_⟩
  · have := hG b hg; have := (hO' b hb).1; omega
  · refine (hl.keep (G' := G) (fun b hb => hb.1) hG (hfr.mono (fun k _ hk => hk.elim)) (fun _ h => h)).wide (fun b hb => ⟨⟨Nat.lt_of_lt_of_le hb.1 hf.size, hb.2.1, fun hi => hb.2.2 (hi.back hfr hb.1 (fun h => h))⟩, fun h => ?_⟩)
    have := (hO' b h).1; have := hb.1; omega

def emp : Part := ⟨fun _ _ _ => True, fun _ _ _ _ _ => trivial⟩
theorem Sat.drop {A : Part} {l : List Part} {w : World} (h : Sat (A :: l) w) : Sat l w := by
  obtain ⟨G, hG, O, _, _, hl⟩ := h
  exact ⟨G, hG, hl.wide (fun b hb => hb.1)⟩
theorem Sat.below {l : List Part} {w w' : World} (h : Sat l w) (hf : Below w.heap.size w w') : Sat l w' := (Sat.new (B := emp) h hf ⟨fun _ => False, fun _ => trivial, fun _ h => h.elim⟩).drop
theorem Sat.drew {l : List Part} {w : World} (h : Sat l w) : Sat l w.drew := h.below ⟨rfl, rfl, rfl, Nat.le_refl _, fun _ _ => rfl⟩
theorem Sat.drewN {l : List Part} {w : World} (h : Sat l w) (n : Nat) : Sat l (w.drewN n) := h.below ⟨rfl, rfl, rfl, Nat.le_refl _, fun _ _ => rfl⟩
theorem Sat.imp {A B : Part} {l : List Part} {w : World} (h : Sat (A :: l) w) (H : ∀ G O, A.at_ w G O → B.at_ w G O) : Sat (B :: l) w := by
  obtain ⟨G, hG, O, a, hO, hl⟩ := h
  exact ⟨G, hG, O, H G O a, hO, hl⟩
theorem Sat.fact {A : Part} {l : List Part} {w : World} {p : Prop} (h : Sat (A :: l) w) (H : ∀ G O, A.at_ w G O → (∀ b, O b → b < w.heap.size ∧ ¬ Imm w b) → (∀ b, G b → b < w.heap.size) → p) : p := by
  obtain ⟨G, hG, O, a, hO, hl⟩ := h
  exact H G O a (fun b hb => ⟨(hO b hb).1, (hO b hb).2.2⟩) hG
/-- From now on nobody writes it. -/
theorem Sat.rest {A B : Part} {l : List Part} {w : World} (h : Sat (A :: l) w) (H : ∀ G O, A.at_ w G O → B.at_ w (fun b => G b ∨ O b) none_) : Sat (B :: l) w := by
  obtain ⟨G, hG, O, a, hO, hl⟩ := h
  refine ⟨fun b => G b ∨ O b, fun b hb => hb.elim (hG b) (fun h => (hO b h).1), none_, H G O a, fun _ h => h.elim, ?_⟩
  exact (hl.keep (G' := fun b => G b ∨ O b) (fun b hb => hb.1.1) hG (Fr.refl _ _) (fun _ h => .inl h)).wide (fun b hb => ⟨⟨hb.1.1, fun h => h.elim hb.1.2.1 hb.2, hb.1.2.2⟩, fun h => h⟩)
/-- What holds nothing may stand twice. -/
theorem Sat.dup {A B : Part} {l : List Part} {w : World} (h : Sat (A :: l) w) (H : ∀ G O, A.at_ w G O → B.at_ w G none_) : Sat (B :: A :: l) w := by
  obtain ⟨G, hG, O, a, hO, hl⟩ := h
  exact ⟨G, hG, none_, H G O a, fun _ h => h.elim, O, a, fun b hb => ⟨hO b hb, fun h => h⟩, hl.wide (fun b hb => ⟨⟨hb.1, fun h => h⟩, hb.2⟩)⟩
/-- A part that holds nothing, out of what is known. -/
theorem Sat.put {B : Part} {l : List Part} {w : World} (h : Sat l w) (H : ∀ G, B.at_ w G none_) : Sat (B :: l) w := by
  obtain ⟨G, hG, hl⟩ := h
  exact ⟨G, hG, none_, H G, fun _ h => h.elim, hl.wide (fun b hb => ⟨hb, fun h => h⟩)⟩

theorem Sat.s1 {A B : Part} {l : List Part} {w : World} (h : Sat (A :: B :: l) w) : Sat (B :: A :: l) w := by
  obtain ⟨G, hG, O, a, hO, O', b, hO', hl⟩ := h
  exact ⟨G, hG, O', b, fun x hx => (hO' x hx).1, O, a, fun x hx => ⟨hO x hx, fun h => (hO' x h).2 hx⟩, hl.wide (fun x hx => ⟨⟨hx.1.1, hx.2⟩, hx.1.2⟩)⟩
theorem Sat.under {A : Part} {l l' : List Part} {w : World} (H : ∀ G X, Holds w G l X → Holds w G l' X) (h : Sat (A :: l) w) : Sat (A :: l') w := by
  obtain ⟨G, hG, O, a, hO, hl⟩ := h
  exact ⟨G, hG, O, a, hO, H _ _ hl⟩
theorem Holds.swap {A B : Part} {l : List Part} {w : World} {G X : Nat → Prop} (h : Holds w G (A :: B :: l) X) : Holds w G (B :: A :: l) X := by
  obtain ⟨O, a, hO, O', b, hO', hl⟩ := h
  exact ⟨O', b, fun x hx => (hO' x hx).1, O, a, fun x hx => ⟨hO x hx, fun h => (hO' x h).2 hx⟩, hl.wide (fun x hx => ⟨⟨hx.1.1, hx.2⟩, hx.1.2⟩)⟩
theorem Holds.perm {w : World} {l l' : List Part} (p : l.Perm l') : ∀ {G X : Nat → Prop}, Holds w G l X → Holds w G l' X := by
  induction p with
  | nil => exact fun h => h
  | cons A _ ih => exact fun ⟨O, a, hO, hl⟩ => ⟨O, a, hO, ih hl⟩
  | swap A B l => exact fun h => h.swap
  | trans _ _ ih1 ih2 => exact fun h => ih2 (ih1 h)
theorem Sat.perm {w : World} {l l' : List Part} (p : l.Perm l') (h : Sat l w) : Sat l' w := by
  obtain ⟨G, hG, hl⟩ := h
  exact ⟨G, hG, hl.perm p⟩
section
variable {A B C D E F : Part} {l : List Part} {w : World}
theorem Sat.s2 (h : Sat (A :: B :: C :: l) w) : Sat (C :: A :: B :: l) w := h.perm (((List.Perm.swap C B l).cons A).trans (List.Perm.swap C A (B :: l)))
theorem Sat.t2 (h : Sat (C :: A :: B :: l) w) : Sat (A :: B :: C :: l) w := h.perm (((List.Perm.swap C B l).cons A).trans (List.Perm.swap C A (B :: l))).symm
theorem Sat.s3 (h : Sat (A :: B :: C :: D :: l) w) : Sat (D :: A :: B :: C :: l) w := (h.perm ((List.Perm.swap D C l).cons B |>.cons A)).s2
theorem Sat.t3 (h : Sat (D :: A :: B :: C :: l) w) : Sat (A :: B :: C :: D :: l) w := h.t2.perm ((List.Perm.swap D C l).cons B |>.cons A).symm
theorem Sat.s4 (h : Sat (A :: B :: C :: D :: E :: l) w) : Sat (E :: A :: B :: C :: D :: l) w := (h.perm ((List.Perm.swap E D l).cons C |>.cons B |>.cons A)).s3
theorem Sat.t4 (h : Sat (E :: A :: B :: C :: D :: l) w) : Sat (A :: B :: C :: D :: E :: l) w := h.t3.perm ((List.Perm.swap E D l).cons C |>.cons B |>.cons A).symm
theorem Sat.s5 (h : Sat (A :: B :: C :: D :: E :: F :: l) w) : Sat (F :: A :: B :: C :: D :: E :: l) w := (h.perm ((List.Perm.swap F E l).cons D |>.cons C |>.cons B |>.cons A)).s4
theorem Sat.t5 (h : Sat (F :: A :: B :: C :: D :: E :: l) w) : Sat (A :: B :: C :: D :: E :: F :: l) w := h.t4.perm ((List.Perm.swap F E l).cons D |>.cons C |>.cons B |>.cons A).symm
end

/-- Two parts as one. -/
def Part.star (A B : Part) : Part := ⟨fun w G O => ∃ O1 O2 : Nat → Prop, A.at_ w G O1 ∧ B.at_ w G O2 ∧ (∀ b, O1 b → O b) ∧ (∀ b, O2 b → O b ∧ ¬ O1 b), by
  rintro w w' G G' O ⟨O1, O2, a, b, h1, h2⟩ hO hG hf hGG
  refine ⟨O1, O2, A.keep a (fun b hb => hO b (h1 b hb)) hG (hf.mono (fun k _ hk h => hk ?_)) hGG, B.keep b (fun b hb => hO b (h2 b hb).1) hG (hf.mono (fun k _ hk h => hk ?_)) hGG, h1, h2⟩
  · rcases h with h | h | h
    · exact .inl h
    · exact .inr (.inl (h1 k h))
    · exact .inr (.inr h)
  · rcases h with h | h | h
    · exact .inl h
    · exact .inr (.inl (h2 k h).1)
    · exact .inr (.inr h)⟩
theorem Sat.join {A B : Part} {l : List Part} {w : World} (h : Sat (A :: B :: l) w) : Sat (A.star B :: l) w := by
  obtain ⟨G, hG, O, a, hO, O', b, hO', hl⟩ := h
  exact ⟨G, hG, fun b => O b ∨ O' b, ⟨O, O', a, b, fun _ h => .inl h, fun x h => ⟨.inr h, (hO' x h).2⟩⟩, fun b hb => hb.elim (hO b) (fun h => (hO' b h).1), hl.wide (fun x hx => ⟨hx.1.1, fun h => h.elim hx.1.2 hx.2⟩)⟩
theorem Sat.split {A B : Part} {l : List Part} {w : World} (h : Sat (A.star B :: l) w) : Sat (A :: B :: l) w := by
  obtain ⟨G, hG, O, ⟨O1, O2, a, b, h1, h2⟩, hO, hl⟩ := h
  exact ⟨G, hG, O1, a, fun x hx => hO x (h1 x hx), O2, b, fun x hx => ⟨hO x (h2 x hx).1, (h2 x hx).2⟩, hl.wide (fun x hx => ⟨⟨hx.1, fun h => hx.2 (h1 x h)⟩, fun h => hx.2 (h2 x h).1⟩)⟩
def Part.ex {α : Type} (f : α → Part) : Part := ⟨fun w G O => ∃ x, (f x).at_ w G O, fun ⟨x, h⟩ hO hG hf hGG => ⟨x, (f x).keep h hO hG hf hGG⟩⟩
theorem Sat.open_ {α : Type} {f : α → Part} {l : List Part} {w : World} (h : Sat (Part.ex f :: l) w) : ∃ x, Sat (f x :: l) w := by
  obtain ⟨G, hG, O, ⟨x, a⟩, hO, hl⟩ := h
  exact ⟨x, G, hG, O, a, hO, hl⟩
theorem Sat.shut {α : Type} {f : α → Part} (x : α) {l : List Part} {w : World} (h : Sat (f x :: l) w) : Sat (Part.ex f :: l) w := h.imp (fun _ _ a => ⟨x, a⟩)
def Part.when (p : Prop) (A : Part) : Part := ⟨fun w G O => p ∧ A.at_ w G O, fun ⟨hp, h⟩ hO hG hf hGG => ⟨hp, A.keep h hO hG hf hGG⟩⟩
theorem Sat.when_ {p : Prop} {A : Part} {l : List Part} {w : World} (h : Sat (Part.when p A :: l) w) : p ∧ Sat (A :: l) w := ⟨h.fact (fun _ _ a _ _ => a.1), h.imp (fun _ _ a => a.2)⟩
theorem Sat.with_ {p : Prop} {A : Part} {l : List Part} {w : World} (hp : p) (h : Sat (A :: l) w) : Sat (Part.when p A :: l) w := h.imp (fun _ _ a => ⟨hp, a⟩)

/-- A block, held. -/
def blk (b : Nat) (cs : Array Value) (t : TypeId) : Part := ⟨fun w _ O => Blk w b cs t ∧ O b, fun ⟨h, ho⟩ hO hG hf hGG => ⟨h.fr hf (fun hn => hn (.inr (.inl ho))), ho⟩⟩
/-- A block of any kind, held. -/
def objP (b : Nat) (o : Obj) : Part := ⟨fun w _ O => w.heap[b]? = some o ∧ O b, fun ⟨h, ho⟩ hO hG hf hGG => ⟨(hf.block b (hO b ho) (fun hn => hn (.inr (.inl ho)))).trans h, ho⟩⟩
/-- A block that nobody writes. -/
def roBlk (b : Nat) (cs : Array Value) (t : TypeId) : Part := ⟨fun w G _ => Blk w b cs t ∧ G b, fun ⟨h, ho⟩ hO hG hf hGG => ⟨h.fr hf (fun hn => hn (.inl ho)), hGG b ho⟩⟩
/-- A row of one's own. -/
def ownR (v : Value) (E : TypeId) (sz : Nat) (rows : List (List Value)) : Part := ⟨fun w _ O => Own w 0 E sz v rows ∧ ∀ k, v.ownBlock = some k → O k, fun ⟨h, ho⟩ hO hG hf hGG => ⟨h.fr hf (fun k hk hn => hn (.inr (.inl (ho k hk)))), ho⟩⟩
/-- Rows that nobody writes. -/
def roR (sz : Nat) (A : Option Addr) (rows : List (List Value)) : Part := ⟨fun w G _ => RowsAt w sz A rows ∧ (rows ≠ [] → ∀ a, A = some a → G a.block), fun ⟨h, ho⟩ hO hG hf hGG => by
  refine ⟨?_, fun hr a ha => hGG _ (ho hr a ha)⟩
  cases rows with
  | nil => exact RowsAt.nil _ _ _
  | cons r rs => exact h.fr hf (fun a ha hn => hn (.inl (ho (by simp) a ha)))⟩
/-- All that was there at W. -/
def old (W : World) : Part := ⟨fun w G _ => Below W.heap.size W w ∧ ∀ b, b < W.heap.size → G b, fun ⟨h, ho⟩ hO hG hf hGG =>
  ⟨((Fr.of_below (S := none_) h).trans hf (fun i hi hn => absurd (.inl (ho i hi)) hn)).below, fun b hb => hGG b (ho b hb)⟩⟩
def chn (v : Value) (c : List Lk) : Part := ⟨fun w _ _ => Chn w v c, fun h hO hG hf hGG => h.fr hf (fun k cs t f hk hh => by
  cases ht : isErrT t with
  | false => rfl
  | true => exact absurd (.inr (.inr ⟨cs, t, f, hh, ht⟩)) hk)⟩

theorem not_imm {w : World} {b : Nat} {cs : Array Value} {t : TypeId} {f : Nat × Nat} (h : w.heap[b]? = some (.cells cs t f)) (ht : isErrT t = false) : ¬ Imm w b := by
  rintro ⟨cs', t', f', e, h'⟩
  rw [h] at e
  injection e with e
  injection e with _ e
  subst e
  rw [ht] at h'
  cases h'
theorem not_imm_own {w : World} {base : Nat} {v : Value} {E : TypeId} {sz : Nat} {rows : List (List Value)} (h : Own w base E sz v rows) (ht : isErrT E = false) : ∀ k, v.ownBlock = some k → ¬ Imm w k := by
  rintro k hk ⟨cs', t', f', e, h'⟩
  rw [h.own_type k hk e, ht] at h'
  cases h'
section
variable {l : List Part} {w : World}
theorem Sat.alloc (h : Sat l w) (cs : Array Value) (t : TypeId) (ht : isErrT t = false := by rfl) : Sat (blk w.heap.size cs t :: l) (w.alloc (.cells cs t)) :=
  h.new ((Below.refl _ _).alloc (Nat.le_refl _) _) ⟨fun b => b = w.heap.size, fun G => ⟨Blk.new _ _ _, rfl⟩, fun b hb => by subst hb; exact ⟨Nat.le_refl _, by simp, not_imm (Blk.new w cs t) ht⟩⟩
theorem Sat.allocO (h : Sat l w) (o : Obj) (ho : ∀ cs t f, o ≠ .cells cs t f) : Sat (objP w.heap.size o :: l) (w.alloc o) :=
  h.new ((Below.refl _ _).alloc (Nat.le_refl _) _) ⟨fun b => b = w.heap.size, fun G => ⟨heap_alloc_new w o, rfl⟩, fun b hb => by
    subst hb
    refine ⟨Nat.le_refl _, by simp, ?_⟩
    rintro ⟨cs, t, f, e, _⟩
    rw [heap_alloc_new w o] at e
    injection e with e
    exact ho _ _ _ e⟩
theorem Sat.set {b : Nat} {cs : Array Value} {t : TypeId} (h : Sat (blk b cs t :: l) w) (i : Nat) (u : Value) : Sat (blk b (cs.setIfInBounds i u) t :: l) (w.setCell ⟨b, i, none⟩ u) :=
  h.step fun G O ⟨hb, ho⟩ hO hG => ⟨(Fr.refl _ _).setCell (.inr ho) u, fun k => k = b, fun G' _ => ⟨hb.set i u, rfl⟩, fun k hk => by
    subst hk
    refine ⟨.inl ho, by have := hb.lt; simpa [World.setCell] using this, fun him => ?_⟩
    obtain ⟨_, _, _, e, ht⟩ := him
    have h2 : Blk (w.setCell ⟨k, i, none⟩ u) k _ t := hb.set i u
    unfold Blk at h2
    rw [e] at h2
    injection h2 with h2
    injection h2 with _ h2
    subst h2
    exact (hO k ho).2.2 ⟨_, _, _, hb, ht⟩⟩
theorem Sat.blk_ {b : Nat} {cs : Array Value} {t : TypeId} (h : Sat (blk b cs t :: l) w) : Blk w b cs t := h.fact (fun _ _ a _ _ => a.1)
theorem Sat.ro_ {b : Nat} {cs : Array Value} {t : TypeId} (h : Sat (roBlk b cs t :: l) w) : Blk w b cs t := h.fact (fun _ _ a _ _ => a.1)
theorem Sat.own_ {v : Value} {E : TypeId} {sz : Nat} {rows : List (List Value)} (h : Sat (ownR v E sz rows :: l) w) : Own w 0 E sz v rows := h.fact (fun _ _ a _ _ => a.1)
theorem Sat.rows_ {A : Option Addr} {sz : Nat} {rows : List (List Value)} (h : Sat (roR sz A rows :: l) w) : RowsAt w sz A rows := h.fact (fun _ _ a _ _ => a.1)
theorem Sat.chn_ {v : Value} {c : List Lk} (h : Sat (chn v c :: l) w) : Chn w v c := h.fact (fun _ _ a _ _ => a)
theorem Sat.old_ {W : World} (h : Sat (old W :: l) w) : Below W.heap.size W w := h.fact (fun _ _ a _ _ => a.1)
theorem Sat.obj_ {b : Nat} {o : Obj} (h : Sat (objP b o :: l) w) : w.heap[b]? = some o := h.fact (fun _ _ a _ _ => a.1)
theorem Sat.start (W : World) : Sat [old W] W := ⟨fun b => b < W.heap.size, fun _ h => h, none_, ⟨Below.refl _ _, fun _ h => h⟩, fun _ h => h.elim, trivial⟩
theorem Sat.old_rows {W : World} (h : Sat (old W :: l) w) {sz : Nat} {A : Option Addr} {rows : List (List Value)} (hr : RowsAt W sz A rows) (hs : 0 < sz) (hl : ∀ r, r ∈ rows → r.length = sz) : Sat (roR sz A rows :: old W :: l) w :=
  h.dup fun G O ⟨hb, hg⟩ => ⟨hr.below hb, fun hne a ha => by
    obtain ⟨r, rs, rfl⟩ := List.exists_cons_of_ne_nil hne
    obtain ⟨b, o, e, hc⟩ := hr 0 r rfl
    rw [ha] at e
    injection e with e
    subst e
    have hlr := hl r (by simp)
    obtain ⟨x, xs, rfl⟩ := List.exists_cons_of_ne_nil (show r ≠ [] from fun e => by subst e; simp at hlr; omega)
    exact hg b (World.block_lt_of_cell? W ⟨b, o + 0 * sz + 0, none⟩ (hc 0 x rfl))⟩
theorem Sat.two {A : Option Addr} {sz : Nat} {rows : List (List Value)} (h : Sat (roR sz A rows :: l) w) : Sat (roR sz A rows :: roR sz A rows :: l) w := h.dup (fun _ _ a => a)
theorem Sat.twoB {b : Nat} {cs : Array Value} {t : TypeId} (h : Sat (roBlk b cs t :: l) w) : Sat (roBlk b cs t :: roBlk b cs t :: l) w := h.dup (fun _ _ a => a)
theorem Sat.twoC {v : Value} {c : List Lk} (h : Sat (chn v c :: l) w) : Sat (chn v c :: chn v c :: l) w := h.dup (fun _ _ a => a)
/-- A row of one's own that is not written any more. -/
theorem Sat.still {v : Value} {E : TypeId} {sz : Nat} {rows : List (List Value)} (h : Sat (ownR v E sz rows :: l) w) : ∃ A c, v = .slice A rows.length c ∧ rows.length ≤ c ∧ (A = none → c = 0) ∧ Sat (roR sz A rows :: l) w := by
  obtain ⟨A, c, e, hc, hn, hr⟩ := h.own_.slv'
  refine ⟨A, c, e, hc, hn, h.rest (fun G O ⟨a, ho⟩ => ⟨?_, fun _ x hx => .inr (ho _ ?_)⟩)⟩
  · exact hr
  · subst hx
    rw [e]
    rcases a.1.2 with ⟨h1, _⟩ | ⟨g, cap, cur, h1, _⟩
    · rw [e] at h1; cases h1
    · rw [e] at h1; injection h1 with h1; injection h1 with h1; subst h1; rfl
theorem Sat.stillB {b : Nat} {cs : Array Value} {t : TypeId} (h : Sat (blk b cs t :: l) w) : Sat (roBlk b cs t :: l) w := h.rest (fun G O ⟨a, ho⟩ => ⟨a, .inr ho⟩)
theorem Sat.ne {b b' : Nat} {cs cs' : Array Value} {t t' : TypeId} (h : Sat (blk b cs t :: blk b' cs' t' :: l) w) : b ≠ b' := by
  obtain ⟨G, hG, O, ⟨_, a⟩, hO, O', ⟨_, b⟩, hO', hl⟩ := h
  rintro rfl
  exact (hO' _ b).2 a
theorem Sat.ne_own {b : Nat} {cs : Array Value} {t : TypeId} {v : Value} {E : TypeId} {sz : Nat} {rows : List (List Value)} (h : Sat (blk b cs t :: ownR v E sz rows :: l) w) : ∀ k, v.ownBlock = some k → k ≠ b := by
  obtain ⟨G, hG, O, ⟨_, a⟩, hO, O', ⟨_, hb⟩, hO', hl⟩ := h
  rintro k hk rfl
  exact (hO' _ (hb k hk)).2 a
theorem Sat.ne_ro {b b' : Nat} {cs cs' : Array Value} {t t' : TypeId} (h : Sat (blk b cs t :: roBlk b' cs' t' :: l) w) : b ≠ b' := by
  obtain ⟨G, hG, O, ⟨_, a⟩, hO, O', ⟨_, g⟩, hO', hl⟩ := h
  rintro rfl
  exact (hO _ a).2.1 g
theorem Sat.nilR (h : Sat l w) (E : TypeId) (sz : Nat) : Sat (ownR (.slice none 0 0) E sz [] :: l) w := h.put (fun G => ⟨Own.nil _ _ _ _, fun k hk => by simp [Value.ownBlock] at hk⟩)
theorem Sat.nilC (h : Sat l w) : Sat (chn .nilIface [] :: l) w := h.put (fun G => rfl)
/-- Behind a call that only makes: a row of one's own. -/
theorem Sat.made {w' : World} {v : Value} {E : TypeId} {sz : Nat} {rows : List (List Value)} (h : Sat l w) (hb : Below w.heap.size w w') (ho : Own w' w.heap.size E sz v rows) (ht : isErrT E = false := by rfl) : Sat (ownR v E sz rows :: l) w' :=
  h.new hb ⟨fun k => v.ownBlock = some k, fun G => ⟨⟨⟨ho.1.1, ho.1.2.elim .inl (fun ⟨g, cap, cur, hv, hbb, r⟩ => .inr ⟨g, cap, cur, hv, Nat.zero_le _, r⟩)⟩, ho.2⟩, fun _ h => h⟩, fun b hb2 => ⟨(ho.1.lt b hb2).1, (ho.1.lt b hb2).2, not_imm_own ho ht b hb2⟩⟩
/-- Behind a call that makes an error. -/
theorem Sat.err {w' : World} {v : Value} {c : List Lk} (h : Sat l w) (hb : Below w.heap.size w w') (hc : Chn w' v c) : Sat (chn v c :: l) w' :=
  h.new hb ⟨none_, fun G => hc, fun _ h => h.elim⟩
/-- What an append leaves. -/
theorem Sat.grown {w' : World} {v v' : Value} {E : TypeId} {sz : Nat} {rows rows' : List (List Value)} (h : Sat (ownR v E sz rows :: l) w) (ho : Own w' 0 E sz v' rows') (hf : Fr (fun k => v.ownBlock = some k) w w')
    (hk : ∀ k, v'.ownBlock = some k → v.ownBlock = some k ∨ w.heap.size ≤ k) (ht : isErrT E = false := by rfl) : Sat (ownR v' E sz rows' :: l) w' :=
  h.step fun G O ⟨a, hO⟩ hX hG => ⟨hf.mono (fun k _ h => hO k h), fun k => v'.ownBlock = some k, fun G' _ => ⟨ho, fun _ h => h⟩, fun b hb => ⟨(hk b hb).elim (fun h => .inl (hO b h)) .inr, (ho.1.lt b hb).2, not_imm_own ho ht b hb⟩⟩
end
end Go.Proofs.YtigffdmpofcdgaaGreatDoor
end

section
namespace Go.Proofs.YtigffdmpofcdgaaGreatDoor
open Go.Proofs.BL Go.Proofs.Peel Go.RowKit
set_option maxRecDepth 100000

theorem chn_num {w : World} : ∀ {c : List Lk} {v : Value}, Chn w v c → c ≠ [] → ∃ e, upto .num c = [.num e]
  | [], _, _, h => absurd rfl h
  | x :: r, v, ⟨b, u, _, _, hc, hn⟩, _ => by
    by_cases hk : x.kind = .num
    · have hr := hn.1 hk
      subst hr
      cases x <;> simp [Lk.kind] at hk
      exact ⟨_, rfl⟩
    · have hr : r ≠ [] := fun e => hk (hn.2 e)
      obtain ⟨e, he⟩ := chn_num hc hr
      refine ⟨e, ?_⟩
      have : x.kind.same .num = false := by
        cases h : x.kind.same .num
        · rfl
        · exact absurd ((same_iff _ _).1 h) hk
      simp [upto, this, he]

theorem Lk.of_num {x : Lk} (h : x.kind = .num) : ∃ q, x = .num q := by cases x <;> simp [Lk.kind] at h; exact ⟨_, rfl⟩
/-- A chain's number. -/
def codeOf (c : List Lk) : Int := match upto .num c with | .num e :: _ => e | _ => 0
theorem codeOf_nil : codeOf [] = 0 := rfl

/-- A new error whose chain is c; nothing that was there has turned. -/
def ErrNew (w : World) (c : List Lk) (e : Ending) (w' : World) : Prop := ∃ v, e = .returned v ∧ Chn w' v c ∧ Below w.heap.size w w'

/-- fault.New. -/
theorem fnew (n : Int) (w : World) : Calls Tryz.prog 54 #[.int .i64 n] w (ErrNew w (if n = 0 then [] else [.num n])) := by
  by_cases h : n = 0
  · subst h
    go_enter Tryz.func54, Tryz.ntmps54
    go_wp2
    go_ret
    exact ⟨_, rfl, rfl, Below.refl _ _⟩
  · have h0 : (n == 0) = false := by simpa using h
    have H := Lib.hid h
    clear h
    go_enter Tryz.func54, Tryz.ntmps54
    go_wp2
    go_ret
    exact ⟨_, rfl, ⟨_, .nilIface, rfl, Blk.new _ _ _, rfl, by simp [Lk.kind]⟩, (Below.refl _ _).alloc (Nat.le_refl _) _⟩
/-- The target's own block apart, nothing that was there has turned. -/
theorem AsPost.own {k : FK} {w : World} {o : Obj} {c : List Lk} {e : Ending} {w' : World} (h : AsPost k w.heap.size (w.alloc o) c e w') : Below w.heap.size w w' := by
  have h0 : Below w.heap.size w (w.alloc o) := (Below.refl _ _).alloc (Nat.le_refl _) _
  by_cases hu : upto k c = []
  · exact below_then h0 (h.1 hu).2
  · exact ((Fr.of_below (S := none_) h0).trans (h.2 hu).2.1 (fun i hi hS => by cases hS; omega)).below

/-- What a call answers, and that nothing that was there has turned. -/
def Ans (w : World) (v : Value) (e : Ending) (w' : World) : Prop := e = .returned v ∧ Below w.heap.size w w'

theorem ErrT.below {w w' : World} (h : ErrT w) (hb : Below w.heap.size w w') : ErrT w' := (hb.cell (World.block_lt_of_cell? w _ h)).trans h

set_option maxHeartbeats 400000 in
/-- fault.Code. -/
theorem fcode (v : Value) (c : List Lk) (w : World) (hE : ErrT w) (hc : Chn w v c) : Calls Tryz.prog 42 #[v] w (Ans w (.int .i64 (codeOf c))) := by
  cases c with
  | nil =>
    obtain rfl : v = .nilIface := hc
    go_enter Tryz.func42, Tryz.ntmps42
    go_wp2
    go_ret
    exact ⟨rfl, (Below.refl _ _).alloc (Nat.le_refl _) _⟩
  | cons x r =>
    obtain ⟨n, hn⟩ := chn_num hc (List.cons_ne_nil _ _)
    have hb0 : Below w.heap.size w (w.alloc (.cells #[.pointer none] 98)) := (Below.refl _ _).alloc (Nat.le_refl _) _
    have HA := Lib.hid (eAs .num .num rfl (x :: r) v (.pointer none) w.heap.size _ (hE.below hb0) (hc.below hb0) (Blk.new w #[.pointer none] 98))
    have hv : ∃ b, v = .iface x.kind.t1 (.pointer (some ⟨b, 0, none⟩)) := by obtain ⟨b, u, e, _⟩ := hc; exact ⟨b, e⟩
    obtain ⟨b, rfl⟩ := hv
    have HN := Lib.hid hn
    clear hn hc hE hb0
    go_enter Tryz.func42, Tryz.ntmps42
    go_wp2_with fail
    refine HA.out.mono ?_
    rintro e w' hp
    obtain ⟨rfl, _, p, hB, hC⟩ := hp.2 (by rw [HN.out]; exact List.cons_ne_nil _ _)
    rw [HN.out] at hC
    obtain ⟨b2, u2, e2, hX, _⟩ := hC
    injection e2 with _ e2
    injection e2 with e2
    injection e2 with e2
    injection e2 with e2
    subst e2
    have g0 : w'.cell? ⟨w.heap.size, 0, none⟩ = some (.pointer (some ⟨p, 0, none⟩)) := hB.at_ 0 rfl
    have g1 : w'.cell? ⟨p, 0, none⟩ = some (.int .i64 n) := hX.at_ 0 rfl
    have HP := Lib.hid hp.own
    clear hp hB hX
    go_wp2
    go_ret
    exact ⟨by unfold codeOf; rw [HN.out]; rfl, HP.out⟩

end Go.Proofs.YtigffdmpofcdgaaGreatDoor
end

section
set_option linter.unusedVariables false
set_option maxRecDepth 100000
namespace Go.Proofs.YtigffdmpofcdgaaGreatDoor
open Go.Proofs.BL Go.Proofs.Peel Go.RowKit

/-- An object of one slice. -/
def objS (T E : TypeId) (sz p : Nat) (rows : List (List Value)) : Part := Part.ex fun v => (blk p #[v] T).star (ownR v E sz rows)
theorem Sat.openO {T E : TypeId} {sz p : Nat} {rows : List (List Value)} {l : List Part} {w : World} (h : Sat (objS T E sz p rows :: l) w) : ∃ v, Sat (blk p #[v] T :: ownR v E sz rows :: l) w := by
  obtain ⟨v, h⟩ := h.open_
  exact ⟨v, h.split⟩
theorem Sat.shutO {T E : TypeId} {sz p : Nat} {v : Value} {rows : List (List Value)} {l : List Part} {w : World} (h : Sat (blk p #[v] T :: ownR v E sz rows :: l) w) : Sat (objS T E sz p rows :: l) w := h.join.shut (f := fun v => (blk p #[v] T).star (ownR v E sz rows)) v
theorem drew_below (w : World) (n : Nat) : Below w.heap.size w (w.drewN n) := ⟨rfl, rfl, rfl, Nat.le_refl _, fun _ _ => rfl⟩
/-- The table of errors.As. -/
def errP : Part := ⟨fun w G _ => ErrT w ∧ G 0, fun ⟨h, ho⟩ hO hG hf hGG => ⟨(World.cell?_of_block (hf.block _ (hG _ ho) (fun hn => hn (.inl ho)))).trans h, hGG _ ho⟩⟩
theorem Sat.err_ {l : List Part} {w : World} (h : Sat (errP :: l) w) : ErrT w := h.fact (fun _ _ a _ _ => a.1)
theorem Sat.old_err {l : List Part} {w W : World} (h : Sat (old W :: l) w) (hE : ErrT W) : Sat (errP :: old W :: l) w :=
  h.dup fun G O ⟨hb, hg⟩ => ⟨hE.below hb, hg _ (World.block_lt_of_cell? W _ hE)⟩
theorem eraseIdx_perm {α : Type _} {a : α} : ∀ {l : List α} {i : Nat}, l[i]? = some a → l.Perm (a :: l.eraseIdx i)
  | [], i, h => by simp at h
  | b :: l, 0, h => by
    simp only [List.getElem?_cons_zero, Option.some.injEq] at h
    subst h
    exact List.Perm.refl _
  | b :: l, i + 1, h => by
    simp only [List.getElem?_cons_succ] at h
    exact ((eraseIdx_perm h).cons b).trans (List.Perm.swap a b _)
/-- The n-th part ahead of the others. -/
theorem Sat.nth {A : Part} {l : List Part} {w : World} (i : Nat) (h : Sat l w) (e : l[i]? = some A) : Sat (A :: l.eraseIdx i) w := h.perm (eraseIdx_perm e)

/-- A row of one's own that is not empty. -/
theorem own_some {w : World} {base : Nat} {E : TypeId} {sz : Nat} {v : Value} {rows : List (List Value)} (h : Own w base E sz v rows) (hn : rows ≠ []) : ∃ g c, v = .slice (some ⟨g, 0, none⟩) rows.length c ∧ rows.length ≤ c ∧ c ≤ maxLen := by
  rcases h.1.2 with ⟨_, h1⟩ | ⟨g, c, cur, h1, _, _, h2, h3, _⟩
  · exact absurd (List.eq_nil_of_length_eq_zero h1) hn
  · exact ⟨g, c, h1, h2, h3⟩
theorem own_at {w : World} {base : Nat} {E : TypeId} {sz : Nat} {g n c : Nat} {rows : List (List Value)} (h : Own w base E sz (.slice (some ⟨g, 0, none⟩) n c) rows) {i : Nat} {r : List Value} (hi : rows[i]? = some r) (j : Nat) {u : Value} (hj : r[j]? = some u) :
    w.cell? ⟨g, i * sz + j, none⟩ = some u ∧ w.frozen? ⟨g, i * sz + j, none⟩ = false := by
  obtain ⟨_, _, e, _, hr⟩ := h.slv
  injection e with e1 e2 e3
  subst e1
  obtain ⟨b, o, e, hc⟩ := hr i r hi
  injection e with e
  injection e with e1 e2
  subst e1 e2
  have := hc j u hj
  rw [Nat.zero_add] at this
  refine ⟨this, ?_⟩
  rcases h.1.2 with ⟨h1, _⟩ | ⟨g', c', cur, h1, _, hh, _⟩
  · cases h1
  · injection h1 with h1 _ _
    injection h1 with h1
    injection h1 with h1
    subst h1
    exact Blk.free hh _

theorem flat_set {rows : List (List Value)} {sz : Nat} (hs : ∀ r, r ∈ rows → r.length = sz) : ∀ {i : Nat} {r : List Value}, rows[i]? = some r → ∀ (j : Nat) (u : Value), j < sz → rows.flatten.set (i * sz + j) u = (rows.set i (r.set j u)).flatten := by
  induction rows with
  | nil => intro i r h; simp at h
  | cons x xs ih =>
    intro i r h j u hj
    have hx : x.length = sz := hs x (by simp)
    cases i with
    | zero =>
      simp only [List.getElem?_cons_zero, Option.some.injEq] at h
      subst h
      rw [List.set_cons_zero, List.flatten_cons, List.flatten_cons, Nat.zero_mul, Nat.zero_add, List.set_append_left _ _ (by omega)]
    | succ i =>
      simp only [List.getElem?_cons_succ] at h
      rw [List.set_cons_succ, List.flatten_cons, List.flatten_cons, List.set_append_right _ _ (by rw [hx, Nat.succ_mul]; omega), hx, ← ih (fun r hr => hs r (by simp [hr])) h j u hj]
      rw [show (i + 1) * sz + j - sz = i * sz + j from by rw [Nat.succ_mul]; omega]
theorem own_set {w : World} {base : Nat} {E : TypeId} {sz g n c : Nat} {rows : List (List Value)} (h : Own w base E sz (.slice (some ⟨g, 0, none⟩) n c) rows) {i : Nat} {r : List Value} (hi : rows[i]? = some r) (j : Nat) (hj : j < sz) (u : Value) :
    Own (w.setCell ⟨g, i * sz + j, none⟩ u) base E sz (.slice (some ⟨g, 0, none⟩) n c) (rows.set i (r.set j u)) := by
  obtain ⟨_, _, e, _, _⟩ := h.slv
  injection e with _ e _
  subst e
  have hr := h.2 r (List.mem_of_getElem? hi)
  have := h.1.stored (i * sz + j) u
  rw [flat_set h.2 hi j u hj] at this
  refine ⟨by rw [List.length_set]; exact this.1, fun x hx => ?_⟩
  rcases List.mem_or_eq_of_mem_set hx with hx | rfl
  · exact h.2 x hx
  · rw [List.length_set]; exact hr
theorem Sat.setOwn {g n c : Nat} {E : TypeId} {sz : Nat} {rows : List (List Value)} {l : List Part} {w : World} (h : Sat (ownR (.slice (some ⟨g, 0, none⟩) n c) E sz rows :: l) w) {i : Nat} {r : List Value} (hi : rows[i]? = some r) (j : Nat) (hj : j < sz) (u : Value) (ht : isErrT E = false := by rfl) :
    Sat (ownR (.slice (some ⟨g, 0, none⟩) n c) E sz (rows.set i (r.set j u)) :: l) (w.setCell ⟨g, i * sz + j, none⟩ u) :=
  h.step fun G O ⟨a, ho⟩ hO hG => ⟨(Fr.refl _ _).setCell (.inr (ho g rfl)) u, fun k => k = g, fun G' _ => ⟨own_set a hi j hj u, fun k hk => by simpa [Value.ownBlock] using hk.symm⟩, fun k hk => by
    subst hk
    refine ⟨.inl (ho k rfl), by have := (a.1.lt k rfl).2; simpa [World.setCell] using this, ?_⟩
    exact not_imm_own (own_set a hi j hj u) ht k rfl⟩
theorem chn_iface {w : World} {v : Value} {c : List Lk} (h : Chn w v c) (hn : c ≠ []) : ∃ k b, v = .iface k (.pointer (some ⟨b, 0, none⟩)) := by
  cases c with
  | nil => exact absurd rfl hn
  | cons x r => obtain ⟨b, u, e, _⟩ := h; exact ⟨_, b, e⟩

theorem alloc_sz (w : World) (o : Obj) : (w.alloc o).heap.size = w.heap.size + 1 := by simp
/-- A literal's row, made. -/
theorem Sat.lit {l : List Part} {w : World} (h : Sat l w) (E : TypeId) (sz n : Nat) (rows : List (List Value)) (cs : Array Value) (hn : n = rows.length) (hm : n ≤ maxLen) (hcs : cs.toList = rows.flatten) (hs : ∀ r, r ∈ rows → r.length = sz) (hc : cs.size = n * sz) (ht : isErrT E = false := by rfl) :
    Sat (ownR (.slice (some ⟨w.heap.size, 0, none⟩) n n) E sz rows :: l) (w.alloc (.cells cs E)) :=
  h.made ((Below.refl _ _).alloc (Nat.le_refl _) _) (Own.lit w E sz n rows cs w.heap.size (Nat.le_refl _) hn hm hcs hs hc) ht

theorem Sat.ownRows {A : Option Addr} {n c : Nat} {E : TypeId} {sz : Nat} {rows : List (List Value)} {l : List Part} {w : World} (h : Sat (ownR (.slice A n c) E sz rows :: l) w) : RowsAt w sz A rows := by
  obtain ⟨A', c', e, _, _, hr⟩ := h.own_.slv'
  injection e with e1 _ _
  rw [e1]; exact hr
theorem Sat.roTake {A : Option Addr} {sz : Nat} {rows : List (List Value)} {l : List Part} {w : World} (n : Nat) (h : Sat (roR sz A rows :: l) w) : Sat (roR sz A (rows.take n) :: roR sz A rows :: l) w :=
  h.dup (fun G O ⟨a, ho⟩ => ⟨a.take n, fun hne x hx => ho (fun e => hne (by rw [e]; simp)) x hx⟩)
theorem Sat.roDrop {b o : Nat} {sz : Nat} {rows : List (List Value)} {l : List Part} {w : World} (n : Nat) (h : Sat (roR sz (some ⟨b, o, none⟩) rows :: l) w) : Sat (roR sz (some ⟨b, o + n * sz, none⟩) (rows.drop n) :: roR sz (some ⟨b, o, none⟩) rows :: l) w :=
  h.dup (fun G O ⟨a, ho⟩ => ⟨fun i r hi => by
    rw [List.getElem?_drop] at hi
    obtain ⟨b', o', e, hc⟩ := a (n + i) r hi
    injection e with e
    injection e with e1 e2
    subst e1 e2
    refine ⟨b, o + n * sz, rfl, fun j u hj => ?_⟩
    have := hc j u hj
    rwa [show o + (n + i) * sz + j = o + n * sz + i * sz + j from by rw [Nat.add_mul]; omega] at this, fun hne x hx => by
      injection hx with hx
      subst hx
      exact ho (fun e => hne (by rw [e]; simp)) ⟨b, o, none⟩ rfl⟩)
/-- No rows at all. -/
theorem Sat.roNil {l : List Part} {w : World} (h : Sat l w) (sz : Nat) (A : Option Addr) : Sat (roR sz A [] :: l) w := h.put (fun G => ⟨RowsAt.nil _ _ _, fun hne => absurd rfl hne⟩)
theorem upA {w : World} {a : Addr} {v : Value} (h : w.cell? a = some v) (o : Obj) : (w.alloc o).cell? a = some v := (((Below.refl w.heap.size w).alloc (Nat.le_refl _) o).cell (World.block_lt_of_cell? w a h)).trans h
/-- append(v, X{..}) as one step of a region that draws its order. -/
theorem satStep1 {P : Program} {ops : Array Oper} {o : Oper} {a : Act} {W : World} {K : Act → World → Prop} {Q : Exit → Act → World → Prop} {F : Prop} {l : List Part} (E : TypeId) (sz bytes : Nat) (z : Value) (hgd : o.guard = none) (s x : Operand) (t : TypeId)
    (ho : o.op = .call { callee := .builtin .append, args := #[s, x], argTypes := #[t, t] })
    (ht : P.underlying t = some (.slice E)) (hinfo : (P.info? E).map (fun i => (i.zero, i.size, i.bytes)) = some (some z, sz, bytes)) (hz : z.cells.size = sz) (hs0 : 0 < sz) (hb0 : 0 < bytes)
    (v : Value) (rows : List (List Value)) (ys : List Value) (hs : a.eval s = v) (m : Nat) (hx : a.eval x = .slice (some ⟨m, 0, none⟩) 1 1) (hm : W.heap[m]? = some (.cells ys.toArray E (0, 0))) (hys : ys.length = sz) (h1 : ∀ u ∈ ys, u.oneCell' = true)
    (HS : Sat (ownR v E sz rows :: l) W) (hE : isErrT E = false) (hl : (rows.length + 1) * bytes ≤ 140737488355328)
    (h : ∀ v1 w1, Sat (ownR v1 E sz (rows ++ [ys]) :: l) w1 → K (a.put o.dst v1) w1) :
    if Region.wanted o (yielded ops a.tmps) = true then Oper.wp P o a W K Q else F := by
  obtain ⟨i0, hi, hzz⟩ := Option.map_eq_some_iff.1 hinfo
  simp only [Prod.mk.injEq] at hzz
  obtain ⟨hz0, hz1, hz2⟩ := hzz
  have HO := HS.own_
  have hlen : rows.length + 1 ≤ 140737488355328 := Nat.le_trans (Nat.le_mul_of_pos_right _ hb0) hl
  refine step_append_lies W hgd s x t ho 0 E i0 z sz bytes ht hi hz0 hz1 hz2 hz hs0 v rows.length rows.flatten hs HO.1 ⟨m, 0, none⟩ 1 1 ys hx (by rw [hys]; simp) (by simpa using World.news_of_block hm) h1 (by decide) (by simp only [maxLen]; omega) hl (Nat.zero_le _) W.heap.size rfl ?_
  intro g cap w1 hown hg hloc _
  refine h _ w1 (HS.grown ⟨by simpa using hown, fun r hr => ?_⟩ ⟨hg.os, hg.tape, hg.output, hg.size, fun k hk hn => hg.block k hk (fun e => hn e.symm)⟩ (fun k hk => by
    simp only [Value.ownBlock, Option.some.injEq] at hk
    subst hk
    rcases hloc with e | e
    · exact .inl e
    · exact .inr (by omega)) hE)
  rcases List.mem_append.1 hr with hr | hr
  · exact HO.2 r hr
  · simp at hr; rw [hr]; exact hys
/-- A world that only grew, in which one cell holds what it held. -/
def Keep (W : World) (a : Addr) (v : Value) (x : World) : Prop := Below W.heap.size W x ∧ x.cell? a = some v
theorem Keep.start {W : World} {a : Addr} {v : Value} (h : W.cell? a = some v) : Keep W a v W := ⟨Below.refl _ _, h⟩
theorem Keep.below {W : World} {a : Addr} {v : Value} {x x' : World} (h : Keep W a v x) (hb : Below x.heap.size x x') : Keep W a v x' :=
  ⟨below_then h.1 hb, (hb.cell (World.block_lt_of_cell? x a h.2)).trans h.2⟩
section
variable {P : Program} {ops : Array Oper} {rest : List Oper} {o : Oper} {a : Act} {Q : Exit → Act → World → Prop} {l : List Part}
/-- append(v, x) to a row of one's own, behind 'at_builtin'; the variadic's block stands last. -/
theorem satApp {W : World} (E : TypeId) (sz bytes : Nat) (z : Value) (hgd : o.guard = none) (s x : Operand) (t : TypeId)
    (ho : o.op = .call { callee := .builtin .append, args := #[s, x], argTypes := #[t, t] })
    (ht : P.underlying t = some (.slice E)) (hinfo : (P.info? E).map (fun i => (i.zero, i.size, i.bytes)) = some (some z, sz, bytes)) (hz : z.cells.size = sz) (hs0 : 0 < sz) (hb0 : 0 < bytes)
    (v : Value) (rows : List (List Value)) (ys : List Value) (hs : a.eval s = v) (m : Nat) (hx : a.eval x = .slice (some ⟨m, 0, none⟩) 1 1) (hm : W.heap.size = m) (hys : ys.length = sz) (h1 : ∀ u ∈ ys, u.oneCell' = true)
    (HS : Sat (ownR v E sz rows :: l) W) (hE : isErrT E = false) (hl : (rows.length + 1) * bytes ≤ 140737488355328)
    (h : ∀ v1 w1, Sat (ownR v1 E sz (rows ++ [ys]) :: l) w1 → wpList P ops Q rest (a.put o.dst v1) w1) :
    wpList P ops Q (o :: rest) a (W.alloc (.cells ys.toArray E)) :=
  append1L 0 E sz bytes z hgd s x t ho ht hinfo hz hs0 hb0 v rows ys hs m hx hm hys h1 HS.own_ (Nat.zero_le _) hl (fun v1 w1 ho1 hf1 hk1 => h v1 w1 (HS.grown ho1 hf1 hk1 hE))
/-- append(v, u...) to a row of one's own, behind 'at_builtin'. -/
theorem satAppN {W : World} (E : TypeId) (sz bytes : Nat) (z : Value) (hgd : o.guard = none) (s x : Operand) (t : TypeId)
    (ho : o.op = .call { callee := .builtin .append, args := #[s, x], argTypes := #[t, t] })
    (ht : P.underlying t = some (.slice E)) (hinfo : (P.info? E).map (fun i => (i.zero, i.size, i.bytes)) = some (some z, sz, bytes)) (hz : z.cells.size = sz) (hs0 : 0 < sz) (hb0 : 0 < bytes)
    (v : Value) (rows ys : List (List Value)) (hs : a.eval s = v) (A : Option Addr) (n c : Nat) (hx : a.eval x = .slice A n c) (hn : n = ys.length) (hA : A = none → c = 0) (HR : RowsAt W sz A ys)
    (hys : ∀ r, r ∈ ys → r.length = sz) (h1 : ∀ r, r ∈ ys → ∀ u ∈ r, u.oneCell' = true)
    (HS : Sat (ownR v E sz rows :: l) W) (hE : isErrT E = false) (hl : (rows.length + ys.length) * bytes ≤ 140737488355328)
    (h : ∀ v1 w1, Sat (ownR v1 E sz (rows ++ ys) :: l) w1 → wpList P ops Q rest (a.put o.dst v1) w1) :
    wpList P ops Q (o :: rest) a W :=
  appendNL 0 E sz bytes z hgd s x t ho ht hinfo hz hs0 hb0 v rows ys hs A n c hx hn hA HR hys h1 HS.own_ (Nat.zero_le _) hl (fun v1 w1 ho1 hf1 hk1 => h v1 w1 (HS.grown ho1 hf1 hk1 hE))
end
end Go.Proofs.YtigffdmpofcdgaaGreatDoor
end

section
set_option maxRecDepth 100000
namespace Go.Proofs.YtigffdmpofcdgaaGreatDoor
open Go.Proofs.BL Go.Proofs.Peel Go.RowKit
/-- fault.Bound. -/
theorem fbound (l g : Int) (v : Value) (c : List Lk) (w : World) (hc : Chn w v c) : Calls Tryz.prog 57 #[.int .i64 l, .int .i64 g, v] w (ErrNew w (if c = [] then [] else .bnd l g :: c)) := by
  cases c with
  | nil =>
    obtain rfl : v = .nilIface := hc
    go_enter Tryz.func57, Tryz.ntmps57
    go_wp2
    go_ret
    exact ⟨_, rfl, rfl, Below.refl _ _⟩
  | cons x r =>
    have HC := Lib.hid hc
    obtain ⟨b, u, rfl, _⟩ := hc
    go_enter Tryz.func57, Tryz.ntmps57
    go_wp2
    go_ret
    have hb : Below w.heap.size w (w.alloc (.cells #[.iface x.kind.t1 (.pointer (some ⟨b, 0, none⟩)), .int .i64 l, .int .i64 g] 136)) := (Below.refl _ _).alloc (Nat.le_refl _) _
    exact ⟨_, rfl, ⟨_, _, rfl, Blk.new _ _ _, HC.out.below hb, by simp [Lk.kind]⟩, hb⟩

end Go.Proofs.YtigffdmpofcdgaaGreatDoor
end

section
set_option maxRecDepth 100000
namespace Go.Proofs.YtigffdmpofcdgaaGreatDoor
open Go.Proofs.BL Go.Proofs.Peel Go.RowKit
/-- fault.In. -/
theorem fin_ (s : ByteArray) (v : Value) (c : List Lk) (w : World) (hc : Chn w v c) : Calls Tryz.prog 61 #[.string s, v] w (ErrNew w (if c = [] then [] else .in_ s :: c)) := by
  cases c with
  | nil =>
    obtain rfl : v = .nilIface := hc
    go_enter Tryz.func61, Tryz.ntmps61
    go_wp2
    go_ret
    exact ⟨_, rfl, rfl, Below.refl _ _⟩
  | cons x r =>
    have HC := Lib.hid hc
    obtain ⟨b, u, rfl, _⟩ := hc
    go_enter Tryz.func61, Tryz.ntmps61
    go_wp2
    go_ret
    have hb : Below w.heap.size w (w.alloc (.cells #[.iface x.kind.t1 (.pointer (some ⟨b, 0, none⟩)), .string s] 142)) := (Below.refl _ _).alloc (Nat.le_refl _) _
    exact ⟨_, rfl, ⟨_, _, rfl, Blk.new _ _ _, HC.out.below hb, by simp [Lk.kind]⟩, hb⟩
end Go.Proofs.YtigffdmpofcdgaaGreatDoor
end

section
set_option maxRecDepth 100000
namespace Go.Proofs.YtigffdmpofcdgaaGreatDoor
open Go.Proofs.BL Go.Proofs.Peel Go.RowKit
/-- fault.At. -/
theorem fat (p : Int) (v : Value) (c : List Lk) (w : World) (hc : Chn w v c) : Calls Tryz.prog 51 #[.int .i64 p, v] w (ErrNew w (if c = [] then [] else .at_ p :: c)) := by
  cases c with
  | nil =>
    obtain rfl : v = .nilIface := hc
    go_enter Tryz.func51, Tryz.ntmps51
    go_wp2
    go_ret
    exact ⟨_, rfl, rfl, Below.refl _ _⟩
  | cons x r =>
    have HC := Lib.hid hc
    obtain ⟨b, u, rfl, _⟩ := hc
    go_enter Tryz.func51, Tryz.ntmps51
    go_wp2
    go_ret
    have hb : Below w.heap.size w (w.alloc (.cells #[.iface x.kind.t1 (.pointer (some ⟨b, 0, none⟩)), .int .i64 p] 117)) := (Below.refl _ _).alloc (Nat.le_refl _) _
    exact ⟨_, rfl, ⟨_, _, rfl, Blk.new _ _ _, HC.out.below hb, by simp [Lk.kind]⟩, hb⟩
end Go.Proofs.YtigffdmpofcdgaaGreatDoor
end

section
set_option maxRecDepth 100000
namespace Go.Proofs.YtigffdmpofcdgaaGreatDoor
open Go.Proofs.BL Go.Proofs.Peel Go.RowKit
theorem Lk.of_at {x : Lk} (h : x.kind = .at_) : ∃ q, x = .at_ q := by cases x <;> simp [Lk.kind] at h; exact ⟨_, rfl⟩
def placeOf (c : List Lk) : Int := match upto .at_ c with | .at_ p :: _ => p | _ => -1
set_option maxHeartbeats 400000 in
/-- fault.Place. -/
theorem fplace (v : Value) (c : List Lk) (w : World) (hE : ErrT w) (hc : Chn w v c) : Calls Tryz.prog 52 #[v] w (Ans w (.int .i64 (placeOf c))) := by
  have hb0 : Below w.heap.size w (w.alloc (.cells #[.pointer none] 113)) := (Below.refl _ _).alloc (Nat.le_refl _) _
  have HA := Lib.hid (eAs .at_ .at_ rfl c v (.pointer none) w.heap.size _ (hE.below hb0) (hc.below hb0) (Blk.new w #[.pointer none] 113))
  clear hc hE hb0
  go_enter Tryz.func52, Tryz.ntmps52
  go_wp2_with fail
  refine HA.out.mono ?_
  rintro e w' hp
  by_cases hu : upto .at_ c = []
  · obtain ⟨rfl, _⟩ := hp.1 hu
    have HP := Lib.hid hp.own
    have HN := Lib.hid hu
    clear hp hu
    go_wp2
    go_ret
    exact ⟨by unfold placeOf; rw [HN.out]; rfl, HP.out⟩
  · obtain ⟨rfl, _, p, hB, hC⟩ := hp.2 hu
    obtain ⟨x, r, hn⟩ := List.exists_cons_of_ne_nil hu
    rw [hn] at hC
    have hk : x.kind = .at_ := (same_iff _ _).1 (upto_head hn)
    obtain ⟨b2, u2, e2, hX, _⟩ := hC
    obtain ⟨q, rfl⟩ := Lk.of_at hk
    injection e2 with _ e2
    injection e2 with e2
    injection e2 with e2
    injection e2 with e2
    subst e2
    have g0 : w'.cell? ⟨w.heap.size, 0, none⟩ = some (.pointer (some ⟨p, 0, none⟩)) := hB.at_ 0 rfl
    have g1 : w'.cell? ⟨p, 1, none⟩ = some (.int .i64 q) := hX.at_ 1 rfl
    have HP := Lib.hid hp.own
    have HN := Lib.hid hn
    clear hp hB hX hu hn
    go_wp2
    go_ret
    exact ⟨by unfold placeOf; rw [HN.out]; rfl, HP.out⟩
end Go.Proofs.YtigffdmpofcdgaaGreatDoor
end
