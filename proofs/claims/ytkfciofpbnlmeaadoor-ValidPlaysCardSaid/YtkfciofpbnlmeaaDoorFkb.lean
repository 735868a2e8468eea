/- errors.As by its contract, whatever chain of faults it is handed. -/
import Derived.Test.YtkfciofpbnlmeaaDoorFka
import Derived.Test.YtkfciofpbnlmeaaDoorLib
import Derived.Lib.Hide
namespace Go.Proofs.YtkfciofpbnlmeaaDoor
open Go.Proofs.BL Go.Proofs.Peel Go.RowKit Go.Extern.Stop Go.Stop Go.Extern
set_option maxRecDepth 100000

inductive Lk where
  | num (e : Int)
  | at_ (p : Int)
  | bnd (l g : Int)
def Lk.kind : Lk → FK
  | .num _ => .num
  | .at_ _ => .at_
  | .bnd _ _ => .bnd
def Lk.cells (u : Value) : Lk → Array Value
  | .num e => #[.int .i64 e]
  | .at_ p => #[u, .int .i64 p]
  | .bnd l g => #[u, .int .i64 l, .int .i64 g]
def FK.t0 : FK → TypeId
  | .num => 78
  | .at_ => 75
  | .bnd => 87
def isErrT (t : TypeId) : Bool := (t == 78)
  || (t == 75)
  || (t == 87)
theorem t0_err (k : FK) : isErrT k.t0 = true := by cases k <;> rfl

/-- The interface value v is an error whose chain is c. -/
def Chn (w : World) : Value → List Lk → Prop
  | v, [] => v = .nilIface
  | v, x :: r => ∃ b u, v = .iface x.kind.t1 (.pointer (some ⟨b, 0, none⟩)) ∧ Blk w b (x.cells u) x.kind.t0 ∧ Chn w u r ∧ (x.kind = .num ↔ r = [])

theorem Chn.fr {S : Nat → Prop} {w w' : World} (hf : Fr S w w') (hS : ∀ k cs t f, S k → w.heap[k]? = some (.cells cs t f) → isErrT t = false) : ∀ {c : List Lk} {v : Value}, Chn w v c → Chn w' v c
  | [], _, h => h
  | x :: r, v, ⟨b, u, e, hb, hc, hn⟩ => ⟨b, u, e, hb.fr hf (fun hs => by have := hS b _ _ _ hs hb; rw [t0_err] at this; cases this), hc.fr hf hS, hn⟩
theorem Chn.below {w w' : World} (hf : Below w.heap.size w w') {c : List Lk} {v : Value} (h : Chn w v c) : Chn w' v c :=
  h.fr (S := none_) (Fr.of_below hf) (fun _ _ _ _ h => h.elim)

/-- From the first link of a kind on. -/
def upto (k : FK) : List Lk → List Lk
  | [] => []
  | x :: r => if x.kind.same k then x :: r else upto k r
theorem same_iff (j k : FK) : j.same k = true ↔ j = k := by cases j <;> cases k <;> simp [FK.same, FK.ix]

theorem upto_head {k : FK} : ∀ {c : List Lk} {x : Lk} {r : List Lk}, upto k c = x :: r → x.kind.same k = true
  | [], _, _, h => by cases h
  | y :: c, x, r, h => by
    unfold upto at h
    split at h
    · rename_i hy
      injection h with h1 _
      rw [← h1]
      exact hy
    · exact upto_head h
/-- What errors.As leaves: the found one's pointer in the target's block, or nothing changed. -/
def AsPost (k : FK) (a : Nat) (w : World) (c : List Lk) (e : Ending) (w' : World) : Prop :=
  (upto k c = [] → e = .returned (.bool false) ∧ Below w.heap.size w w') ∧
  (upto k c ≠ [] → e = .returned (.bool true) ∧ Fr (only a) w w' ∧ ∃ p, Blk w' a #[.pointer (some ⟨p, 0, none⟩)] k.t1 ∧ Chn w' (.iface k.t1 (.pointer (some ⟨p, 0, none⟩))) (upto k c))

theorem as_found {c : List Lk} {o : Value} {a b : Nat} {w wr : World} {x : Lk} {r : List Lk} (hs : x.kind.same x.kind = true) (hu : upto x.kind (x :: r) = upto x.kind c)
    (hc : Chn w (.iface x.kind.t1 (.pointer (some ⟨b, 0, none⟩))) (x :: r)) (hb : Below w.heap.size w wr) (ha : Blk wr a #[o] x.kind.t1) :
    AsPost x.kind a w c (.returned (.bool true)) ((wr.alloc (.cells #[.pointer (some ⟨b, 0, none⟩)] x.kind.t1)).setCell ⟨a, 0, none⟩ (.pointer (some ⟨b, 0, none⟩))) := by
  have e : upto x.kind c = x :: r := by rw [← hu]; simp [upto, hs]
  have hf : Fr (only a) w ((wr.alloc (.cells #[.pointer (some ⟨b, 0, none⟩)] x.kind.t1)).setCell ⟨a, 0, none⟩ (.pointer (some ⟨b, 0, none⟩))) :=
    ((Fr.of_below hb).alloc _).setCell (Or.inr (show only a a from rfl)) _
  have hf2 : Fr (only a) wr ((wr.alloc (.cells #[.pointer (some ⟨b, 0, none⟩)] x.kind.t1)).setCell ⟨a, 0, none⟩ (.pointer (some ⟨b, 0, none⟩))) :=
    ((Fr.refl _ _).alloc _).setCell (Or.inr (show only a a from rfl)) _
  refine ⟨fun h => absurd h (by rw [e]; exact List.cons_ne_nil _ _), fun _ => ⟨rfl, hf, b, (ha.alloc _).set 0 _, by
    rw [e]
    refine (hc.below hb).fr hf2 (fun k cs t f hk hh => ?_)
    cases hk
    unfold Blk at ha
    rw [ha] at hh
    injection hh with hh
    injection hh with _ e2 _
    rw [← e2]
    cases x <;> rfl⟩⟩
theorem as_lost {k : FK} {c : List Lk} {a : Nat} {w wr : World} {n : Int} (hs : ¬ (Lk.num n).kind.same k = true) (hu : upto k [Lk.num n] = upto k c) (hb : Below w.heap.size w wr) : AsPost k a w c (.returned (.bool false)) wr := by
  have e : upto k c = [] := by rw [← hu]; simp [upto, hs]
  exact ⟨fun _ => ⟨rfl, hb⟩, fun h => absurd e h⟩

set_option maxHeartbeats 1000000 in
theorem eas (k : FT) (q : FK) (hq : k.fk = q) (c : List Lk) (v o : Value) (a d : Nat) (w : World) (hc : Chn w v c) (hne : c ≠ [])
    (hd : w.cell? ⟨d, 0, none⟩ = some (.pointer (some ⟨a, 0, none⟩))) (ha : Blk w a #[o] q.t1) :
    Calls Tryd.prog 50 #[v, .iface k.t2 (.pointer (some ⟨a, 0, none⟩)), vlu k.t2 d, rty q.t1] w (AsPost q a w c) := by
  have h63 := call63
  have hmA := mAssign
  have h104 := call104
  have h71 := call71e
  have h75 := call75 k
  rw [hq] at h75
  clear hq
  have nA := noAs
  have nU := noUnwraps
  have nN := noUnwrap
  go_enter Tryd.func50, Tryd.ntmps50
  go_wp2
  go_loopg [0] (c.length) (fun n s wr => ∃ c', Chn w s c' ∧ c' ≠ [] ∧ upto q c' = upto q c ∧ n = c'.length ∧ Below (w.heap.size + 1) (w.alloc (.cells #[.pointer (some ⟨1, k.t2, none⟩), .pointer (some ⟨d, 0, none⟩), .int .u64 150] 93)) wr)
  case atStart => exact ⟨c, hc, hne, rfl, rfl, Below.refl _ _⟩
  case round =>
    obtain ⟨c', hc', hne', hup, rfl, hb⟩ := hrel
    have hw0 : Below w.heap.size w wr := (Below.refl _ _).alloc (Nat.le_refl _) _ |>.trans (hb.mono (Nat.le_succ _))
    have hbox := (Blk.new w #[.pointer (some ⟨1, k.t2, none⟩), .pointer (some ⟨d, 0, none⟩), .int .u64 150] 93)
    have hbox' : Blk wr w.heap.size #[.pointer (some ⟨1, k.t2, none⟩), .pointer (some ⟨d, 0, none⟩), .int .u64 150] 93 := (hb.block _ (Nat.lt_succ_self _)).trans hbox
    have g0 : wr.cell? ⟨w.heap.size, 0, none⟩ = some (.pointer (some ⟨1, k.t2, none⟩)) := hbox'.at_ 0 rfl
    have g1 : wr.cell? ⟨w.heap.size, 1, none⟩ = some (.pointer (some ⟨d, 0, none⟩)) := hbox'.at_ 1 rfl
    have g2 : wr.cell? ⟨w.heap.size, 2, none⟩ = some (.int .u64 150) := hbox'.at_ 2 rfl
    have gd : wr.cell? ⟨d, 0, none⟩ = some (.pointer (some ⟨a, 0, none⟩)) := (hw0.cell (World.block_lt_of_cell? w _ hd)).trans hd
    have gA := ha.below hw0
    have ga : wr.cell? ⟨a, 0, none⟩ = some o := gA.at_ 0 rfl
    have gf := gA.free 0
    have HW := Lib.hid hw0
    have HU := Lib.hid hup
    have HB := Lib.hid hb
    have HGA := Lib.hid gA
    have HC := Lib.hid hc
    clear hw0 hup hb gA hbox hbox' ha hd hc hne
    cases c' with
    | nil => exact absurd rfl hne'
    | cons x r =>
      have HC' := Lib.hid hc'
      obtain ⟨b, u, rfl, hx, hr, hn⟩ := hc'
      clear hne'
      by_cases hs : x.kind.same q = true
      · have hk := (same_iff _ _).1 hs
        subst hk
        have HX := Lib.hid hx
        have HR := Lib.hid hr
        have HN := Lib.hid hn
        have h76 := call76 x.kind ⟨a, 0, none⟩ wr.heap.size ⟨b, 0, none⟩ (wr.alloc (.cells #[.pointer (some ⟨b, 0, none⟩)] x.kind.t1)) o ((Blk.new _ _ _).at_ 0 rfl) ((HGA.out.alloc _).at_ 0 rfl) ((HGA.out.alloc _).free 0)
        clear hx hr hn
        go_wp2
        go_ret
        refine as_found (o := o) (hs := hs) (hu := HU.out) (hc := HC'.out) (hb := HW.out) (ha := HGA.out)
      · have HX := Lib.hid hx
        have HN := Lib.hid hn
        cases r with
        | nil =>
          have hk : x.kind = .num := HN.out.2 rfl
          have HR := Lib.hid hr
          cases x <;> simp [Lk.kind] at hk
          simp only [Lk.kind] at *
          clear hx hr hn
          go_wp2
          go_ret
          exact as_lost (hu := HU.out) (hs := hs) (hb := HW.out)
        | cons y r =>
          have hk : x.kind ≠ .num := fun e => by have := HN.out.1 e; cases this
          have HR := Lib.hid hr
          obtain ⟨b', u', rfl, _⟩ := hr
          have gx : wr.cell? ⟨b, 0, none⟩ = some (.iface y.kind.t1 (.pointer (some ⟨b', 0, none⟩))) := (hx.below HW.out).at_ 0 (by cases x <;> first | rfl | exact absurd rfl hk)
          clear hx hn
          have hU := hasUnwrap x.kind hk
          have mU := mUnwrap x.kind hk b _ _ wr gx
          go_wp2_with (go_at_call 90; refine (unwrap97 _ _ _).mono ?_; rintro e w2 ⟨rfl, hb2⟩)
          go_roundg (y :: r).length
          case measure => exact Nat.lt_succ_self _
          case rel => exact ⟨y :: r, HR.out, List.cons_ne_nil _ _, by rw [← HU.out]; simp [upto, hs], rfl, HB.out.trans (hb2.mono (by have := HB.out.size; simpa using this))⟩
theorem AsPost.after {k : FK} {a : Nat} {w w1 : World} {c : List Lk} {e : Ending} {w' : World} (h : AsPost k a w1 c e w') (hb : Below w.heap.size w w1) : AsPost k a w c e w' :=
  ⟨fun hu => ⟨(h.1 hu).1, below_then hb (h.1 hu).2⟩, fun hu => ⟨(h.2 hu).1, (Fr.of_below hb).trans (h.2 hu).2.1 (fun _ _ h => h), (h.2 hu).2.2⟩⟩

/-- The library's own variable errors.errorType. -/
def ErrT (w : World) : Prop := w.cell? ⟨0, 0, none⟩ = some (rty 54)

set_option maxHeartbeats 1000000 in
theorem eAs (k : FT) (q : FK) (hq : k.fk = q) (c : List Lk) (v o : Value) (a : Nat) (w : World) (hE : ErrT w) (hc : Chn w v c) (ha : Blk w a #[o] q.t1) :
    Calls Tryd.prog 41 #[v, .iface k.t2 (.pointer (some ⟨a, 0, none⟩))] w (AsPost q a w c) := by
  cases c with
  | nil =>
    obtain rfl : v = .nilIface := hc
    go_enter Tryd.func41, Tryd.ntmps41
    go_wp2
    go_ret
    exact ⟨fun _ => ⟨rfl, Below.refl _ _⟩, fun h => absurd rfl h⟩
  | cons x r =>
    have HC := Lib.hid hc
    obtain ⟨b, u, rfl, _⟩ := hc
    have hE' : w.cell? ⟨0, 0, none⟩ = some (rty 54) := hE
    have hlt := World.block_lt_of_cell? w _ hE'
    have h71 := call71
    have h72 := call72
    have hm2 := mKind2
    have hm1 := mKind1
    have h91 := call91
    have h91e := call91e
    have hmE := mElem
    have h106 := call106 k
    rw [hq] at h106
    have hmI := mImpl
    have h107 := call107
    have h73 := call73 k w.heap.size ⟨a, 0, none⟩ ((w.alloc (.cells #[.pointer (some ⟨a, 0, none⟩)] k.t2)).alloc (.cells #[.pointer (some ⟨1, k.t2, none⟩), .pointer (some ⟨w.heap.size, 0, none⟩), .int .u64 150] 93)) (((Blk.new _ _ _).alloc _).at_ 0 rfl)
    have hb1 : Below w.heap.size w ((w.alloc (.cells #[.pointer (some ⟨a, 0, none⟩)] k.t2)).alloc (.cells #[.pointer (some ⟨1, k.t2, none⟩), .pointer (some ⟨w.heap.size, 0, none⟩), .int .u64 150] 93)) :=
      ((Below.refl _ _).alloc (Nat.le_refl _) _).alloc (by simp) _
    have H74 := Lib.hid (eas k q hq (x :: r) _ o a w.heap.size _ (HC.out.below hb1) (List.cons_ne_nil _ _) (((Blk.new _ _ _).alloc _).at_ 0 rfl) (ha.below hb1))
    have HB := Lib.hid hb1
    clear ha hb1
    go_enter Tryd.func41, Tryd.ntmps41
    go_wp2_with fail
    refine H74.out.mono ?_
    rintro e w' hp
    have HP := Lib.hid (hp.after HB.out)
    by_cases hu : upto q (x :: r) = []
    · obtain ⟨rfl, _⟩ := hp.1 hu
      clear hp hu
      go_wp2
      go_ret
      exact HP.out
    · obtain ⟨rfl, _⟩ := hp.2 hu
      clear hp hu
      go_wp2
      go_ret
      exact HP.out
end Go.Proofs.YtkfciofpbnlmeaaDoor
