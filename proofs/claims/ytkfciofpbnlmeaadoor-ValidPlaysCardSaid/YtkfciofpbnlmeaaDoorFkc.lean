/- The contracts of package fault: what makes faults, and what asks them. -/
import Derived.Test.YtkfciofpbnlmeaaDoorFkb
import Derived.Deep.QuietTactic
import Derived.BigQuiet
namespace Go.Proofs.YtkfciofpbnlmeaaDoor
open Go.Proofs.BL Go.Proofs.Peel Go.RowKit
set_option maxRecDepth 100000

theorem chn_num {w : World} : ∀ {c : List Lk} {v : Value}, Chn w v c → c ≠ [] → ∃ e, upto .num c = [.num e]
  | [], _, _, h => absurd rfl h
  | x :: r, v, ⟨b, u, _, _, hc, hn⟩, _ => by
    by_cases hk : x.kind = .num
    · have hr := hn.1 hk
      subst hr
      cases x <;> simp [Lk.kind] at hk
      exact ⟨_, rfl⟩
    · have hr : r ≠ [] := fun e => hk (hn.2 e)
      obtain ⟨e, he⟩ := chn_num hc hr
      refine ⟨e, ?_⟩
      have : x.kind.same .num = false := by
        cases h : x.kind.same .num
        · rfl
        · exact absurd ((same_iff _ _).1 h) hk
      simp [upto, this, he]

theorem Lk.of_num {x : Lk} (h : x.kind = .num) : ∃ q, x = .num q := by cases x <;> simp [Lk.kind] at h; exact ⟨_, rfl⟩
/-- A chain's number. -/
def codeOf (c : List Lk) : Int := match upto .num c with | .num e :: _ => e | _ => 0
theorem codeOf_nil : codeOf [] = 0 := rfl

/-- A new error whose chain is c; nothing that was there has turned. -/
def ErrNew (w : World) (c : List Lk) (e : Ending) (w' : World) : Prop := ∃ v, e = .returned v ∧ Chn w' v c ∧ Below w.heap.size w w'

/-- fault.New. -/
theorem fnew (n : Int) (w : World) : Calls Tryd.prog 23 #[.int .i64 n] w (ErrNew w (if n = 0 then [] else [.num n])) := by
  by_cases h : n = 0
  · subst h
    go_enter Tryd.func23, Tryd.ntmps23
    go_wp2
    go_ret
    exact ⟨_, rfl, rfl, Below.refl _ _⟩
  · have h0 : (n == 0) = false := by simpa using h
    have H := Lib.hid h
    clear h
    go_enter Tryd.func23, Tryd.ntmps23
    go_wp2
    go_ret
    exact ⟨_, rfl, ⟨_, .nilIface, rfl, Blk.new _ _ _, rfl, by simp [Lk.kind]⟩, (Below.refl _ _).alloc (Nat.le_refl _) _⟩
/-- The target's own block apart, nothing that was there has turned. -/
theorem AsPost.own {k : FK} {w : World} {o : Obj} {c : List Lk} {e : Ending} {w' : World} (h : AsPost k w.heap.size (w.alloc o) c e w') : Below w.heap.size w w' := by
  have h0 : Below w.heap.size w (w.alloc o) := (Below.refl _ _).alloc (Nat.le_refl _) _
  by_cases hu : upto k c = []
  · exact below_then h0 (h.1 hu).2
  · exact ((Fr.of_below (S := none_) h0).trans (h.2 hu).2.1 (fun i hi hS => by cases hS; omega)).below

/-- What a call answers, and that nothing that was there has turned. -/
def Ans (w : World) (v : Value) (e : Ending) (w' : World) : Prop := e = .returned v ∧ Below w.heap.size w w'

theorem ErrT.below {w w' : World} (h : ErrT w) (hb : Below w.heap.size w w') : ErrT w' := (hb.cell (World.block_lt_of_cell? w _ h)).trans h

set_option maxHeartbeats 400000 in
/-- fault.Code. -/
theorem fcode (v : Value) (c : List Lk) (w : World) (hE : ErrT w) (hc : Chn w v c) : Calls Tryd.prog 24 #[v] w (Ans w (.int .i64 (codeOf c))) := by
  cases c with
  | nil =>
    obtain rfl : v = .nilIface := hc
    go_enter Tryd.func24, Tryd.ntmps24
    go_wp2
    go_ret
    exact ⟨rfl, (Below.refl _ _).alloc (Nat.le_refl _) _⟩
  | cons x r =>
    obtain ⟨n, hn⟩ := chn_num hc (List.cons_ne_nil _ _)
    have hb0 : Below w.heap.size w (w.alloc (.cells #[.pointer none] 76)) := (Below.refl _ _).alloc (Nat.le_refl _) _
    have HA := Lib.hid (eAs .num .num rfl (x :: r) v (.pointer none) w.heap.size _ (hE.below hb0) (hc.below hb0) (Blk.new w #[.pointer none] 76))
    have hv : ∃ b, v = .iface x.kind.t1 (.pointer (some ⟨b, 0, none⟩)) := by obtain ⟨b, u, e, _⟩ := hc; exact ⟨b, e⟩
    obtain ⟨b, rfl⟩ := hv
    have HN := Lib.hid hn
    clear hn hc hE hb0
    go_enter Tryd.func24, Tryd.ntmps24
    go_wp2_with fail
    refine HA.out.mono ?_
    rintro e w' hp
    obtain ⟨rfl, _, p, hB, hC⟩ := hp.2 (by rw [HN.out]; exact List.cons_ne_nil _ _)
    rw [HN.out] at hC
    obtain ⟨b2, u2, e2, hX, _⟩ := hC
    injection e2 with _ e2
    injection e2 with e2
    injection e2 with e2
    injection e2 with e2
    subst e2
    have g0 : w'.cell? ⟨w.heap.size, 0, none⟩ = some (.pointer (some ⟨p, 0, none⟩)) := hB.at_ 0 rfl
    have g1 : w'.cell? ⟨p, 0, none⟩ = some (.int .i64 n) := hX.at_ 0 rfl
    have HP := Lib.hid hp.own
    clear hp hB hX
    go_wp2
    go_ret
    exact ⟨by unfold codeOf; rw [HN.out]; rfl, HP.out⟩

end Go.Proofs.YtkfciofpbnlmeaaDoor
