/- Peeling a run of Sem, load by load and store by store. -/
import Derived.WalkKit
namespace Go.Proofs.Peel

def strip {α : Type} (P : Program) : Sem α → Sem α
  | .program k => strip P (k P)
  | .mark _ k => strip P k
  | s => s
theorem strip_run {α : Type} (P : Program) (s : Sem α) (w : World) : (strip P s).run P w = s.run P w := by
  induction s generalizing w with
  | program k ih => simp only [strip, Sem.run]; exact ih _ _
  | mark m k ih => simp only [strip, Sem.run]; exact ih _
  | _ => rfl
def headLoad {α : Type} (P : Program) (s : Sem α) : Option Addr := match strip P s with | .load _ a _ => some a | _ => none
def afterLoad {α : Type} (P : Program) (s : Sem α) (v : Value) : Sem α := match strip P s with | .load _ _ k => k v | t => t
theorem peel_load {α : Type} {P : Program} {s : Sem α} {a : Addr} {v : Value} {w : World} (h : headLoad P s = some a) (hc : w.cell? a = some v) : s.run P w = (afterLoad P s v).run P w := by
  rw [← strip_run P s w]
  unfold headLoad at h
  unfold afterLoad
  generalize strip P s = t at h ⊢
  cases t <;> simp at h
  subst h
  simp only [Sem.run, hc]
def headStore {α : Type} (P : Program) (s : Sem α) : Option (Addr × Value) := match strip P s with | .store _ a v _ => some (a, v) | _ => none
def afterStore {α : Type} (P : Program) (s : Sem α) : Sem α := match strip P s with | .store _ _ _ k => k | t => t
theorem peel_store {α : Type} {P : Program} {s : Sem α} {a : Addr} {v o : Value} {w : World} (h : headStore P s = some (a, v)) (h1 : v.oneCell' = true) (hc : w.cell? a = some o) (hf : w.frozen? a = false) :
    s.run P w = (afterStore P s).run P (w.setCell a v) := by
  rw [← strip_run P s w]
  unfold headStore at h
  unfold afterStore
  generalize strip P s = t at h ⊢
  cases t <;> simp at h
  obtain ⟨e1, e2⟩ := h
  subst e1
  rename_i m v' k
  rw [← e2] at h1 ⊢
  cases v' <;> simp [Value.oneCell'] at h1 <;> simp [Sem.run, hc, hf]
end Go.Proofs.Peel
