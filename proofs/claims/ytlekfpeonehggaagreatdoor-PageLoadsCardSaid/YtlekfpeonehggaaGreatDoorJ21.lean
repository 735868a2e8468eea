/- Pages: a list of rows of one's own; what a store is. -/
import Derived.Test.YtlekfpeonehggaaGreatDoorJ12
import Derived.Test.YtlekfpeonehggaaGreatDoorJ13
import Derived.Test.YtlekfpeonehggaaGreatDoorJ15
import Derived.Test.YtlekfpeonehggaaGreatDoorJ16
import Derived.Test.YtlekfpeonehggaaGreatDoorJ19
import Derived.Test.YtlekfpeonehggaaGreatDoorJ20
section
set_option linter.unusedVariables false
set_option maxRecDepth 100000
namespace Go.Proofs.YtlekfpeonehggaaGreatDoor
open Go.Proofs.BL Go.Proofs.Peel Go.RowKit Go.Proofs.Ky

def noP : Part := Part.when False emp
def pagesP : List Value → List (List Rw) → Part
  | [], [] => emp
  | v :: vs, r :: rs => (ownW v 29 2 (rwR r)).star (pagesP vs rs)
  | _, _ => noP
section
variable {l : List Part} {w : World}
theorem Sat.noP_ {p : Prop} (h : Sat (noP :: l) w) : p := h.when_.1.elim
theorem Sat.pagesLen : ∀ {vs : List Value} {P : List (List Rw)}, Sat (pagesP vs P :: l) w → vs.length = P.length
  | [], [], _ => rfl
  | [], _ :: _, h => Sat.noP_ h
  | _ :: _, [], h => Sat.noP_ h
  | v :: vs, r :: rs, h => by
    have := Sat.pagesLen (vs := vs) (P := rs) h.split.drop
    rw [List.length_cons, List.length_cons, this]
theorem Sat.join1 {A B C : Part} (h : Sat (A :: B :: C :: l) w) : Sat (A :: B.star C :: l) w := h.s2.s2.join.s1
theorem Sat.split1 {A B C : Part} (h : Sat (A :: B.star C :: l) w) : Sat (A :: B :: C :: l) w := h.s1.split.s2
/-- One page taken out. -/
theorem Sat.pageOut : ∀ {vs : List Value} {P : List (List Rw)} {l : List Part} {i : Nat} {r : List Rw}, Sat (pagesP vs P :: l) w → P[i]? = some r → ∃ v, vs[i]? = some v ∧ Sat (ownW v 29 2 (rwR r) :: pagesP (vs.eraseIdx i) (P.eraseIdx i) :: l) w
  | [], [], _, i, _, _, hi => by simp at hi
  | [], _ :: _, _, _, _, h, _ => Sat.noP_ h
  | _ :: _, [], _, _, _, h, _ => Sat.noP_ h
  | v :: vs, r :: rs, l, 0, _, h, hi => by
    simp only [List.getElem?_cons_zero, Option.some.injEq] at hi
    subst hi
    exact ⟨v, rfl, h.split⟩
  | v :: vs, r :: rs, l, i + 1, q, h, hi => by
    simp only [List.getElem?_cons_succ] at hi
    obtain ⟨u, hu, h2⟩ := Sat.pageOut (l := ownW v 29 2 (rwR r) :: l) h.split.s1 hi
    exact ⟨u, by simpa using hu, h2.s2.s1.join1⟩
theorem Sat.pageIn {v : Value} {r : List Rw} : ∀ {vs : List Value} {P : List (List Rw)} {l : List Part} (i : Nat), Sat (ownW v 29 2 (rwR r) :: pagesP vs P :: l) w → i ≤ P.length → Sat (pagesP (vs.insertIdx i v) (P.insertIdx i r) :: l) w
  | vs, P, l, 0, h, _ => h.join
  | [], [], _, i + 1, _, hi => by simp at hi
  | [], _ :: _, _, _, h, _ => Sat.noP_ h.drop
  | _ :: _, [], _, _, h, _ => Sat.noP_ h.drop
  | u :: us, p :: ps, l, i + 1, h, hi => by
    have h2 := Sat.pageIn (vs := us) (P := ps) (l := ownW u 29 2 (rwR p) :: l) i h.split1.s2.s1 (by simpa using hi)
    exact h2.s1.join
theorem erase_in {α : Type _} {x : α} : ∀ {l : List α} {i : Nat}, i < l.length → (l.eraseIdx i).insertIdx i x = l.set i x
  | [], _, h => by simp at h
  | _ :: _, 0, _ => rfl
  | a :: l, i + 1, h => by
    have := erase_in (x := x) (l := l) (i := i) (by simpa using h)
    simpa using this
theorem Sat.pageBack {v : Value} {r : List Rw} {vs : List Value} {P : List (List Rw)} {i : Nat} (h : Sat (ownW v 29 2 (rwR r) :: pagesP (vs.eraseIdx i) (P.eraseIdx i) :: l) w) (hi : i < P.length) (hv : vs.length = P.length) : Sat (pagesP (vs.set i v) (P.set i r) :: l) w := by
  have h2 := h.pageIn i (by rw [List.length_eraseIdx, if_pos hi]; omega)
  rwa [erase_in hi, erase_in (by omega)] at h2
theorem Sat.pageAt {vs : List Value} {P : List (List Rw)} {i : Nat} {r : List Rw} (h : Sat (pagesP vs P :: l) w) (hi : P[i]? = some r) : ∃ v, vs[i]? = some v ∧ OwnW w 0 29 2 v (rwR r) := by
  obtain ⟨v, hv, h2⟩ := h.pageOut hi
  exact ⟨v, hv, h2.ownW_⟩
end
def lfR (vs : List Value) : List (List Value) := vs.map fun v => [v]
theorem lfR_len (vs : List Value) : (lfR vs).length = vs.length := List.length_map _
theorem lfR_two (vs : List Value) : ∀ r ∈ lfR vs, r.length = 1 := fun r hr => by obtain ⟨x, _, rfl⟩ := List.mem_map.1 hr; rfl
theorem lfR_at {vs : List Value} {i : Nat} {v : Value} (h : vs[i]? = some v) : (lfR vs)[i]? = some [v] := by rw [lfR, List.getElem?_map, h]; rfl
theorem lfR_set (vs : List Value) (i : Nat) (v : Value) : lfR (vs.set i v) = (lfR vs).set i [v] := by rw [lfR, List.map_set]; rfl
/-- What is in a store: most, the pages. -/
def stB (p : Nat) (most n : Int) (L : Value) : Part := blk p #[.int .i64 most, L, .int .i64 n] 57
def stP (p : Nat) (most : Int) (P : List (List Rw)) : Part := Part.ex fun (x : Value × List Value) => (stB p most P.flatten.length x.1).star ((ownW x.1 59 1 (lfR x.2)).star (pagesP x.2 P))
section
variable {l : List Part} {w : World}
theorem Sat.openSt {p : Nat} {most : Int} {P : List (List Rw)} (h : Sat (stP p most P :: l) w) : ∃ L vs, vs.length = P.length ∧ Sat (stB p most P.flatten.length L :: ownW L 59 1 (lfR vs) :: pagesP vs P :: l) w := by
  obtain ⟨⟨L, vs⟩, h⟩ := h.open_
  have h2 := h.split.split1
  exact ⟨L, vs, h2.drop.drop.pagesLen, h2⟩
theorem Sat.shutSt {p : Nat} {most n : Int} {L : Value} {vs : List Value} {P : List (List Rw)} (h : Sat (stB p most n L :: ownW L 59 1 (lfR vs) :: pagesP vs P :: l) w) (hn : n = P.flatten.length) : Sat (stP p most P :: l) w := by
  subst hn
  exact Sat.shut (f := fun (x : Value × List Value) => (stB p most P.flatten.length x.1).star ((ownW x.1 59 1 (lfR x.2)).star (pagesP x.2 P))) (L, vs) h.join1.join
end
end Go.Proofs.YtlekfpeonehggaaGreatDoor
end
