/- Chapter 16: lists of texts that nobody writes any more; what a history is. -/
import Derived.Test.YtkfciofpbnlmeaaDoorObj
import Derived.Test.YtkfciofpbnlmeaaDoorVa
import Derived.Test.YtkfciofpbnlmeaaDoorSb
set_option linter.unusedVariables false
set_option linter.unusedSimpArgs false
set_option maxRecDepth 100000
namespace Go.Proofs.YtkfciofpbnlmeaaDoor
open Go.Proofs.BL Go.Proofs.Peel Go.RowKit Go.Proofs.Vl

abbrev Str := ByteArray
def enS (s : Str) : List Value := [.string s]
def rwS (l : List Str) : List (List Value) := l.map enS
theorem rwS_len (l : List Str) : (rwS l).length = l.length := by simp [rwS]
theorem rwS_one (l : List Str) : ∀ r ∈ rwS l, ∀ u ∈ r, u.oneCell' = true := fun r hr u hu => by
  obtain ⟨x, _, rfl⟩ := List.mem_map.1 hr
  simp [enS] at hu
  subst hu
  rfl
theorem rwS_two (l : List Str) : ∀ r ∈ rwS l, r.length = 1 := fun r hr => by obtain ⟨x, _, rfl⟩ := List.mem_map.1 hr; rfl
theorem txtAt {w : World} {A : Option Addr} {l : List Str} (h : RowsAt w 1 A (rwS l)) {i : Nat} {r : Str} (hi : l[i]? = some r) :
    ∃ b o, A = some ⟨b, o, none⟩ ∧ w.cell? ⟨b, o + i, none⟩ = some (.string r) := by
  obtain ⟨b, o, e, hc⟩ := h i (enS r) (by rw [rwS, List.getElem?_map, hi]; rfl)
  have := hc 0 _ rfl
  rw [Nat.mul_one, Nat.add_zero] at this
  exact ⟨b, o, e, this⟩
def lfR (vs : List Value) : List (List Value) := vs.map fun v => [v]
theorem lfR_len (vs : List Value) : (lfR vs).length = vs.length := List.length_map _
theorem lfR_two (vs : List Value) : ∀ r ∈ lfR vs, r.length = 1 := fun r hr => by obtain ⟨x, _, rfl⟩ := List.mem_map.1 hr; rfl
theorem lfR_at {vs : List Value} {i : Nat} {v : Value} (h : vs[i]? = some v) : (lfR vs)[i]? = some [v] := by rw [lfR, List.getElem?_map, h]; rfl
/-- Lists of texts, each as its slice value reads. -/
structure RoL (w : World) (G : Nat → Prop) (vs : List Value) (L : List (List Str)) : Prop where
  n : vs.length = L.length
  at_ : ∀ (i : Nat) (s : List Str), L[i]? = some s → ∃ A c, vs[i]? = some (.slice A s.length c) ∧ s.length ≤ c ∧ (A = none → c = 0) ∧ (∀ a, A = some a → a.spot = none) ∧ RowsAt w 1 A (rwS s) ∧ (s ≠ [] → ∀ a, A = some a → G a.block)
def roL (vs : List Value) (L : List (List Str)) : Part := ⟨fun w G _ => RoL w G vs L, fun h hO hG hf hGG => ⟨h.n, fun i s hi => by
  obtain ⟨A, c, h1, h2, h3, h4, h5, h6⟩ := h.at_ i s hi
  refine ⟨A, c, h1, h2, h3, h4, ?_, fun hr a ha => hGG _ (h6 hr a ha)⟩
  cases s with
  | nil => exact RowsAt.nil _ _ _
  | cons r rs => exact h5.fr hf (fun a ha hn => hn (.inl (h6 (by simp) a ha)))⟩⟩
section
variable {l : List Part} {w : World}
theorem Sat.roL_ {vs : List Value} {L : List (List Str)} (h : Sat (roL vs L :: l) w) : vs.length = L.length ∧ ∀ (i : Nat) (s : List Str), L[i]? = some s → ∃ A c, vs[i]? = some (.slice A s.length c) ∧ s.length ≤ c ∧ (A = none → c = 0) ∧ (∀ a, A = some a → a.spot = none) ∧ RowsAt w 1 A (rwS s) :=
  h.fact (fun G O a _ _ => ⟨a.n, fun i s hi => by obtain ⟨A, c, h1, h2, h3, h4, h5, _⟩ := a.at_ i s hi; exact ⟨A, c, h1, h2, h3, h4, h5⟩⟩)
theorem Sat.roLnil (h : Sat l w) : Sat (roL [] [] :: l) w := h.put (fun G => ⟨rfl, fun i s hi => by simp at hi⟩)
theorem Sat.roLdrop {vs : List Value} {L : List (List Str)} (n : Nat) (h : Sat (roL vs L :: l) w) : Sat (roL (vs.drop n) (L.drop n) :: l) w :=
  h.imp (fun G O a => ⟨by rw [List.length_drop, List.length_drop, a.n], fun i s hi => by
    rw [List.getElem?_drop] at hi
    obtain ⟨A, c, h1, h2⟩ := a.at_ _ s hi
    exact ⟨A, c, by rw [List.getElem?_drop]; exact h1, h2⟩⟩)
theorem Sat.roLtwo {vs : List Value} {L : List (List Str)} (h : Sat (roL vs L :: l) w) : Sat (roL vs L :: roL vs L :: l) w := h.dup (fun _ _ a => a)
theorem Sat.roLsnoc {vs : List Value} {L : List (List Str)} {A : Option Addr} {c : Nat} {s : List Str} (h : Sat (roR 1 A (rwS s) :: roL vs L :: l) w) (hc : s.length ≤ c) (hA : A = none → c = 0) (hsp : ∀ a, A = some a → a.spot = none) :
    Sat (roL (vs ++ [.slice A s.length c]) (L ++ [s]) :: l) w :=
  h.join.imp (fun G O ⟨O1, O2, a, b, _, _⟩ => ⟨by rw [List.length_append, List.length_append, b.n]; rfl, fun i t hi => by
    rcases Nat.lt_trichotomy i L.length with hl | hl | hl
    · rw [List.getElem?_append_left hl] at hi
      obtain ⟨A', c', h1, h2⟩ := b.at_ i t hi
      exact ⟨A', c', by rw [List.getElem?_append_left (by have := b.n; omega)]; exact h1, h2⟩
    · subst hl
      rw [List.getElem?_append_right (Nat.le_refl _), Nat.sub_self, List.getElem?_cons_zero] at hi
      injection hi with hi
      subst hi
      refine ⟨A, c, by rw [List.getElem?_append_right (by have := b.n; omega), b.n, Nat.sub_self]; rfl, hc, hA, hsp, a.1, fun hr x hx => a.2 (fun e => hr ?_) x hx⟩
      have := congrArg List.length e
      rw [rwS_len] at this
      exact List.eq_nil_of_length_eq_zero this
    · rw [List.getElem?_append_right (by omega)] at hi
      obtain ⟨k, hk⟩ : ∃ k, i - L.length = k + 1 := ⟨i - L.length - 1, by omega⟩
      rw [hk] at hi
      simp at hi⟩)
end
/-- A history: its floor, the commits behind it. -/
def hiB (p : Nat) (f : Int) (Lv : Value) : Part := blk p #[.int .i64 f, Lv] 48
def hiP (p : Nat) (f : Int) (L : List (List Str)) : Part := Part.ex fun (x : Value × List Value) => (hiB p f x.1).star ((ownR x.1 23 1 (lfR x.2)).star (roL x.2 L))
section
variable {l : List Part} {w : World}
theorem Sat.join1 {A B C : Part} (h : Sat (A :: B :: C :: l) w) : Sat (A :: B.star C :: l) w := h.s2.s2.join.s1
theorem Sat.split1 {A B C : Part} (h : Sat (A :: B.star C :: l) w) : Sat (A :: B :: C :: l) w := h.s1.split.s2
theorem Sat.openHi {p : Nat} {f : Int} {L : List (List Str)} (h : Sat (hiP p f L :: l) w) : ∃ Lv vs, vs.length = L.length ∧ Sat (hiB p f Lv :: ownR Lv 23 1 (lfR vs) :: roL vs L :: l) w := by
  obtain ⟨⟨Lv, vs⟩, h⟩ := h.open_
  have h2 := h.split.split1
  exact ⟨Lv, vs, h2.drop.drop.roL_.1, h2⟩
theorem Sat.shutHi {p : Nat} {f : Int} {Lv : Value} {vs : List Value} {L : List (List Str)} (h : Sat (hiB p f Lv :: ownR Lv 23 1 (lfR vs) :: roL vs L :: l) w) : Sat (hiP p f L :: l) w :=
  Sat.shut (f := fun (x : Value × List Value) => (hiB p f x.1).star ((ownR x.1 23 1 (lfR x.2)).star (roL x.2 L))) (Lv, vs) h.join1.join
end
/-- What is told of a history that is read. -/
structure HiF (w : World) (p : Nat) (f : Int) (Lv : Value) (vs : List Value) (L : List (List Str)) : Prop where
  b : Blk w p #[.int .i64 f, Lv] 48
  l : Own w 0 23 1 Lv (lfR vs)
  n : vs.length = L.length
  at_ : ∀ (i : Nat) (s : List Str), L[i]? = some s → ∃ A c, vs[i]? = some (.slice A s.length c) ∧ s.length ≤ c ∧ (A = none → c = 0) ∧ (∀ a, A = some a → a.spot = none) ∧ RowsAt w 1 A (rwS s)
theorem HiF.below {w w' : World} {p : Nat} {f : Int} {Lv : Value} {vs : List Value} {L : List (List Str)} (h : HiF w p f Lv vs L) (hb : Below w.heap.size w w') : HiF w' p f Lv vs L :=
  ⟨h.b.below hb, h.l.below hb, h.n, fun i s hi => by obtain ⟨A, c, h1, h2, h3, h4, h5⟩ := h.at_ i s hi; exact ⟨A, c, h1, h2, h3, h4, h5.below hb⟩⟩
theorem Sat.hiF0 {p : Nat} {f : Int} {Lv : Value} {vs : List Value} {L : List (List Str)} {l : List Part} {w : World} (h : Sat (hiB p f Lv :: ownR Lv 23 1 (lfR vs) :: roL vs L :: l) w) : HiF w p f Lv vs L :=
  ⟨h.blk_, h.s1.own_, h.drop.drop.roL_.1, h.drop.drop.roL_.2⟩
theorem Sat.hiF {p : Nat} {f : Int} {L : List (List Str)} {l : List Part} {w : World} (h : Sat (hiP p f L :: l) w) : ∃ Lv vs, HiF w p f Lv vs L ∧ Sat (hiB p f Lv :: ownR Lv 23 1 (lfR vs) :: roL vs L :: l) w := by
  obtain ⟨Lv, vs, _, h2⟩ := h.openHi
  exact ⟨Lv, vs, h2.hiF0, h2⟩
end Go.Proofs.YtkfciofpbnlmeaaDoor
