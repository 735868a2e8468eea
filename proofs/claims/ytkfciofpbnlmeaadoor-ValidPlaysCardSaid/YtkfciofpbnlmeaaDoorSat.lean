/- Memory in parts: what is held, what nobody writes any more. -/
import Derived.Test.YtkfciofpbnlmeaaDoorCp
import Derived.Test.YtkfciofpbnlmeaaDoorFkb
set_option linter.unusedVariables false
namespace Go.Proofs.YtkfciofpbnlmeaaDoor
open Go.Proofs.BL Go.RowKit

/-- A block of a type that nobody writes. -/
def Imm (w : World) (b : Nat) : Prop := ∃ cs t f, w.heap[b]? = some (.cells cs t f) ∧ isErrT t = true

/-- A part: what is told of a world; G: blocks that nobody writes any more; O: blocks that this part holds. -/
structure Part where
  at_ : World → (Nat → Prop) → (Nat → Prop) → Prop
  keep : ∀ {w w' : World} {G G' O : Nat → Prop}, at_ w G O → (∀ b, O b → b < w.heap.size) → (∀ b, G b → b < w.heap.size) → Fr (fun b => ¬ (G b ∨ O b ∨ Imm w b)) w w' → (∀ b, G b → G' b) → at_ w' G' O

def Holds (w : World) (G : Nat → Prop) : List Part → (Nat → Prop) → Prop
  | [], _ => True
  | A :: l, X => ∃ O : Nat → Prop, A.at_ w G O ∧ (∀ b, O b → X b) ∧ Holds w G l (fun b => X b ∧ ¬ O b)

theorem Holds.wide {w : World} {G : Nat → Prop} : ∀ {l : List Part} {X Y : Nat → Prop}, Holds w G l X → (∀ b, X b → Y b) → Holds w G l Y
  | [], _, _, _, _ => trivial
  | _ :: _, _, _, ⟨O, h, hO, hl⟩, hXY => ⟨O, h, fun b hb => hXY b (hO b hb), Holds.wide hl (fun b h => ⟨hXY b h.1, h.2⟩)⟩

theorem Holds.keep {w w' : World} {G G' : Nat → Prop} : ∀ {l : List Part} {X : Nat → Prop}, Holds w G l X → (∀ b, X b → b < w.heap.size) → (∀ b, G b → b < w.heap.size) → Fr (fun b => ¬ (G b ∨ X b ∨ Imm w b)) w w' → (∀ b, G b → G' b) → Holds w' G' l X
  | [], _, _, _, _, _, _ => trivial
  | A :: l, X, ⟨O, h, hO, hl⟩, hX, hG, hf, hGG => by
    refine ⟨O, A.keep h (fun b hb => hX b (hO b hb)) hG (hf.mono (fun k _ hk => ?_)) hGG, hO, Holds.keep hl (fun b hb => hX b hb.1) hG (hf.mono (fun k _ hk => ?_)) hGG⟩
    · intro h; exact hk (h.elim .inl (fun h => h.elim (fun h => absurd (.inr (.inl (hO k h))) hk) (fun h => .inr (.inr h))))
    · intro h; exact hk (h.elim .inl (fun h => h.elim (fun h => absurd (.inr (.inl h.1)) hk) (fun h => .inr (.inr h))))

/-- These parts lie in the world, apart from one another. -/
def Sat (l : List Part) (w : World) : Prop := ∃ G : Nat → Prop, (∀ b, G b → b < w.heap.size) ∧ Holds w G l (fun b => b < w.heap.size ∧ ¬ G b ∧ ¬ Imm w b)

theorem Sat.nil (w : World) : Sat [] w := ⟨fun _ => False, fun _ h => h.elim, trivial⟩
theorem Imm.fr {w w' : World} {S : Nat → Prop} {b : Nat} (h : Imm w b) (hf : Fr S w w') (hS : ¬ S b) : Imm w' b := by
  obtain ⟨cs, t, f, e, ht⟩ := h
  exact ⟨cs, t, f, (hf.block b (Array.getElem?_eq_some_iff.1 e).1 hS).trans e, ht⟩
theorem Imm.back {w w' : World} {S : Nat → Prop} {b : Nat} (h : Imm w' b) (hf : Fr S w w') (hb : b < w.heap.size) (hS : ¬ S b) : Imm w b := by
  obtain ⟨cs, t, f, e, ht⟩ := h
  exact ⟨cs, t, f, (hf.block b hb hS).symm.trans e, ht⟩

/-- One step: what was written lies in the first part, or is new. -/
theorem Sat.step {A B : Part} {l : List Part} {w w' : World} (h : Sat (A :: l) w)
    (H : ∀ G O, A.at_ w G O → (∀ b, O b → b < w.heap.size ∧ ¬ G b ∧ ¬ Imm w b) → (∀ b, G b → b < w.heap.size) →
      Fr O w w' ∧ ∃ O', (∀ G', (∀ b, G b → G' b) → B.at_ w' G' O') ∧ ∀ b, O' b → (O b ∨ w.heap.size ≤ b) ∧ b < w'.heap.size ∧ ¬ Imm w' b) : Sat (B :: l) w' := by
  obtain ⟨G, hG, O, ha, hO, hl⟩ := h
  obtain ⟨hf, O', hb, hO'⟩ := H G O ha hO hG
  refine ⟨G, fun b hb => Nat.lt_of_lt_of_le (hG b hb) hf.size, O', hb G (fun _ h => h), fun b hb => ⟨(hO' b hb).2.1, ?_, (hO' b hb).2.2⟩, ?_⟩
  · intro hg
    rcases (hO' b hb).1 with h1 | h1
    · exact (hO b h1).2.1 hg
    · have := hG b hg; omega
  · refine (hl.keep (G' := G) (fun b hb => hb.1.1) hG (hf.mono (fun k _ hk h => ?_)) (fun _ h => h)).wide (fun b hb => ⟨⟨Nat.lt_of_lt_of_le hb.1.1 hf.size, hb.1.2.1, fun hi => hb.1.2.2 (hi.back hf hb.1.1 hb.2)⟩, fun h => ?_⟩)
    · rcases h with h | h | h
      · exact (hO k hk).2.1 h
      · exact h.2 hk
      · exact (hO k hk).2.2 h
    · rcases (hO' b h).1 with h1 | h1
      · exact hb.2 h1
      · have := hb.1.1; omega

/-- A step that writes nothing that was there: it may leave a new part. -/
theorem Sat.new {B : Part} {l : List Part} {w w' : World} (h : Sat l w) (hf : Below w.heap.size w w')
    (H : ∃ O', (∀ G', B.at_ w' G' O') ∧ ∀ b, O' b → w.heap.size ≤ b ∧ b < w'.heap.size ∧ ¬ Imm w' b) : Sat (B :: l) w' := by
  obtain ⟨G, hG, hl⟩ := h
  obtain ⟨O', hb, hO'⟩ := H
  have hfr : Fr none_ w w' := Fr.of_below hf
  refine ⟨G, fun b hb => Nat.lt_of_lt_of_le (hG b hb) hf.size, O', hb G, fun b hb => ⟨(hO' b hb).2.1, fun hg => ?_, (hO' b hb).2.2⟩, ?_⟩
  · have := hG b hg; have := (hO' b hb).1; omega
  · refine (hl.keep (G' := G) (fun b hb => hb.1) hG (hfr.mono (fun k _ hk => hk.elim)) (fun _ h => h)).wide (fun b hb => ⟨⟨Nat.lt_of_lt_of_le hb.1 hf.size, hb.2.1, fun hi => hb.2.2 (hi.back hfr hb.1 (fun h => h))⟩, fun h => ?_⟩)
    have := (hO' b h).1; have := hb.1; omega

def emp : Part := ⟨fun _ _ _ => True, fun _ _ _ _ _ => trivial⟩
theorem Sat.drop {A : Part} {l : List Part} {w : World} (h : Sat (A :: l) w) : Sat l w := by
  obtain ⟨G, hG, O, _, _, hl⟩ := h
  exact ⟨G, hG, hl.wide (fun b hb => hb.1)⟩
theorem Sat.below {l : List Part} {w w' : World} (h : Sat l w) (hf : Below w.heap.size w w') : Sat l w' := (Sat.new (B := emp) h hf ⟨fun _ => False, fun _ => trivial, fun _ h => h.elim⟩).drop
theorem Sat.drew {l : List Part} {w : World} (h : Sat l w) : Sat l w.drew := h.below ⟨rfl, rfl, rfl, Nat.le_refl _, fun _ _ => rfl⟩
theorem Sat.drewN {l : List Part} {w : World} (h : Sat l w) (n : Nat) : Sat l (w.drewN n) := h.below ⟨rfl, rfl, rfl, Nat.le_refl _, fun _ _ => rfl⟩
theorem Sat.imp {A B : Part} {l : List Part} {w : World} (h : Sat (A :: l) w) (H : ∀ G O, A.at_ w G O → B.at_ w G O) : Sat (B :: l) w := by
  obtain ⟨G, hG, O, a, hO, hl⟩ := h
  exact ⟨G, hG, O, H G O a, hO, hl⟩
theorem Sat.fact {A : Part} {l : List Part} {w : World} {p : Prop} (h : Sat (A :: l) w) (H : ∀ G O, A.at_ w G O → (∀ b, O b → b < w.heap.size ∧ ¬ Imm w b) → (∀ b, G b → b < w.heap.size) → p) : p := by
  obtain ⟨G, hG, O, a, hO, hl⟩ := h
  exact H G O a (fun b hb => ⟨(hO b hb).1, (hO b hb).2.2⟩) hG
/-- From now on nobody writes it. -/
theorem Sat.rest {A B : Part} {l : List Part} {w : World} (h : Sat (A :: l) w) (H : ∀ G O, A.at_ w G O → B.at_ w (fun b => G b ∨ O b) none_) : Sat (B :: l) w := by
  obtain ⟨G, hG, O, a, hO, hl⟩ := h
  refine ⟨fun b => G b ∨ O b, fun b hb => hb.elim (hG b) (fun h => (hO b h).1), none_, H G O a, fun _ h => h.elim, ?_⟩
  exact (hl.keep (G' := fun b => G b ∨ O b) (fun b hb => hb.1.1) hG (Fr.refl _ _) (fun _ h => .inl h)).wide (fun b hb => ⟨⟨hb.1.1, fun h => h.elim hb.1.2.1 hb.2, hb.1.2.2⟩, fun h => h⟩)
/-- What holds nothing may stand twice. -/
theorem Sat.dup {A B : Part} {l : List Part} {w : World} (h : Sat (A :: l) w) (H : ∀ G O, A.at_ w G O → B.at_ w G none_) : Sat (B :: A :: l) w := by
  obtain ⟨G, hG, O, a, hO, hl⟩ := h
  exact ⟨G, hG, none_, H G O a, fun _ h => h.elim, O, a, fun b hb => ⟨hO b hb, fun h => h⟩, hl.wide (fun b hb => ⟨⟨hb.1, fun h => h⟩, hb.2⟩)⟩
/-- A part that holds nothing, out of what is known. -/
theorem Sat.put {B : Part} {l : List Part} {w : World} (h : Sat l w) (H : ∀ G, B.at_ w G none_) : Sat (B :: l) w := by
  obtain ⟨G, hG, hl⟩ := h
  exact ⟨G, hG, none_, H G, fun _ h => h.elim, hl.wide (fun b hb => ⟨hb, fun h => h⟩)⟩

theorem Sat.s1 {A B : Part} {l : List Part} {w : World} (h : Sat (A :: B :: l) w) : Sat (B :: A :: l) w := by
  obtain ⟨G, hG, O, a, hO, O', b, hO', hl⟩ := h
  exact ⟨G, hG, O', b, fun x hx => (hO' x hx).1, O, a, fun x hx => ⟨hO x hx, fun h => (hO' x h).2 hx⟩, hl.wide (fun x hx => ⟨⟨hx.1.1, hx.2⟩, hx.1.2⟩)⟩
theorem Sat.under {A : Part} {l l' : List Part} {w : World} (H : ∀ G X, Holds w G l X → Holds w G l' X) (h : Sat (A :: l) w) : Sat (A :: l') w := by
  obtain ⟨G, hG, O, a, hO, hl⟩ := h
  exact ⟨G, hG, O, a, hO, H _ _ hl⟩
theorem Holds.swap {A B : Part} {l : List Part} {w : World} {G X : Nat → Prop} (h : Holds w G (A :: B :: l) X) : Holds w G (B :: A :: l) X := by
  obtain ⟨O, a, hO, O', b, hO', hl⟩ := h
  exact ⟨O', b, fun x hx => (hO' x hx).1, O, a, fun x hx => ⟨hO x hx, fun h => (hO' x h).2 hx⟩, hl.wide (fun x hx => ⟨⟨hx.1.1, hx.2⟩, hx.1.2⟩)⟩
theorem Holds.perm {w : World} {l l' : List Part} (p : l.Perm l') : ∀ {G X : Nat → Prop}, Holds w G l X → Holds w G l' X := by
  induction p with
  | nil => exact fun h => h
  | cons A _ ih => exact fun ⟨O, a, hO, hl⟩ => ⟨O, a, hO, ih hl⟩
  | swap A B l => exact fun h => h.swap
  | trans _ _ ih1 ih2 => exact fun h => ih2 (ih1 h)
theorem Sat.perm {w : World} {l l' : List Part} (p : l.Perm l') (h : Sat l w) : Sat l' w := by
  obtain ⟨G, hG, hl⟩ := h
  exact ⟨G, hG, hl.perm p⟩
section
variable {A B C D E F : Part} {l : List Part} {w : World}
theorem Sat.s2 (h : Sat (A :: B :: C :: l) w) : Sat (C :: A :: B :: l) w := h.perm (((List.Perm.swap C B l).cons A).trans (List.Perm.swap C A (B :: l)))
theorem Sat.t2 (h : Sat (C :: A :: B :: l) w) : Sat (A :: B :: C :: l) w := h.perm (((List.Perm.swap C B l).cons A).trans (List.Perm.swap C A (B :: l))).symm
theorem Sat.s3 (h : Sat (A :: B :: C :: D :: l) w) : Sat (D :: A :: B :: C :: l) w := (h.perm ((List.Perm.swap D C l).cons B |>.cons A)).s2
theorem Sat.t3 (h : Sat (D :: A :: B :: C :: l) w) : Sat (A :: B :: C :: D :: l) w := h.t2.perm ((List.Perm.swap D C l).cons B |>.cons A).symm
theorem Sat.s4 (h : Sat (A :: B :: C :: D :: E :: l) w) : Sat (E :: A :: B :: C :: D :: l) w := (h.perm ((List.Perm.swap E D l).cons C |>.cons B |>.cons A)).s3
theorem Sat.t4 (h : Sat (E :: A :: B :: C :: D :: l) w) : Sat (A :: B :: C :: D :: E :: l) w := h.t3.perm ((List.Perm.swap E D l).cons C |>.cons B |>.cons A).symm
theorem Sat.s5 (h : Sat (A :: B :: C :: D :: E :: F :: l) w) : Sat (F :: A :: B :: C :: D :: E :: l) w := (h.perm ((List.Perm.swap F E l).cons D |>.cons C |>.cons B |>.cons A)).s4
theorem Sat.t5 (h : Sat (F :: A :: B :: C :: D :: E :: l) w) : Sat (A :: B :: C :: D :: E :: F :: l) w := h.t4.perm ((List.Perm.swap F E l).cons D |>.cons C |>.cons B |>.cons A).symm
end

/-- Two parts as one. -/
def Part.star (A B : Part) : Part := ⟨fun w G O => ∃ O1 O2 : Nat → Prop, A.at_ w G O1 ∧ B.at_ w G O2 ∧ (∀ b, O1 b → O b) ∧ (∀ b, O2 b → O b ∧ ¬ O1 b), by
  rintro w w' G G' O ⟨O1, O2, a, b, h1, h2⟩ hO hG hf hGG
  refine ⟨O1, O2, A.keep a (fun b hb => hO b (h1 b hb)) hG (hf.mono (fun k _ hk h => hk ?_)) hGG, B.keep b (fun b hb => hO b (h2 b hb).1) hG (hf.mono (fun k _ hk h => hk ?_)) hGG, h1, h2⟩
  · rcases h with h | h | h
    · exact .inl h
    · exact .inr (.inl (h1 k h))
    · exact .inr (.inr h)
  · rcases h with h | h | h
    · exact .inl h
    · exact .inr (.inl (h2 k h).1)
    · exact .inr (.inr h)⟩
theorem Sat.join {A B : Part} {l : List Part} {w : World} (h : Sat (A :: B :: l) w) : Sat (A.star B :: l) w := by
  obtain ⟨G, hG, O, a, hO, O', b, hO', hl⟩ := h
  exact ⟨G, hG, fun b => O b ∨ O' b, ⟨O, O', a, b, fun _ h => .inl h, fun x h => ⟨.inr h, (hO' x h).2⟩⟩, fun b hb => hb.elim (hO b) (fun h => (hO' b h).1), hl.wide (fun x hx => ⟨hx.1.1, fun h => h.elim hx.1.2 hx.2⟩)⟩
theorem Sat.split {A B : Part} {l : List Part} {w : World} (h : Sat (A.star B :: l) w) : Sat (A :: B :: l) w := by
  obtain ⟨G, hG, O, ⟨O1, O2, a, b, h1, h2⟩, hO, hl⟩ := h
  exact ⟨G, hG, O1, a, fun x hx => hO x (h1 x hx), O2, b, fun x hx => ⟨hO x (h2 x hx).1, (h2 x hx).2⟩, hl.wide (fun x hx => ⟨⟨hx.1, fun h => hx.2 (h1 x h)⟩, fun h => hx.2 (h2 x h).1⟩)⟩
def Part.ex {α : Type} (f : α → Part) : Part := ⟨fun w G O => ∃ x, (f x).at_ w G O, fun ⟨x, h⟩ hO hG hf hGG => ⟨x, (f x).keep h hO hG hf hGG⟩⟩
theorem Sat.open_ {α : Type} {f : α → Part} {l : List Part} {w : World} (h : Sat (Part.ex f :: l) w) : ∃ x, Sat (f x :: l) w := by
  obtain ⟨G, hG, O, ⟨x, a⟩, hO, hl⟩ := h
  exact ⟨x, G, hG, O, a, hO, hl⟩
theorem Sat.shut {α : Type} {f : α → Part} (x : α) {l : List Part} {w : World} (h : Sat (f x :: l) w) : Sat (Part.ex f :: l) w := h.imp (fun _ _ a => ⟨x, a⟩)
def Part.when (p : Prop) (A : Part) : Part := ⟨fun w G O => p ∧ A.at_ w G O, fun ⟨hp, h⟩ hO hG hf hGG => ⟨hp, A.keep h hO hG hf hGG⟩⟩
theorem Sat.when_ {p : Prop} {A : Part} {l : List Part} {w : World} (h : Sat (Part.when p A :: l) w) : p ∧ Sat (A :: l) w := ⟨h.fact (fun _ _ a _ _ => a.1), h.imp (fun _ _ a => a.2)⟩
theorem Sat.with_ {p : Prop} {A : Part} {l : List Part} {w : World} (hp : p) (h : Sat (A :: l) w) : Sat (Part.when p A :: l) w := h.imp (fun _ _ a => ⟨hp, a⟩)

/-- A block, held. -/
def blk (b : Nat) (cs : Array Value) (t : TypeId) : Part := ⟨fun w _ O => Blk w b cs t ∧ O b, fun ⟨h, ho⟩ hO hG hf hGG => ⟨h.fr hf (fun hn => hn (.inr (.inl ho))), ho⟩⟩
/-- A block of any kind, held. -/
def objP (b : Nat) (o : Obj) : Part := ⟨fun w _ O => w.heap[b]? = some o ∧ O b, fun ⟨h, ho⟩ hO hG hf hGG => ⟨(hf.block b (hO b ho) (fun hn => hn (.inr (.inl ho)))).trans h, ho⟩⟩
/-- A block that nobody writes. -/
def roBlk (b : Nat) (cs : Array Value) (t : TypeId) : Part := ⟨fun w G _ => Blk w b cs t ∧ G b, fun ⟨h, ho⟩ hO hG hf hGG => ⟨h.fr hf (fun hn => hn (.inl ho)), hGG b ho⟩⟩
/-- A row of one's own. -/
def ownR (v : Value) (E : TypeId) (sz : Nat) (rows : List (List Value)) : Part := ⟨fun w _ O => Own w 0 E sz v rows ∧ ∀ k, v.ownBlock = some k → O k, fun ⟨h, ho⟩ hO hG hf hGG => ⟨h.fr hf (fun k hk hn => hn (.inr (.inl (ho k hk)))), ho⟩⟩
/-- Rows that nobody writes. -/
def roR (sz : Nat) (A : Option Addr) (rows : List (List Value)) : Part := ⟨fun w G _ => RowsAt w sz A rows ∧ (rows ≠ [] → ∀ a, A = some a → G a.block), fun ⟨h, ho⟩ hO hG hf hGG => by
  refine ⟨?_, fun hr a ha => hGG _ (ho hr a ha)⟩
  cases rows with
  | nil => exact RowsAt.nil _ _ _
  | cons r rs => exact h.fr hf (fun a ha hn => hn (.inl (ho (by simp) a ha)))⟩
/-- All that was there at W. -/
def old (W : World) : Part := ⟨fun w G _ => Below W.heap.size W w ∧ ∀ b, b < W.heap.size → G b, fun ⟨h, ho⟩ hO hG hf hGG =>
  ⟨((Fr.of_below (S := none_) h).trans hf (fun i hi hn => absurd (.inl (ho i hi)) hn)).below, fun b hb => hGG b (ho b hb)⟩⟩
def chn (v : Value) (c : List Lk) : Part := ⟨fun w _ _ => Chn w v c, fun h hO hG hf hGG => h.fr hf (fun k cs t f hk hh => by
  cases ht : isErrT t with
  | false => rfl
  | true => exact absurd (.inr (.inr ⟨cs, t, f, hh, ht⟩)) hk)⟩

theorem not_imm {w : World} {b : Nat} {cs : Array Value} {t : TypeId} {f : Nat × Nat} (h : w.heap[b]? = some (.cells cs t f)) (ht : isErrT t = false) : ¬ Imm w b := by
  rintro ⟨cs', t', f', e, h'⟩
  rw [h] at e
  injection e with e
  injection e with _ e
  subst e
  rw [ht] at h'
  cases h'
theorem not_imm_own {w : World} {base : Nat} {v : Value} {E : TypeId} {sz : Nat} {rows : List (List Value)} (h : Own w base E sz v rows) (ht : isErrT E = false) : ∀ k, v.ownBlock = some k → ¬ Imm w k := by
  rintro k hk ⟨cs', t', f', e, h'⟩
  rw [h.own_type k hk e, ht] at h'
  cases h'
section
variable {l : List Part} {w : World}
theorem Sat.alloc (h : Sat l w) (cs : Array Value) (t : TypeId) (ht : isErrT t = false := by rfl) : Sat (blk w.heap.size cs t :: l) (w.alloc (.cells cs t)) :=
  h.new ((Below.refl _ _).alloc (Nat.le_refl _) _) ⟨fun b => b = w.heap.size, fun G => ⟨Blk.new _ _ _, rfl⟩, fun b hb => by subst hb; exact ⟨Nat.le_refl _, by simp, not_imm (Blk.new w cs t) ht⟩⟩
theorem Sat.allocO (h : Sat l w) (o : Obj) (ho : ∀ cs t f, o ≠ .cells cs t f) : Sat (objP w.heap.size o :: l) (w.alloc o) :=
  h.new ((Below.refl _ _).alloc (Nat.le_refl _) _) ⟨fun b => b = w.heap.size, fun G => ⟨heap_alloc_new w o, rfl⟩, fun b hb => by
    subst hb
    refine ⟨Nat.le_refl _, by simp, ?_⟩
    rintro ⟨cs, t, f, e, _⟩
    rw [heap_alloc_new w o] at e
    injection e with e
    exact ho _ _ _ e⟩
theorem Sat.set {b : Nat} {cs : Array Value} {t : TypeId} (h : Sat (blk b cs t :: l) w) (i : Nat) (u : Value) : Sat (blk b (cs.setIfInBounds i u) t :: l) (w.setCell ⟨b, i, none⟩ u) :=
  h.step fun G O ⟨hb, ho⟩ hO hG => ⟨(Fr.refl _ _).setCell (.inr ho) u, fun k => k = b, fun G' _ => ⟨hb.set i u, rfl⟩, fun k hk => by
    subst hk
    refine ⟨.inl ho, by have := hb.lt; simpa [World.setCell] using this, fun him => ?_⟩
    obtain ⟨_, _, _, e, ht⟩ := him
    have h2 : Blk (w.setCell ⟨k, i, none⟩ u) k _ t := hb.set i u
    unfold Blk at h2
    rw [e] at h2
    injection h2 with h2
    injection h2 with _ h2
    subst h2
    exact (hO k ho).2.2 ⟨_, _, _, hb, ht⟩⟩
theorem Sat.blk_ {b : Nat} {cs : Array Value} {t : TypeId} (h : Sat (blk b cs t :: l) w) : Blk w b cs t := h.fact (fun _ _ a _ _ => a.1)
theorem Sat.ro_ {b : Nat} {cs : Array Value} {t : TypeId} (h : Sat (roBlk b cs t :: l) w) : Blk w b cs t := h.fact (fun _ _ a _ _ => a.1)
theorem Sat.own_ {v : Value} {E : TypeId} {sz : Nat} {rows : List (List Value)} (h : Sat (ownR v E sz rows :: l) w) : Own w 0 E sz v rows := h.fact (fun _ _ a _ _ => a.1)
theorem Sat.rows_ {A : Option Addr} {sz : Nat} {rows : List (List Value)} (h : Sat (roR sz A rows :: l) w) : RowsAt w sz A rows := h.fact (fun _ _ a _ _ => a.1)
theorem Sat.chn_ {v : Value} {c : List Lk} (h : Sat (chn v c :: l) w) : Chn w v c := h.fact (fun _ _ a _ _ => a)
theorem Sat.old_ {W : World} (h : Sat (old W :: l) w) : Below W.heap.size W w := h.fact (fun _ _ a _ _ => a.1)
theorem Sat.obj_ {b : Nat} {o : Obj} (h : Sat (objP b o :: l) w) : w.heap[b]? = some o := h.fact (fun _ _ a _ _ => a.1)
theorem Sat.start (W : World) : Sat [old W] W := ⟨fun b => b < W.heap.size, fun _ h => h, none_, ⟨Below.refl _ _, fun _ h => h⟩, fun _ h => h.elim, trivial⟩
theorem Sat.old_rows {W : World} (h : Sat (old W :: l) w) {sz : Nat} {A : Option Addr} {rows : List (List Value)} (hr : RowsAt W sz A rows) (hs : 0 < sz) (hl : ∀ r, r ∈ rows → r.length = sz) : Sat (roR sz A rows :: old W :: l) w :=
  h.dup fun G O ⟨hb, hg⟩ => ⟨hr.below hb, fun hne a ha => by
    obtain ⟨r, rs, rfl⟩ := List.exists_cons_of_ne_nil hne
    obtain ⟨b, o, e, hc⟩ := hr 0 r rfl
    rw [ha] at e
    injection e with e
    subst e
    have hlr := hl r (by simp)
    obtain ⟨x, xs, rfl⟩ := List.exists_cons_of_ne_nil (show r ≠ [] from fun e => by subst e; simp at hlr; omega)
    exact hg b (World.block_lt_of_cell? W ⟨b, o + 0 * sz + 0, none⟩ (hc 0 x rfl))⟩
theorem Sat.two {A : Option Addr} {sz : Nat} {rows : List (List Value)} (h : Sat (roR sz A rows :: l) w) : Sat (roR sz A rows :: roR sz A rows :: l) w := h.dup (fun _ _ a => a)
theorem Sat.twoB {b : Nat} {cs : Array Value} {t : TypeId} (h : Sat (roBlk b cs t :: l) w) : Sat (roBlk b cs t :: roBlk b cs t :: l) w := h.dup (fun _ _ a => a)
theorem Sat.twoC {v : Value} {c : List Lk} (h : Sat (chn v c :: l) w) : Sat (chn v c :: chn v c :: l) w := h.dup (fun _ _ a => a)
/-- A row of one's own that is not written any more. -/
theorem Sat.still {v : Value} {E : TypeId} {sz : Nat} {rows : List (List Value)} (h : Sat (ownR v E sz rows :: l) w) : ∃ A c, v = .slice A rows.length c ∧ rows.length ≤ c ∧ (A = none → c = 0) ∧ Sat (roR sz A rows :: l) w := by
  obtain ⟨A, c, e, hc, hn, hr⟩ := h.own_.slv'
  refine ⟨A, c, e, hc, hn, h.rest (fun G O ⟨a, ho⟩ => ⟨?_, fun _ x hx => .inr (ho _ ?_)⟩)⟩
  · exact hr
  · subst hx
    rw [e]
    rcases a.1.2 with ⟨h1, _⟩ | ⟨g, cap, cur, h1, _⟩
    · rw [e] at h1; cases h1
    · rw [e] at h1; injection h1 with h1; injection h1 with h1; subst h1; rfl
theorem Sat.stillB {b : Nat} {cs : Array Value} {t : TypeId} (h : Sat (blk b cs t :: l) w) : Sat (roBlk b cs t :: l) w := h.rest (fun G O ⟨a, ho⟩ => ⟨a, .inr ho⟩)
theorem Sat.ne {b b' : Nat} {cs cs' : Array Value} {t t' : TypeId} (h : Sat (blk b cs t :: blk b' cs' t' :: l) w) : b ≠ b' := by
  obtain ⟨G, hG, O, ⟨_, a⟩, hO, O', ⟨_, b⟩, hO', hl⟩ := h
  rintro rfl
  exact (hO' _ b).2 a
theorem Sat.ne_own {b : Nat} {cs : Array Value} {t : TypeId} {v : Value} {E : TypeId} {sz : Nat} {rows : List (List Value)} (h : Sat (blk b cs t :: ownR v E sz rows :: l) w) : ∀ k, v.ownBlock = some k → k ≠ b := by
  obtain ⟨G, hG, O, ⟨_, a⟩, hO, O', ⟨_, hb⟩, hO', hl⟩ := h
  rintro k hk rfl
  exact (hO' _ (hb k hk)).2 a
theorem Sat.ne_ro {b b' : Nat} {cs cs' : Array Value} {t t' : TypeId} (h : Sat (blk b cs t :: roBlk b' cs' t' :: l) w) : b ≠ b' := by
  obtain ⟨G, hG, O, ⟨_, a⟩, hO, O', ⟨_, g⟩, hO', hl⟩ := h
  rintro rfl
  exact (hO _ a).2.1 g
theorem Sat.nilR (h : Sat l w) (E : TypeId) (sz : Nat) : Sat (ownR (.slice none 0 0) E sz [] :: l) w := h.put (fun G => ⟨Own.nil _ _ _ _, fun k hk => by simp [Value.ownBlock] at hk⟩)
theorem Sat.nilC (h : Sat l w) : Sat (chn .nilIface [] :: l) w := h.put (fun G => rfl)
/-- Behind a call that only makes: a row of one's own. -/
theorem Sat.made {w' : World} {v : Value} {E : TypeId} {sz : Nat} {rows : List (List Value)} (h : Sat l w) (hb : Below w.heap.size w w') (ho : Own w' w.heap.size E sz v rows) (ht : isErrT E = false := by rfl) : Sat (ownR v E sz rows :: l) w' :=
  h.new hb ⟨fun k => v.ownBlock = some k, fun G => ⟨⟨⟨ho.1.1, ho.1.2.elim .inl (fun ⟨g, cap, cur, hv, hbb, r⟩ => .inr ⟨g, cap, cur, hv, Nat.zero_le _, r⟩)⟩, ho.2⟩, fun _ h => h⟩, fun b hb2 => ⟨(ho.1.lt b hb2).1, (ho.1.lt b hb2).2, not_imm_own ho ht b hb2⟩⟩
/-- Behind a call that makes an error. -/
theorem Sat.err {w' : World} {v : Value} {c : List Lk} (h : Sat l w) (hb : Below w.heap.size w w') (hc : Chn w' v c) : Sat (chn v c :: l) w' :=
  h.new hb ⟨none_, fun G => hc, fun _ h => h.elim⟩
/-- What an append leaves. -/
theorem Sat.grown {w' : World} {v v' : Value} {E : TypeId} {sz : Nat} {rows rows' : List (List Value)} (h : Sat (ownR v E sz rows :: l) w) (ho : Own w' 0 E sz v' rows') (hf : Fr (fun k => v.ownBlock = some k) w w')
    (hk : ∀ k, v'.ownBlock = some k → v.ownBlock = some k ∨ w.heap.size ≤ k) (ht : isErrT E = false := by rfl) : Sat (ownR v' E sz rows' :: l) w' :=
  h.step fun G O ⟨a, hO⟩ hX hG => ⟨hf.mono (fun k _ h => hO k h), fun k => v'.ownBlock = some k, fun G' _ => ⟨ho, fun _ h => h⟩, fun b hb => ⟨(hk b hb).elim (fun h => .inl (hO b h)) .inr, (ho.1.lt b hb).2, not_imm_own ho ht b hb⟩⟩
end
end Go.Proofs.YtkfciofpbnlmeaaDoor
