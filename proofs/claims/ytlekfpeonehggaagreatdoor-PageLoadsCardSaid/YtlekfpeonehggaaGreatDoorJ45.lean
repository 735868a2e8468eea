/- The document's Load: what its loops keep; pages of one's own that nobody writes any more. -/
import Derived.Test.YtlekfpeonehggaaGreatDoorJ43
import Derived.Test.YtlekfpeonehggaaGreatDoorJ44
section
set_option linter.unusedVariables false
set_option linter.unusedSimpArgs false
set_option maxRecDepth 100000
namespace Go.Proofs.YtlekfpeonehggaaGreatDoor
open Go.Proofs.BL Go.Proofs.Peel Go.RowKit Go.Proofs.Ky

theorem rel_nat {bs : List UInt8} {a : Nat} {c : List Lk} {e bad : Int} (h : c = [] ↔ e = 0) :
    (dNat bs a e bad).1 = (rdNat bs a c).1 ∧ (dNat bs a e bad).2.1 = (rdNat bs a c).2.1 ∧ ((rdNat bs a c).2.2 = [] ↔ (dNat bs a e bad).2.2.1 = 0) := by
  by_cases hc : c = []
  · have he := h.1 hc
    subst hc he
    unfold dNat rdNat
    rw [if_pos rfl, if_pos rfl]
    cases hp : pnat (bs.drop a) with
    | none =>
      have : pnD (bs.drop a) = (0, 0) := by rw [pnD, hp]
      rw [this]
      simp [bad6]
    | some nk =>
      obtain ⟨n, k⟩ := nk
      have : pnD (bs.drop a) = (n, k) := by rw [pnD, hp]
      have hk := (pnat_len hp).2.1
      rw [this]
      simp only
      rw [if_neg (by omega)]
      simp
  · have he : ¬ e = 0 := fun h1 => hc (h.2 h1)
    unfold dNat rdNat
    rw [if_neg he, if_neg hc]
    exact ⟨rfl, rfl, h⟩
theorem rel_num {bs : List UInt8} {a : Nat} {c : List Lk} {e bad : Int} (h : c = [] ↔ e = 0) :
    (dNum bs a e bad).1 = (rdNum bs a c).1 ∧ (dNum bs a e bad).2.1 = (rdNum bs a c).2.1 ∧ ((rdNum bs a c).2.2 = [] ↔ (dNum bs a e bad).2.2.1 = 0) := by
  obtain ⟨h1, h2, h3⟩ := rel_nat (bs := bs) (a := a) (bad := bad) h
  exact ⟨by show zag _ = zag _; rw [h1], h2, h3⟩
theorem rel_str {bs : List UInt8} {a : Nat} {c : List Lk} {e bad most : Int} (h : c = [] ↔ e = 0) :
    (dStr bs a e bad most).1 = (rdStr bs a c most).1 ∧ (dStr bs a e bad most).2.1 = (rdStr bs a c most).2.1 ∧ ((rdStr bs a c most).2.2 = [] ↔ (dStr bs a e bad most).2.2.1 = 0) := by
  by_cases hc : c = []
  · have he := h.1 hc
    subst hc he
    unfold dStr rdStr
    rw [if_pos rfl, if_pos rfl]
    cases hp : pstr bs a most with
    | mk o x =>
      cases o with
      | none => simp [pstr_num hp]
      | some sa => simp
  · have he : ¬ e = 0 := fun h1 => hc (h.2 h1)
    unfold dStr rdStr
    rw [if_neg he, if_neg hc]
    exact ⟨rfl, rfl, h⟩
theorem dNum_le {bs : List UInt8} {a : Nat} {e bad : Int} (ha : a ≤ bs.length) : (dNum bs a e bad).2.1 ≤ bs.length := (dNat_le (e := e) (bad := bad) ha).1
/-- How far the loop over a page's rows has come. -/
def MidQ (bs : List UInt8) (R : Option (List Rw × Nat)) (k : Nat) (l : List Rw) (a : Nat) (e : Int) : Prop :=
  l.length ≤ k ∧ (e = 0 → R = (goR bs (k - l.length) a).map (fun x => (l ++ x.1, x.2))) ∧ (¬ e = 0 → R = none)
theorem MidQ.start (bs : List UInt8) (k a : Nat) : MidQ bs (goR bs k a) k [] a 0 := ⟨Nat.zero_le _, fun _ => by simp, fun h => absurd rfl h⟩
theorem MidQ.next {bs : List UInt8} {R : Option (List Rw × Nat)} {k : Nat} {l : List Rw} {a a1 a2 : Nat} {b e1 b1 e2 b2 n : Int} {s : ByteArray} (h : MidQ bs R k l a 0) (hl : l.length < k)
    (hs : dStr bs a 0 b 16 = (s, a1, e1, b1)) (hn : dNum bs a1 e1 b1 = (n, a2, e2, b2)) : MidQ bs R k (l ++ [(s, n)]) a2 e2 := by
  obtain ⟨h1, h2, _⟩ := h
  have h5 := h2 rfl
  obtain ⟨r1, r2, r3⟩ := rel_str (bs := bs) (a := a) (c := []) (e := 0) (bad := b) (most := 16) (by simp)
  rw [hs] at r1 r2 r3
  simp only at r1 r2 r3
  obtain ⟨q1, q2, q3⟩ := rel_num (bs := bs) (a := a1) (bad := b1) r3
  rw [hn] at q1 q2 q3
  simp only at q1 q2 q3
  have e0 : stepR bs a [] = ((s, n), a2, (rdNum bs a1 (rdStr bs a [] 16).2.2).2.2) := by
    rw [stepR, ← r1, ← r2]
    refine Prod.ext (Prod.ext rfl q1.symm) (Prod.ext q2.symm rfl)
  rw [show k - l.length = (k - (l.length + 1)) + 1 from by omega] at h5
  refine ⟨by simp; omega, fun he => ?_, fun he => ?_⟩
  · have hc : (stepR bs a []).2.2 = [] := by rw [e0]; exact q3.2 he
    rw [goR_yes hc] at h5
    rw [h5, e0, List.length_append, List.length_singleton, Option.map_map]
    congr 1
    funext x
    simp
  · have hc : ¬ (stepR bs a []).2.2 = [] := by rw [e0]; exact fun h => he (q3.1 h)
    rw [goR_no hc] at h5
    rw [h5]; rfl
theorem MidQ.done {bs : List UInt8} {R : Option (List Rw × Nat)} {k : Nat} {l : List Rw} {a : Nat} (h : MidQ bs R k l a 0) (hl : ¬ l.length < k) : R = some (l, a) := by
  have h5 := h.2.1 rfl
  rw [show k - l.length = 0 from by omega, goR] at h5
  rw [h5]; simp
/-- How far the loop over the pages has come. -/
def MidP (bs : List UInt8) (R : Option (List (List Rw) × Nat)) (n : Nat) (P : List (List Rw)) (a : Nat) (e : Int) : Prop :=
  P.length ≤ n ∧ (e = 0 → R = (goP bs (n - P.length) a).map (fun x => (P ++ x.1, x.2))) ∧ (¬ e = 0 → R = none)
theorem MidP.start (bs : List UInt8) (n a : Nat) (e : Int) : MidP bs (if e = 0 then goP bs n a else none) n [] a e := ⟨Nat.zero_le _, fun h => by simp [h], fun h => if_neg h⟩
/-- A page more: R2 is what the page comes to. -/
theorem MidP.next {bs : List UInt8} {R : Option (List (List Rw) × Nat)} {n : Nat} {P : List (List Rw)} {a a1 a2 k : Nat} {b e1 b1 e2 : Int} {l : List Rw} (h : MidP bs R n P a 0) (hl : P.length < n)
    (hk : dNat bs a 0 b = (k, a1, e1, b1)) (hm : MidQ bs (if e1 = 0 then goR bs k a1 else none) k l a2 e2) (hx : e2 = 0 → ¬ l.length < k) : MidP bs R n (P ++ [l]) a2 e2 := by
  obtain ⟨h1, h2, _⟩ := h
  have h5 := h2 rfl
  obtain ⟨r1, r2, r3⟩ := rel_nat (bs := bs) (a := a) (c := []) (e := 0) (bad := b) (by simp)
  rw [hk] at r1 r2 r3
  simp only at r1 r2 r3
  rw [show n - P.length = (n - (P.length + 1)) + 1 from by omega, goP, ← r1, ← r2] at h5
  refine ⟨by simp; omega, fun he => ?_, fun he => ?_⟩
  · subst he
    have h6 := hm.done (hx rfl)
    by_cases h0 : e1 = 0
    · rw [if_pos h0] at h6
      rw [if_pos (r3.2 h0), h6] at h5
      rw [h5, List.length_append, List.length_singleton]
      show (((goP bs (n - (P.length + 1)) a2).map _).map _) = _
      rw [Option.map_map]
      congr 1
      funext x
      simp
    · rw [if_neg h0] at h6; cases h6
  · have h6 := hm.2.2 he
    by_cases h0 : e1 = 0
    · rw [if_pos h0] at h6
      rw [if_pos (r3.2 h0), h6] at h5
      rw [h5]; rfl
    · rw [if_neg (fun h => h0 (r3.1 h))] at h5
      rw [h5]; rfl
theorem goP_len {bs : List UInt8} : ∀ {n a : Nat} {P : List (List Rw)} {a' : Nat}, goP bs n a = some (P, a') → P.length = n
  | 0, a, P, a', h => by rw [goP] at h; injection h with h; injection h with h _; subst h; rfl
  | n + 1, a, P, a', h => by
    rw [goP] at h
    split at h
    · obtain ⟨x, _, h2⟩ := Option.bind_eq_some_iff.1 h
      obtain ⟨y, h3, h4⟩ := Option.map_eq_some_iff.1 h2
      injection h4 with h4 _
      subst h4
      rw [List.length_cons, goP_len h3]
    · cases h
theorem hldB_len {most : Int} {P : List (List Rw)} (h : hldB most P = true) : P.length ≤ 256 := by
  unfold hldB hldP at h
  simp only [Bool.and_eq_true] at h
  have h3 := of_decide_eq_true h.2
  have h2 := h.1.2
  clear h
  have : P.length ≤ P.flatten.length := by
    clear h3
    induction P with
    | nil => simp
    | cons p P ih =>
      rw [List.all_cons] at h2
      simp only [Bool.and_eq_true, Bool.not_eq_true', beq_eq_false_iff_ne] at h2
      have := ih h2.2
      rw [List.flatten_cons, List.length_append, List.length_cons]
      omega
  omega
/-- Pages of one's own: nobody writes them any more. -/
theorem pages_at {w : World} {G : Nat → Prop} : ∀ {us : List Value} {P : List (List Rw)} {O : Nat → Prop}, (pagesP us P).at_ w G O → us.length = P.length ∧ ∀ (i : Nat) (r : List Rw), P[i]? = some r → ∃ v, us[i]? = some v ∧ OwnW w 0 29 2 v (rwR r) ∧ ∀ k, v.ownBlock = some k → O k
  | [], [], O, _ => ⟨rfl, fun i r h => by simp at h⟩
  | [], _ :: _, O, h => h.1.elim
  | _ :: _, [], O, h => h.1.elim
  | v :: us, p :: P, O, h => by
    obtain ⟨O1, O2, ⟨h1, h2⟩, h3, h4, h5⟩ := h
    obtain ⟨i1, i2⟩ := pages_at h3
    refine ⟨by simp [i1], fun i r hi => ?_⟩
    cases i with
    | zero =>
      simp only [List.getElem?_cons_zero, Option.some.injEq] at hi
      subst hi
      exact ⟨v, rfl, h1, fun k hk => h4 k (h2 k hk)⟩
    | succ i =>
      simp only [List.getElem?_cons_succ] at hi
      obtain ⟨u, e1, e2, e3⟩ := i2 i r hi
      exact ⟨u, by simpa using e1, e2, fun k hk => (h5 k (e3 k hk)).1⟩
theorem own_ad {w : World} {b : Nat} {v : Value} {E : TypeId} {sz : Nat} {rows : List (List Value)} {B : Option Addr} {n c : Nat} (h : OwnW w b E sz v rows) (e : v = .slice B n c) : ∀ x, B = some x → v.ownBlock = some x.block := by
  intro x hx
  subst hx
  rcases h.1.2 with ⟨h1, _⟩ | ⟨g, c', cur, h1, _⟩
  · rw [h1] at e; cases e
  · rw [h1] at e
    injection e with e _ _
    injection e with e
    rw [h1, ← e]; rfl
theorem Sat.freeze {l : List Part} {w : World} {v : Value} {us : List Value} {P : List (List Rw)} (h : Sat (ownR v 27 1 (lfR us) :: pagesP us P :: l) w) : ∃ A c, v = .slice A P.length c ∧ P.length ≤ c ∧ Sat (rPg A P :: l) w := by
  have hus := h.drop.pagesLen
  obtain ⟨A, c, e, h1, _, hr⟩ := h.own_.slv'
  rw [lfR_len, hus] at e h1
  refine ⟨A, c, e, h1, h.join.rest (fun G O a => ?_)⟩
  obtain ⟨O1, O2, ⟨a1, a2⟩, a3, a4, a5⟩ := a
  obtain ⟨_, b2⟩ := pages_at a3
  intro i r hi
  obtain ⟨u, c1, c2, c3⟩ := b2 i r hi
  obtain ⟨b, o, e2, hc⟩ := hr i [u] (lfR_at c1)
  have h0 := hc 0 u rfl
  obtain ⟨B', c', e3, h3, h4, h5⟩ := c2.slv'
  have had := own_ad c2 e3
  rw [e3, rwR_len] at h0
  rw [rwR_len] at h3
  rw [Nat.mul_one, Nat.add_zero] at h0
  refine ⟨b, o, B', c', e2, h0, h3, h4, h5, .inr (a4 _ (a2 _ (own_ad a1.w e ⟨b, o, none⟩ e2))), fun _ x hx => .inr ((a5 _ (c3 _ (had x hx))).1)⟩
end Go.Proofs.YtlekfpeonehggaaGreatDoor
end
