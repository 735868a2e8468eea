/- A store's bytes, read: the plain law. A reader as a part, beside a store that is being filled; what was made in a frame of its own. -/
import Derived.Test.YtlekfpeonehggaaGreatDoorJ08
import Derived.Test.YtlekfpeonehggaaGreatDoorJ34
section
set_option linter.unusedVariables false

namespace Go.Proofs.YtlekfpeonehggaaGreatDoor
open Go.Proofs.BL Go.Proofs.Peel Go.RowKit Go.Proofs.Ky

theorem zag_in (n : Nat) (h : n < 2 ^ 64) : -9223372036854775808 ≤ zag n ∧ zag n ≤ 9223372036854775807 := by
  unfold zag
  split <;> omega
theorem rdStr_size {bs : List UInt8} {a a' : Nat} {s : ByteArray} (h : rdStr bs a [] 16 = (s, a', [])) : s.size ≤ 16 := by
  rw [rdStr, if_pos rfl] at h
  cases hp : pstr bs a 16 with
  | mk o e =>
    rw [hp] at h
    cases o with
    | none => simp at h
    | some sa =>
      obtain ⟨s1, a1⟩ := sa
      simp only [Prod.mk.injEq, and_true] at h
      obtain ⟨rfl, rfl⟩ := h
      rw [pstr] at hp
      split at hp
      · simp at hp
      · split at hp
        · simp at hp
        · split at hp
          · simp at hp
          · rename_i n k _ h1 h2
            simp only [Prod.mk.injEq, Option.some.injEq] at hp
            obtain ⟨⟨rfl, _⟩, _⟩ := hp
            have : (⟨((bs.drop (a + k)).take n).toArray⟩ : ByteArray).size ≤ n := by
              show ((bs.drop (a + k)).take n).length ≤ n
              rw [List.length_take]; exact Nat.min_le_left _ _
            omega
theorem rdNum_bad (bs : List UInt8) (a : Nat) {c : List Lk} (h : ¬ c = []) : (rdNum bs a c).2 = (a, c) := by rw [rdNum, rdNat, if_neg h]
/-- One row read. -/
def stepR (bs : List UInt8) (a : Nat) (c : List Lk) : Rw × Nat × List Lk := (((rdStr bs a c 16).1, (rdNum bs (rdStr bs a c 16).2.1 (rdStr bs a c 16).2.2).1), (rdNum bs (rdStr bs a c 16).2.1 (rdStr bs a c 16).2.2).2)
theorem tells_stepR (bs : List UInt8) (a : Nat) {c : List Lk} (h : Tells c) : Tells (stepR bs a c).2.2 := tells_num bs _ (tells_str bs a 16 h)
/-- So many rows, from a place on. -/
def goR (bs : List UInt8) : Nat → Nat → Option (List Rw × Nat)
  | 0, a => some ([], a)
  | k + 1, a => if (stepR bs a []).2.2 = [] then (goR bs k (stepR bs a []).2.1).map (fun x => ((stepR bs a []).1 :: x.1, x.2)) else none
theorem goR_yes {bs : List UInt8} {k a : Nat} (h : (stepR bs a []).2.2 = []) : goR bs (k + 1) a = (goR bs k (stepR bs a []).2.1).map (fun x => ((stepR bs a []).1 :: x.1, x.2)) := by rw [goR, if_pos h]
theorem goR_no {bs : List UInt8} {k a : Nat} (h : ¬ (stepR bs a []).2.2 = []) : goR bs (k + 1) a = none := by rw [goR, if_neg h]
def upB (l : List Rw) : Bool := decide (List.Pairwise (fun a b => tx.lt a.1 b.1 = true) l)
theorem upB_iff (l : List Rw) : upB l = true ↔ Up tx l := by unfold upB Up; exact decide_eq_true_iff
/-- A page, behind some rows. -/
def rdPage (bs : List UInt8) (most : Nat) (prev : List Rw) (a : Nat) : Option (List Rw × Nat) :=
  if (rdNat bs a []).2.2 = [] ∧ 1 ≤ (rdNat bs a []).1 ∧ (rdNat bs a []).1 ≤ most then (goR bs (rdNat bs a []).1 (rdNat bs a []).2.1).bind (fun x => if upB (prev ++ x.1) then some x else none) else none
/-- So many pages, behind some pages, as the program reads them. -/
def goL (bs : List UInt8) (most : Nat) : Nat → List (List Rw) → Nat → Option (List (List Rw) × Nat)
  | 0, P, a => some (P, a)
  | n + 1, P, a => if 256 < P.flatten.length then none else (rdPage bs most P.flatten a).bind (fun x => goL bs most n (P ++ [x.1]) x.2)
def fin (bs : List UInt8) (x : List (List Rw) × Nat) : Option (List (List Rw)) := if bs.length ≤ x.2 ∧ x.1.flatten.length ≤ 256 then some x.1 else none
/-- The store of bytes, as the program reads it. -/
def decL (bs : List UInt8) (most : Nat) : Option (List (List Rw)) := if (rdNat bs 0 []).2.2 = [] then (goL bs most (rdNat bs 0 []).1 [] (rdNat bs 0 []).2.1).bind (fin bs) else none
/-- How far a page's loop has come: R is what it comes to. -/
def MidR (bs : List UInt8) (R : Option (List Rw × Nat)) (k : Nat) (l : List Rw) (a : Nat) (c : List Lk) : Prop :=
  l.length ≤ k ∧ Tells c ∧ (c = [] → R = (goR bs (k - l.length) a).map (fun x => (l ++ x.1, x.2))) ∧ (¬ c = [] → R = none)
theorem MidR.start (bs : List UInt8) (k a : Nat) : MidR bs (goR bs k a) k [] a [] := ⟨Nat.zero_le _, .inl rfl, fun _ => by simp, fun h => absurd rfl h⟩
theorem MidR.next {bs : List UInt8} {R : Option (List Rw × Nat)} {k : Nat} {l : List Rw} {a : Nat} (h : MidR bs R k l a []) (hl : l.length < k) : MidR bs R k (l ++ [(stepR bs a []).1]) (stepR bs a []).2.1 (stepR bs a []).2.2 := by
  obtain ⟨h1, h2, h3, h4⟩ := h
  have h5 := h3 rfl
  rw [show k - l.length = (k - (l.length + 1)) + 1 from by omega] at h5
  refine ⟨by simp; omega, tells_stepR bs a h2, fun hc => ?_, fun hc => ?_⟩
  · rw [goR_yes hc] at h5
    rw [h5, List.length_append, List.length_singleton, Option.map_map]
    congr 1
    funext x
    simp
  · rw [goR_no hc] at h5
    rw [h5]; rfl
theorem MidR.done {bs : List UInt8} {R : Option (List Rw × Nat)} {k : Nat} {l : List Rw} {a : Nat} (h : MidR bs R k l a []) (hl : ¬ l.length < k) : R = some (l, a) := by
  obtain ⟨h1, h2, h3, h4⟩ := h
  have h5 := h3 rfl
  rw [show k - l.length = 0 from by omega, goR] at h5
  rw [h5]; simp
theorem MidR.bad {bs : List UInt8} {R : Option (List Rw × Nat)} {k : Nat} {l : List Rw} {a : Nat} {c : List Lk} (h : MidR bs R k l a c) (hc : ¬ c = []) : R = none := h.2.2.2 hc
/-- What is read begins with what has been read. -/
theorem MidR.pre {bs : List UInt8} {R : Option (List Rw × Nat)} {k : Nat} {l : List Rw} {a : Nat} {c : List Lk} (h : MidR bs R k l a c) {x : List Rw × Nat} (hx : R = some x) : ∃ t, x.1 = l ++ t := by
  obtain ⟨h1, h2, h3, h4⟩ := h
  by_cases hc : c = []
  · rw [h3 hc] at hx
    obtain ⟨y, _, rfl⟩ := Option.map_eq_some_iff.1 hx
    exact ⟨_, rfl⟩
  · rw [h4 hc] at hx; cases hx
theorem stepR_inv {bs : List UInt8} {a : Nat} (h : (stepR bs a []).2.2 = []) : bs.drop a = rowB (stepR bs a []).1 ++ bs.drop (stepR bs a []).2.1 ∧ (stepR bs a []).1.1.size ≤ 16 ∧ RwOk (stepR bs a []).1 := by
  cases hs : rdStr bs a [] 16 with
  | mk s st =>
    obtain ⟨a1, c1⟩ := st
    have e1 : stepR bs a [] = ((s, (rdNum bs a1 c1).1), (rdNum bs a1 c1).2) := by rw [stepR, hs]
    rw [e1] at h ⊢
    by_cases hc1 : c1 = []
    · subst hc1
      have i1 := rdStr_inv hs
      have z1 := rdStr_size hs
      cases hn : rdNat bs a1 [] with
      | mk n st =>
        obtain ⟨a3, c3⟩ := st
        have hm : rdNum bs a1 [] = (zag n, a3, c3) := by rw [rdNum, hn]
        rw [hm] at h ⊢
        simp only at h ⊢
        subst h
        obtain ⟨i3, z3⟩ := rdNat_inv hn
        have z4 := zag_in n z3
        refine ⟨?_, z1, by show s.size ≤ 1000; omega, z4.1, z4.2⟩
        rw [i1, i3]; simp [rowB, zig_zag]
    · exfalso
      rw [rdNum_bad _ _ hc1] at h
      exact hc1 h
theorem goR_inv {bs : List UInt8} : ∀ {k a : Nat} {l : List Rw} {a' : Nat}, goR bs k a = some (l, a') → l.length = k ∧ bs.drop a = (l.map rowB).flatten ++ bs.drop a' ∧ ∀ x ∈ l, x.1.size ≤ 16 ∧ RwOk x
  | 0, a, l, a', h => by
    rw [goR] at h
    injection h with h
    injection h with h1 h2
    subst h1 h2
    exact ⟨rfl, rfl, fun x hx => by cases hx⟩
  | k + 1, a, l, a', h => by
    by_cases hc : (stepR bs a []).2.2 = []
    · rw [goR_yes hc] at h
      obtain ⟨⟨l1, a1⟩, h1, h2⟩ := Option.map_eq_some_iff.1 h
      injection h2 with h2 h3
      subst h2
      obtain ⟨e1, e2, e3⟩ := goR_inv h1
      obtain ⟨s1, s2⟩ := stepR_inv hc
      simp only at h3
      subst h3
      refine ⟨by simp [e1], ?_, fun x hx => ?_⟩
      · rw [s1, e2]; simp
      · rcases List.mem_cons.1 hx with rfl | hx
        · exact s2
        · exact e3 x hx
    · rw [goR_no hc] at h; cases h
end Go.Proofs.YtlekfpeonehggaaGreatDoor
end

section
set_option linter.unusedVariables false
set_option maxRecDepth 100000
namespace Go.Proofs.YtlekfpeonehggaaGreatDoor
open Go.Proofs.BL Go.Proofs.Peel Go.RowKit Go.Proofs.Ky

theorem fr_weak {S T : Nat → Prop} {w w' : World} (h : Fr S w w') (hs : ∀ k, S k → T k) : Fr T w w' := h.mono (fun k _ => hs k)
/-- A reader at block p; all that lay below it, but for block s, stays as it is. -/
def rdx (p s : Nat) (bs : List UInt8) (a : Nat) (c : List Lk) (W : World) : Part :=
  ⟨fun w G O => (∃ A cp ve, Blk w p #[.slice A bs.length cp, .int .i64 a, ve] 85 ∧ bs.length ≤ cp ∧ a ≤ bs.length ∧ RowsAt w 1 A (bys bs) ∧ (bs ≠ [] → ∀ x, A = some x → x.block < p ∧ x.block ≠ s) ∧ Chn w ve c) ∧ O p ∧ (∀ b, b < p → b ≠ s → G b) ∧ Below W.heap.size W w ∧ W.heap.size ≤ s ∧ s < p,
   fun {w w' G G' O} ⟨⟨A, cp, ve, hB, h1, h2, hr, hp, hc⟩, ho, hg, hb, hs, hsp⟩ hO hG hf hGG => by
    refine ⟨⟨A, cp, ve, hB.fr hf (fun hn => hn (.inr (.inl ho))), h1, h2, ?_, hp, hc.fr hf (fun k cs t f hk hh => ?_)⟩, ho, fun b h1 h2 => hGG b (hg b h1 h2), ⟨hf.os.trans hb.os, hf.tape.trans hb.tape, hf.output.trans hb.output, Nat.le_trans hb.size hf.size, fun k hk => ?_⟩, hs, hsp⟩
    · by_cases hb : bs = []
      · subst hb; exact RowsAt.nil _ _ _
      · exact hr.fr hf (fun x hx hn => hn (.inl (hg _ (hp hb x hx).1 (hp hb x hx).2)))
    · cases ht : isErrT t with
      | false => rfl
      | true => exact absurd (.inr (.inr ⟨cs, t, f, hh, ht⟩)) hk
    · exact (hf.block k (Nat.lt_of_lt_of_le hk hb.size) (fun hn => hn (.inl (hg k (by omega) (by omega))))).trans (hb.block k hk)⟩
section
variable {l : List Part} {w w' W : World} {p s : Nat} {bs : List UInt8} {a a' : Nat} {c c' : List Lk}
theorem Sat.rd_ (h : Sat (rdx p s bs a c W :: l) w) : Rd w p bs a c := h.fact fun G O ⟨⟨A, cp, ve, hB, h1, h2, hr, hp, hc⟩, _⟩ _ _ => ⟨A, cp, ve, hB, h1, h2, hr, fun hb x hx => (hp hb x hx).1, hc⟩
theorem Sat.rdOld (h : Sat (rdx p s bs a c W :: l) w) : Below W.heap.size W w := h.fact fun G O ⟨_, _, _, h, _⟩ _ _ => h
theorem Sat.rdLt (h : Sat (rdx p s bs a c W :: l) w) : W.heap.size ≤ s ∧ s < p := h.fact fun G O ⟨_, _, _, _, h⟩ _ _ => h
/-- The reader went on. -/
theorem Sat.rdStep {m n : Int} {L : Value} {T : TypeId} (h : Sat (rdx p s bs a c W :: l) w) (hR : Rd w' p bs a' c') (hf : Fr (only p) w w') (hs : Blk w' s #[.int .i64 m, L, .int .i64 n] T) (hL : ∀ x : UInt8, L ≠ .int .u8 x.toNat) : Sat (rdx p s bs a' c' W :: l) w' :=
  h.step fun G O ⟨_, ho, hg, hb, hsW, hsp⟩ hO hG => ⟨fr_weak hf (fun k hk => by have hk : k = p := hk; rw [hk]; exact ho), fun k => k = p, fun G' hGG => by
    obtain ⟨A, cp, ve, hB, h1, h2, hr, hp, hc⟩ := hR
    refine ⟨⟨A, cp, ve, hB, h1, h2, hr, fun hne x hx => ⟨hp hne x hx, fun e => ?_⟩, hc⟩, rfl, fun b h1 h2 => hGG b (hg b h1 h2), ⟨hf.os.trans hb.os, hf.tape.trans hb.tape, hf.output.trans hb.output, Nat.le_trans hb.size hf.size, fun k hk => ?_⟩, hsW, hsp⟩
    · subst hx
      obtain ⟨y, ys, e2⟩ := List.exists_cons_of_ne_nil hne
      subst e2
      obtain ⟨b, o, e3, hcl⟩ := hr 0 (enB y) rfl
      injection e3 with e3
      subst e3
      have h5 := hcl 0 _ rfl
      have e : b = s := e
      subst e
      rw [hs.cell] at h5
      have h6 := (Array.getElem?_eq_some_iff.1 h5).1
      simp only [List.size_toArray, List.length_cons, List.length_nil] at h6
      generalize o + 0 * 1 + 0 = i at h5 h6
      match i, h5, h6 with
      | 0, h5, _ => simp at h5
      | 1, h5, _ => simp at h5; exact hL y h5
      | 2, h5, _ => simp at h5
    · exact (hf.block k (Nat.lt_of_lt_of_le hk hb.size) (fun e => by have e : k = p := e; omega)).trans (hb.block k hk), fun k hk => by
    subst hk
    obtain ⟨A, cp, ve, hB, _⟩ := hR
    exact ⟨.inl ho, hB.lt, not_imm hB rfl⟩⟩
/-- The beginning: a store's block, and a reader made behind it. -/
theorem Sat.rdStart {m n : Int} {T : TypeId} (hb : Below W.heap.size W w) (hsW : W.heap.size ≤ s) (hB : Blk w s #[.int .i64 m, .slice none 0 0, .int .i64 n] T) (hT : isErrT T = false) (hR : Rd w' w.heap.size bs a []) (hw : Below w.heap.size w w') (hrow : ∀ A : Option Addr, True) :
    Sat (rdx w.heap.size s bs a [] W :: blk s #[.int .i64 m, .slice none 0 0, .int .i64 n] T :: []) w' := by
  have hB' := hB.below hw
  have hs := hB.lt
  obtain ⟨A, cp, ve, hR1, h1, h2, hr, hp, hc⟩ := hR
  refine ⟨fun b => b < w.heap.size ∧ b ≠ s, fun b hb => Nat.lt_of_lt_of_le hb.1 hw.size, fun k => k = w.heap.size, ?_, fun k hk => ?_, fun k => k = s, ⟨hB', rfl⟩, fun k hk => ?_, trivial⟩
  · refine ⟨⟨A, cp, ve, hR1, h1, h2, hr, fun hne x hx => ⟨hp hne x hx, fun e => ?_⟩, hc⟩, rfl, fun b h1 h2 => ⟨h1, h2⟩, below_then hb hw, hsW, hs⟩
    subst hx
    obtain ⟨y, ys, e2⟩ := List.exists_cons_of_ne_nil hne
    subst e2
    obtain ⟨b, o, e3, hcl⟩ := hr 0 (enB y) rfl
    injection e3 with e3
    subst e3
    have h5 := hcl 0 _ rfl
    have e : b = s := e
    subst e
    rw [hB'.cell] at h5
    have h6 := (Array.getElem?_eq_some_iff.1 h5).1
    simp only [List.size_toArray, List.length_cons, List.length_nil] at h6
    generalize o + 0 * 1 + 0 = i at h5 h6
    match i, h5, h6 with
    | 0, h5, _ => simp at h5
    | 1, h5, _ => simp at h5
    | 2, h5, _ => simp at h5
  · subst hk
    exact ⟨hR1.lt, fun h => Nat.lt_irrefl _ h.1, not_imm hR1 rfl⟩
  · subst hk
    exact ⟨⟨hB'.lt, fun h => h.2 rfl, not_imm hB' hT⟩, fun e => by omega⟩
end
/-- What was made while all that was there stood still may stand beside it. -/
theorem Sat.frame {B : Part} {l : List Part} {w w' : World} (h : Sat l w) (h' : Sat (B :: old w :: []) w') (hB : ∀ G G' O, B.at_ w' G O → B.at_ w' G' O) : Sat (B :: l) w' := by
  have hb := h'.s1.old_
  obtain ⟨G, hG, O, a, hO, O2, ⟨_, hg⟩, _⟩ := h'
  exact h.new hb ⟨O, fun G' => hB G G' O a, fun b hb => ⟨Nat.le_of_not_lt (fun hlt => (hO b hb).2.1 (hg b hlt)), (hO b hb).1, (hO b hb).2.2⟩⟩
end Go.Proofs.YtlekfpeonehggaaGreatDoor
end
