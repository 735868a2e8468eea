/- Package page: at, find, Get, Len. -/
import Derived.Test.YtlekfpeonehggaaGreatDoorJ21
import Derived.Test.YtlekfpeonehggaaGreatDoorJ22
section
set_option linter.unusedVariables false
set_option maxRecDepth 100000
namespace Go.Proofs.YtlekfpeonehggaaGreatDoor
open Go.Proofs.BL Go.Proofs.Peel Go.RowKit Go.Proofs.Ky

/-- What is told of a store that is read. -/
structure StF (w : World) (p : Nat) (most n : Int) (L : Value) (vs : List Value) (P : List (List Rw)) : Prop where
  b : Blk w p #[.int .i64 most, L, .int .i64 n] 57
  l : OwnW w 0 59 1 L (lfR vs)
  v : vs.length = P.length
  r : ∀ (i : Nat) (r : List Rw), P[i]? = some r → ∃ v, vs[i]? = some v ∧ OwnW w 0 29 2 v (rwR r)
theorem StF.below {w w' : World} {p : Nat} {most n : Int} {L : Value} {vs : List Value} {P : List (List Rw)} (h : StF w p most n L vs P) (hb : Below w.heap.size w w') : StF w' p most n L vs P :=
  ⟨h.b.below hb, h.l.below hb, h.v, fun i r hi => by obtain ⟨v, h1, h2⟩ := h.r i r hi; exact ⟨v, h1, h2.below hb⟩⟩
theorem Sat.stF0 {p : Nat} {most n : Int} {L : Value} {vs : List Value} {P : List (List Rw)} {l : List Part} {w : World} (h : Sat (stB p most n L :: ownW L 59 1 (lfR vs) :: pagesP vs P :: l) w) : StF w p most n L vs P :=
  ⟨h.blk_, h.s1.ownW_, h.drop.drop.pagesLen, fun i r hi => h.s2.pageAt hi⟩
theorem Sat.stF {p : Nat} {most : Int} {P : List (List Rw)} {l : List Part} {w : World} (h : Sat (stP p most P :: l) w) : ∃ L vs, StF w p most P.flatten.length L vs P ∧ Sat (stB p most P.flatten.length L :: ownW L 59 1 (lfR vs) :: pagesP vs P :: l) w := by
  obtain ⟨L, vs, _, h2⟩ := h.openSt
  exact ⟨L, vs, h2.stF0, h2⟩
theorem StF.leaves {w : World} {p : Nat} {most n : Int} {L : Value} {vs : List Value} {P : List (List Rw)} (h : StF w p most n L vs P) : ∃ A c, L = .slice A P.length c ∧ P.length ≤ c ∧ (A = none → c = 0) ∧ RowsAt w 1 A (lfR vs) := by
  obtain ⟨A, c, e, h1, h2, h3⟩ := h.l.slv'
  rw [lfR_len, h.v] at e h1
  exact ⟨A, c, e, h1, h2, h3⟩
/-- A page as it is read: its slice value lies in the leaves, its rows in its own block. -/
theorem StF.page {w : World} {p : Nat} {most n : Int} {A : Option Addr} {N c : Nat} {vs : List Value} {P : List (List Rw)} (h : StF w p most n (.slice A N c) vs P) {i : Nat} {r : List Rw} (hi : P[i]? = some r) :
    ∃ b v, A = some ⟨b, 0, none⟩ ∧ vs[i]? = some v ∧ w.cell? ⟨b, i, none⟩ = some v ∧ w.frozen? ⟨b, i, none⟩ = false ∧ OwnW w 0 29 2 v (rwR r) := by
  obtain ⟨v, h1, h2⟩ := h.r i r hi
  have hne : lfR vs ≠ [] := fun e => by
    have h3 := lfR_at h1
    rw [e] at h3; simp at h3
  obtain ⟨g, c', e, _, _⟩ := h.l.some_ hne
  injection e with e _ _
  subst e
  obtain ⟨k1, k2⟩ := ownW_at h.l (lfR_at h1) 0 rfl
  rw [Nat.mul_one, Nat.add_zero] at k1 k2
  exact ⟨g, v, rfl, h1, k1, k2, h2⟩
theorem pgRow {w : World} {g n c : Nat} {r : List Rw} (h : OwnW w 0 29 2 (.slice (some ⟨g, 0, none⟩) n c) (rwR r)) {i : Nat} {x : Rw} (hi : r[i]? = some x) :
    (w.cell? ⟨g, i * 2, none⟩ = some (.string x.1) ∧ w.cell? ⟨g, i * 2 + 1, none⟩ = some (.int .i64 x.2)) ∧ w.frozen? ⟨g, i * 2, none⟩ = false ∧ w.frozen? ⟨g, i * 2 + 1, none⟩ = false := by
  have hr : (rwR r)[i]? = some (enR x) := by rw [rwR, List.getElem?_map, hi]; rfl
  exact ⟨⟨(ownW_at h hr 0 rfl).1, (ownW_at h hr 1 rfl).1⟩, (ownW_at h hr 0 rfl).2, (ownW_at h hr 1 rfl).2⟩

set_option maxHeartbeats 1000000 in
theorem lfAt (v : Value) (r : List Rw) (key : ByteArray) (w : World) (h : OwnW w 0 29 2 v (rwR r)) (hup : Up tx r) (hl : r.length ≤ 1000000) :
    Calls Tryz.prog 58 #[.agg #[v], .string key] w (AtCPost (low tx key r) (there tx key r) w) := by
  refine via fun Q hQ => ?_
  obtain ⟨A, c, hv, hc, _, hr⟩ := h.slv'
  rw [rwR_len] at hv hc
  subst hv
  have hal : Below w.heap.size w (w.alloc (.cells #[.slice A r.length c] 59)) := (Below.refl _ _).alloc (Nat.le_refl _) _
  have HC := Lib.hid (bsfC A c r key _ (hr.below hal) hup hl hc)
  have HA := Lib.hid hal
  clear hr hup h hal
  go_enter Tryz.func58, Tryz.ntmps58
  go_wp2_with fail
  (with_reducible refine HC.out.mono ?_)
  rintro e w1 ⟨rfl, hb⟩
  have HB := Lib.hid (below_then HA.out hb)
  clear hb HC
  go_wp2
  exact ⟨rfl, HB.out⟩

theorem tx_as {a b : ByteArray} (h : tx.lt a b = true) : tx.lt b a = false := by
  cases e : tx.lt b a with
  | false => rfl
  | true => have := tx.tr _ _ _ h e; rw [tx.irr] at this; cases this
theorem tx_ne {a b : ByteArray} (h : tx.lt a b = true) : a ≠ b := fun e => by rw [e, tx.irr] at h; cases h
theorem over_cons (k : ByteArray) (x : Rw) (r : List Rw) : over tx k (x :: r) = tx.lt k x.1 := rfl
theorem pgI_eq {k : ByteArray} {P : List (List Rw)} {m : Nat} (hn : P ≠ []) (h1 : ∀ j, 0 < j → j ≤ m → over tx k (P.getD j []) = false) (h2 : m + 1 < P.length → over tx k (P.getD (m + 1) []) = true) (hm : m < P.length) : pgI tx k P = m := by
  obtain ⟨g1, g2⟩ := pgI_spec tx (k := k) hn
  have hlt := pgI_lt tx k hn
  rcases Nat.lt_trichotomy (pgI tx k P) m with h | h | h
  · have := g2 (by omega)
    rw [h1 _ (by omega) (by omega)] at this
    cases this
  · exact h
  · have := h2 (by omega)
    rw [g1 _ (by omega) (by omega)] at this
    cases this
def fndI (key : ByteArray) (P : List (List Rw)) : Int := if P = [] then -1 else (pgI tx key P : Int)
def FindPost (i : Int) (w : World) (e : Ending) (w' : World) : Prop := e = .returned (.int .i64 i) ∧ Below w.heap.size w w'
set_option maxHeartbeats 4000000 in
theorem stFind (p : Nat) (most n : Int) (L : Value) (vs : List Value) (P : List (List Rw)) (key : ByteArray) (w : World) (hF : StF w p most n L vs P) (hne : ∀ r ∈ P, r ≠ []) (hl : P.length ≤ 1000000) :
    Calls Tryz.prog 57 #[.pointer (some ⟨p, 0, none⟩), .string key] w (FindPost (fndI key P) w) := by
  refine via fun Q hQ => ?_
  obtain ⟨A, c, rfl, hc, _, _⟩ := hF.leaves
  have c0 := hF.b.at_ 0 rfl
  have c1 := hF.b.at_ 1 rfl
  have HF := Lib.hid hF
  have HNE := Lib.hid hne
  clear hF hne
  generalize hN : P.length = N at *
  have HN := Lib.hid hN
  clear hN
  go_enter Tryz.func57, Tryz.ntmps57
  go_wp2_with fail
  go_loopg [5, 13] N (fun g x5 x13 wr => ∃ j : Nat, j ≤ N ∧ g = N - j ∧ x13 = .int .i64 j ∧ x5 = .int .i64 ((j : Int) - 1) ∧ Hid (∀ i, 0 < i → i < j → over tx key (P.getD i []) = false) ∧ Hid (Below w.heap.size w wr))
  case atStart => exact ⟨0, Nat.zero_le _, rfl, rfl, rfl, Lib.hid (fun i h1 h2 => by omega), Lib.hid (Below.refl _ _)⟩
  case round =>
    obtain ⟨j, hj, rfl, rfl, rfl, HO, HB⟩ := hrel
    by_cases hlt : j < N
    · have hx : P[j]? = some (P[j]'(by rw [HN.out]; exact hlt)) := List.getElem?_eq_getElem _
      have hgD : P.getD j [] = P[j]'(by rw [HN.out]; exact hlt) := getD_at _ _ _
      generalize P[j]'(by rw [HN.out]; exact hlt) = r at hx hgD
      have hrn := HNE.out r (List.mem_of_getElem? hx)
      obtain ⟨b, v, rfl, hv, k1, _, hO⟩ := (HF.out.below HB.out).page hx
      obtain ⟨x, r, rfl⟩ := List.exists_cons_of_ne_nil hrn
      obtain ⟨g2, c2, hv2, hc2, _⟩ := hO.some_ (by simp [rwR])
      rw [rwR_len] at hv2 hc2
      subst hv2
      obtain ⟨⟨q1, _⟩, _, _⟩ := pgRow hO (i := 0) (x := x) rfl
      rw [Nat.zero_mul] at q1
      have HG := Lib.hid hgD
      have hlr : (x :: r).length = r.length + 1 := rfl
      generalize (x :: r).length = nr at hlr k1 hc2
      have p1 : 0 < nr := by omega
      have hal : Below wr.heap.size wr (wr.alloc (.cells #[.slice (some ⟨g2, 0, none⟩) nr c2] 59)) := (Below.refl _ _).alloc (Nat.le_refl _) _
      have HB2 := Lib.hid (below_then HB.out hal)
      have q2 := (hal.cell (World.block_lt_of_cell? wr _ q1)).trans q1
      clear hx hgD hrn hv hO hlr hal
      by_cases h0 : j = 0
      · subst h0
        clear HO
        go_wp2_with fail
        go_roundg (N - 1)
        case measure => omega
        case rel => exact ⟨1, by omega, rfl, rfl, rfl, Lib.hid (fun i h1 h2 => by omega), HB2⟩
      · have hj0 : (j : Int) > 0 := by omega
        have hle := less_tx x.1 key
        cases hL : tx.lt key x.1 with
        | true =>
          have hb1 := hle.trans (tx_as hL)
          have hb2 := str_diff (tx_ne hL).symm
          have HR : Hid (fndI key P = (j : Int) - 1) := Lib.hid (by
            unfold fndI
            have hP : P ≠ [] := fun e => by have := HN.out; rw [e] at this; simp at this; omega
            rw [if_neg hP, pgI_eq (m := j - 1) hP (fun i h1 h2 => HO.out i h1 (by omega)) (fun _ => by rw [show j - 1 + 1 = j by omega, HG.out, over_cons]; exact hL) (by have := HN.out; omega)]
            omega)
          clear hle hL
          go_wp2_with fail
          exact ⟨by rw [HR.out]; rfl, HB2.out⟩
        | false =>
          have HO2 : Hid (∀ i, 0 < i → i < j + 1 → over tx key (P.getD i []) = false) := Lib.hid (fun i h1 h2 => by
            rcases Nat.lt_or_ge i j with h | h
            · exact HO.out i h1 h
            · obtain rfl : i = j := by omega
              rw [HG.out, over_cons]; exact hL)
          cases hM : tx.lt x.1 key with
          | true =>
            have hb1 := hle.trans hM
            clear hle hL hM
            go_wp2_with fail
            go_roundg (N - (j + 1))
            case measure => omega
            case rel => exact ⟨j + 1, by omega, rfl, rfl, by congr 1; omega, HO2, HB2⟩
          | false =>
            have hb1 := hle.trans hM
            have hb2 := str_same (tx.tot _ _ hM hL)
            clear hle hL hM
            go_wp2_with fail
            go_roundg (N - (j + 1))
            case measure => omega
            case rel => exact ⟨j + 1, by omega, rfl, rfl, by congr 1; omega, HO2, HB2⟩
    · obtain rfl : j = N := by omega
      have HR : Hid (fndI key P = (j : Int) - 1) := Lib.hid (by
        unfold fndI
        by_cases hP : P = []
        · rw [if_pos hP]
          have := HN.out
          rw [hP] at this
          simp at this
          omega
        · have hjp : 0 < j := by
            have := HN.out
            rcases Nat.eq_zero_or_pos j with h | h
            · rw [h] at this; exact absurd (List.eq_nil_of_length_eq_zero this) hP
            · exact h
          rw [if_neg hP, pgI_eq (m := j - 1) hP (fun i h1 h2 => HO.out i h1 (by omega)) (fun h => by have := HN.out; omega) (by have := HN.out; omega)]
          omega)
      go_wp2_with fail
      exact ⟨by rw [HR.out]; rfl, HB.out⟩
end Go.Proofs.YtlekfpeonehggaaGreatDoor
end
