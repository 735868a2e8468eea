/- slices.BinarySearchFunc at rows and keys; where a key stands. Rows in pages: where a key's page stands; With of all rows is With of that page. Plain. -/
import Derived.Test.YtlekfpeonehggaaGreatDoorJ09
import Derived.Test.YtlekfpeonehggaaGreatDoorJ16
import Derived.Test.YtlekfpeonehggaaGreatDoorJ18
import Derived.Deep.LoopGhost
section
set_option linter.unusedVariables false
set_option linter.unusedSimpArgs false
set_option maxRecDepth 100000
namespace Go.Proofs.Ky
open Go.Proofs.BL
/-- Keys by their bytes. -/
def tx : Ord ByteArray where
  lt a b := decide (BL.txt a < BL.txt b)
  irr a := decide_eq_false (bl_irr _)
  tr a b c h1 h2 := decide_eq_true (bl_tr _ _ _ (of_decide_eq_true h1) (of_decide_eq_true h2))
  tot a b h1 h2 := txt_inj (bl_tot _ _ (of_decide_eq_false h1) (of_decide_eq_false h2))
theorem cmp_lt : ∀ a b : List UInt8, Lib.compareBytes a b < 0 ↔ a < b
  | [], [] => by simp [Lib.compareBytes]
  | [], _ :: _ => by simp [Lib.compareBytes]
  | _ :: _, [] => by simp [Lib.compareBytes]
  | x :: a, y :: b => by
    rw [Lib.compareBytes, List.cons_lt_cons_iff]
    by_cases h1 : x < y
    · simp [h1]
    · rw [if_neg h1]
      by_cases h2 : y < x
      · rw [if_pos h2]
        constructor
        · intro h; omega
        · rintro (h | ⟨rfl, h⟩)
          · exact absurd h h1
          · exact absurd h2 (u8_irr _)
      · rw [if_neg h2, cmp_lt a b]
        have := u8_tot x y h1 h2
        subst this
        simp [u8_irr]
theorem cmp_eq : ∀ a b : List UInt8, Lib.compareBytes a b = 0 ↔ a = b
  | [], [] => by simp [Lib.compareBytes]
  | [], _ :: _ => by simp [Lib.compareBytes]
  | _ :: _, [] => by simp [Lib.compareBytes]
  | x :: a, y :: b => by
    rw [Lib.compareBytes]
    by_cases h1 : x < y
    · rw [if_pos h1]
      simp
      intro h
      subst h
      exact absurd h1 (u8_irr _)
    · rw [if_neg h1]
      by_cases h2 : y < x
      · rw [if_pos h2]
        simp
        intro h
        subst h
        exact absurd h2 (u8_irr _)
      · rw [if_neg h2, cmp_eq a b]
        have := u8_tot x y h1 h2
        subst this
        simp
end Go.Proofs.Ky
namespace Go.Proofs.YtlekfpeonehggaaGreatDoor
open Go.Proofs.BL Go.Proofs.Peel Go.RowKit Go.Proofs.Ky
abbrev Rw := Row ByteArray
def enR (r : Rw) : List Value := [.string r.1, .int .i64 r.2]
def rwR (l : List Rw) : List (List Value) := l.map enR
theorem rwR_len (l : List Rw) : (rwR l).length = l.length := by simp [rwR]
theorem rwR_two (l : List Rw) : ∀ r, r ∈ rwR l → r.length = 2 := fun r hr => by obtain ⟨x, _, rfl⟩ := List.mem_map.1 hr; rfl
theorem enR_one (r : Rw) : ∀ u ∈ enR r, u.oneCell' = true := fun u hu => by
  simp [enR] at hu
  rcases hu with rfl | rfl <;> rfl
theorem rwR_one (l : List Rw) : ∀ r, r ∈ rwR l → ∀ u ∈ r, u.oneCell' = true := fun r hr => by obtain ⟨x, _, rfl⟩ := List.mem_map.1 hr; exact enR_one x
/-- A row's cells. -/
theorem rowAt {w : World} {A : Option Addr} {l : List Rw} (h : RowsAt w 2 A (rwR l)) {i : Nat} {r : Rw} (hi : l[i]? = some r) :
    ∃ b o, A = some ⟨b, o, none⟩ ∧ w.cell? ⟨b, o + i * 2, none⟩ = some (.string r.1) ∧ w.cell? ⟨b, o + i * 2 + 1, none⟩ = some (.int .i64 r.2) := by
  obtain ⟨b, o, e, hc⟩ := h i (enR r) (by rw [rwR, List.getElem?_map, hi]; rfl)
  exact ⟨b, o, e, hc 0 _ rfl, hc 1 _ rfl⟩
def CmpPost (z : Int) (w : World) (e : Ending) (w' : World) : Prop := e = .returned (.int .i64 z) ∧ Below w.heap.size w w'
set_option maxHeartbeats 1000000 in
theorem atC1 (k key : ByteArray) (n : Int) (w : World) : Calls Tryz.prog 71 #[.agg #[.string k, .int .i64 n], .string key] w (CmpPost (Lib.compareBytes (BL.txt k) (BL.txt key)) w) := by
  refine via fun Q hQ => ?_
  go_enter Tryz.func71, Tryz.ntmps71
  go_wp2_with (go_at_call 72; refine (Tryz.strings_Compare _ _ _).mono ?_; rintro e w1 ⟨rfl, rfl⟩)
  exact ⟨rfl, (Below.refl _ _).alloc (Nat.le_refl _) _⟩
def AtCPost (i : Nat) (b : Bool) (w : World) (e : Ending) (w' : World) : Prop := e = .returned (.tuple #[.int .i64 i, .bool b]) ∧ Below w.heap.size w w'
set_option maxHeartbeats 4000000 in
theorem bsfC (A : Option Addr) (c : Nat) (l : List Rw) (key : ByteArray) (w : World) (hr : RowsAt w 2 A (rwR l)) (hup : Up tx l) (hl : l.length ≤ 1000000) (hc : l.length ≤ c) :
    Calls Tryz.prog 70 #[.slice A l.length c, .string key, .func (.func 71) #[] #[]] w (AtCPost (low tx key l) (there tx key l) w) := by
  refine via fun Q hQ => ?_
  have hlow := low_le tx key l
  have hlt : ∀ i r, l[i]? = some r → (Lib.compareBytes (BL.txt r.1) (BL.txt key) < 0 ↔ i < low tx key l) := fun i r hi => by
    rw [cmp_lt, ← low_lt tx hup hi]
    exact (decide_eq_true_iff).symm
  have hth : there tx key l = match l[low tx key l]? with | some r => decide (Lib.compareBytes (BL.txt r.1) (BL.txt key) = 0) | none => false := by
    unfold there
    cases h : l[low tx key l]? with
    | none => rfl
    | some r =>
      simp only []
      show decide (r.1 = key) = _
      rw [decide_eq_decide, cmp_eq]
      exact ⟨fun e => by rw [e], fun e => txt_inj e⟩
  generalize low tx key l = k at *
  generalize there tx key l = th at *
  have HLT := Lib.hid hlt
  have HTH := Lib.hid hth
  have HR := Lib.hid hr
  have HU := Lib.hid hup
  clear hlt hth hr hup
  generalize hn : l.length = n at *
  have HNL := Lib.hid hn
  clear hn
  go_enter Tryz.func70, Tryz.ntmps70
  go_wp2_with fail
  go_loopg [9, 10] n (fun d x y wr => ∃ i j : Nat, i ≤ k ∧ k ≤ j ∧ j ≤ n ∧ d = j - i ∧ x = .int .i64 i ∧ y = .int .i64 j ∧ Below w.heap.size w wr)
  case atStart => exact ⟨0, n, Nat.zero_le _, hlow, Nat.le_refl _, rfl, rfl, rfl, Below.refl _ _⟩
  case round =>
    obtain ⟨i, j, h1, h2, h3, rfl, rfl, rfl, hb⟩ := hrel
    have HB := Lib.hid hb
    clear hb
    by_cases hlt : i < j
    · have hmm : ((i : Int) + (j : Int)) / 2 = (((i + j) / 2 : Nat) : Int) := by omega
      have hmn : (i + j) / 2 < l.length := by have := HNL.out; omega
      obtain ⟨b, o, hA, c1, c2⟩ := rowAt (HR.out.below HB.out) (List.getElem?_eq_getElem hmn)
      subst hA
      have hd := HLT.out _ _ (List.getElem?_eq_getElem hmn)
      generalize l[(i + j) / 2] = r at *
      obtain ⟨kk, nn⟩ := r
      simp only at c1 c2 hd
      have hcall := Lib.hid (atC1 kk key nn wr)
      generalize Lib.compareBytes (BL.txt kk) (BL.txt key) = z at hcall hd
      have hm1 : (i + j) / 2 < n := by omega
      have HMM := Lib.hid hmm
      have HD := Lib.hid hd
      clear hmm hmn hd
      go_wp2_with fail
      refine hcall.out.mono ?_
      rintro e w2 ⟨rfl, hb2⟩
      have HB2 := Lib.hid (below_then HB.out hb2)
      clear hb2 hcall c1 c2
      by_cases hz : z < 0
      · have hk := HD.out.1 hz
        go_wp2_with fail
        go_roundg (j - ((i + j) / 2 + 1))
        case measure => omega
        case rel => exact ⟨(i + j) / 2 + 1, j, hk, h2, h3, rfl, by rw [HMM.out]; go_num, rfl, HB2.out⟩
      · have hk : k ≤ (i + j) / 2 := by
          apply Nat.le_of_not_lt
          intro h
          exact hz (HD.out.2 h)
        have hz2 : decide (z < 0) = false := decide_eq_false hz
        go_wp2_with fail
        go_roundg ((i + j) / 2 - i)
        case measure => omega
        case rel => exact ⟨i, (i + j) / 2, h1, hk, by omega, rfl, rfl, by rw [HMM.out], HB2.out⟩
    · obtain rfl : i = k := by omega
      by_cases hin : i < n
      · have hil : i < l.length := by have := HNL.out; omega
        obtain ⟨b, o, hA, c1, c2⟩ := rowAt (HR.out.below HB.out) (List.getElem?_eq_getElem hil)
        subst hA
        have hd := HTH.out
        rw [List.getElem?_eq_getElem hil] at hd
        generalize l[i] = r at *
        obtain ⟨kk, nn⟩ := r
        simp only at c1 c2 hd
        have hcall := Lib.hid (atC1 kk key nn wr)
        generalize Lib.compareBytes (BL.txt kk) (BL.txt key) = z at hcall hd
        have HD := Lib.hid hd
        clear hd
        go_wp2_with fail
        refine hcall.out.mono ?_
        rintro e w2 ⟨rfl, hb2⟩
        have HB2 := Lib.hid (below_then HB.out hb2)
        clear hb2 hcall c1 c2
        go_wp2_with fail
        exact ⟨by rw [HD.out]; rfl, HB2.out⟩
      · have hil : l[i]? = none := List.getElem?_eq_none (by have := HNL.out; omega)
        have hd := HTH.out
        rw [hil] at hd
        have HD := Lib.hid hd
        have hdn : decide (i < n) = false := decide_eq_false hin
        clear hd hil
        go_wp2_with fail
        exact ⟨by rw [HD.out], HB.out⟩

end Go.Proofs.YtlekfpeonehggaaGreatDoor
end

section
namespace Go.Proofs.Ky
set_option linter.unusedVariables false
set_option linter.unusedSectionVars false
variable {K : Type} [DecidableEq K] (O : Ord K)
theorem go_low {k : K} (n : Int) (i : Bool) : ∀ {p r : List (Row K)}, (∀ x ∈ p, O.lt x.1 k = true) → withGo O k n i (p ++ r) = p ++ withGo O k n i r
  | [], r, _ => rfl
  | x :: p, r, h => by
    have hx := h x List.mem_cons_self
    have ih := go_low n i (p := p) (r := r) (fun y hy => h y (List.mem_cons_of_mem _ hy))
    have hne := O.ne hx
    simp only [List.cons_append, withGo, hx, Bool.not_true, Bool.and_false, Bool.or_false, ih, hne, if_false, Bool.false_eq_true, List.nil_append]
theorem go_high {k : K} (n : Int) : ∀ (i : Bool) {p r : List (Row K)}, (∀ x ∈ r, O.lt k x.1 = true) → withGo O k n i (p ++ r) = withGo O k n i p ++ r
  | true, p, r, h => by
    rw [go_in, go_in, List.filter_append, filter_ne (fun x hx => (O.ne (h x hx)).symm)]
  | false, [], r, h => by
    cases r with
    | nil => simp
    | cons y t =>
      have hy := h y List.mem_cons_self
      have hlt := O.asym hy
      have hne : ¬ y.1 = k := (O.ne hy).symm
      simp only [List.nil_append, withGo, hlt, Bool.not_false, Bool.and_self, Bool.or_true, if_true, hne, if_false, go_in, Bool.false_eq_true]
      rw [filter_ne (fun x hx => (O.ne (h x (List.mem_cons_of_mem _ hx))).symm)]
      rfl
  | false, x :: p, r, h => by
    have ih := fun i => go_high (k := k) n i (p := p) (r := r) h
    simp only [List.cons_append, withGo, ih, List.append_assoc]
theorem with_low {k : K} (v : Option Int) {p r : List (Row K)} (h : ∀ x ∈ p, O.lt x.1 k = true) : withR O k v (p ++ r) = p ++ withR O k v r := by
  cases v with
  | none => exact go_low O 0 true h
  | some n => exact go_low O n false h
theorem with_high {k : K} (v : Option Int) {p r : List (Row K)} (h : ∀ x ∈ r, O.lt k x.1 = true) : withR O k v (p ++ r) = withR O k v p ++ r := by
  cases v with
  | none => exact go_high O 0 true h
  | some n => exact go_high O n false h
/-- A page begins above a key. -/
def over (k : K) (p : List (Row K)) : Bool := match p with | [] => false | r :: _ => O.lt k r.1
/-- A key's page. -/
def pgI (k : K) : List (List (Row K)) → Nat
  | [] => 0
  | [_] => 0
  | _ :: q :: R => if over O k q then 0 else pgI k (q :: R) + 1
theorem pgI_lt (k : K) : ∀ {P : List (List (Row K))}, P ≠ [] → pgI O k P < P.length
  | [], h => absurd rfl h
  | [p], _ => Nat.zero_lt_one
  | p :: q :: R, _ => by
    have := pgI_lt k (P := q :: R) (by simp)
    unfold pgI
    simp only [List.length_cons] at this ⊢
    split <;> omega
/-- Pages that hold: none empty, all rows by rising keys. -/
def Pgs (P : List (List (Row K))) : Prop := Up O P.flatten ∧ ∀ p ∈ P, p ≠ []
theorem Pgs.tail {p : List (Row K)} {R : List (List (Row K))} (h : Pgs O (p :: R)) : Pgs O R := by
  refine ⟨?_, fun q hq => h.2 q (List.mem_cons_of_mem _ hq)⟩
  have := h.1
  rw [List.flatten_cons] at this
  exact (List.pairwise_append.1 this).2.1
theorem pgs_over {k : K} {p q : List (Row K)} {R : List (List (Row K))} (h : Pgs O (p :: q :: R)) (ho : over O k q = true) : ∀ x ∈ (q :: R).flatten, O.lt k x.1 = true := by
  have hu := h.tail.1
  cases q with
  | nil => cases ho
  | cons s q =>
    intro x hx
    rw [List.flatten_cons, List.cons_append] at hu hx
    exact above_cons O hu ho x hx
theorem pgs_under {k : K} {p q : List (Row K)} {R : List (List (Row K))} (h : Pgs O (p :: q :: R)) (ho : over O k q = false) : ∀ x ∈ p, O.lt x.1 k = true := by
  intro x hx
  have hq := h.2 q (by simp)
  have hu := h.1
  cases q with
  | nil => exact absurd rfl hq
  | cons s q =>
    have hk : O.lt k s.1 = false := ho
    rw [List.flatten_cons] at hu
    have := (List.pairwise_append.1 hu).2.2 x hx s (by simp)
    cases e : O.lt s.1 k with
    | true => exact O.tr _ _ _ this e
    | false => rw [O.tot _ _ hk e]; exact this
/-- With of all rows is With of the key's page. -/
theorem with_flat {k : K} (v : Option Int) : ∀ {P : List (List (Row K))}, Pgs O P → P ≠ [] → withR O k v P.flatten = (P.modify (pgI O k P) (withR O k v)).flatten
  | [], _, h => absurd rfl h
  | [p], _, _ => by simp [pgI]
  | p :: q :: R, h, _ => by
    unfold pgI
    cases ho : over O k q with
    | true =>
      rw [if_pos rfl, List.flatten_cons, with_high O v (pgs_over O h ho)]
      simp
    | false =>
      have ih := with_flat v (k := k) (P := q :: R) h.tail (by simp)
      rw [if_neg (by simp), List.flatten_cons, with_low O v (pgs_under O h ho), ih]
      simp
theorem get_flat {k : K} : ∀ {P : List (List (Row K))}, Pgs O P → P ≠ [] → get k P.flatten = get k (P.getD (pgI O k P) [])
  | [], _, h => absurd rfl h
  | [p], _, _ => by simp [pgI]
  | p :: q :: R, h, _ => by
    unfold pgI
    cases ho : over O k q with
    | true =>
      rw [if_pos rfl, List.flatten_cons, get_app, get_none (l := (q :: R).flatten) (fun x hx => (O.ne (pgs_over O h ho x hx)).symm)]
      show _ = get k p
      cases get k p <;> rfl
    | false =>
      have ih := get_flat (k := k) (P := q :: R) h.tail (by simp)
      rw [if_neg (by simp), List.flatten_cons, get_app, get_none (l := p) (fun x hx => O.ne (pgs_under O h ho x hx))]
      show get k (q :: R).flatten = _
      rw [ih]
      simp
/-- A page that is too full is two. -/
def partR (most : Nat) (p : List (Row K)) : List (List (Row K)) := if most < p.length then [p.take (p.length / 2), p.drop (p.length / 2)] else [p]
theorem part_flat (most : Nat) (p : List (Row K)) : (partR most p).flatten = p := by
  unfold partR
  split <;> simp
/-- In the place of one page some others. -/
def putAt (P : List (List (Row K))) (i : Nat) (l : List (List (Row K))) : List (List (Row K)) := P.take i ++ l ++ P.drop (i + 1)
theorem putAt_flat {P : List (List (Row K))} {i : Nat} (hi : i < P.length) (f : List (Row K) → List (Row K)) (l : List (List (Row K))) (hl : l.flatten = f P[i]) : (putAt P i l).flatten = (P.modify i f).flatten := by
  unfold putAt
  rw [List.modify_eq_take_cons_drop hi]
  simp [hl]
end Go.Proofs.Ky
end
