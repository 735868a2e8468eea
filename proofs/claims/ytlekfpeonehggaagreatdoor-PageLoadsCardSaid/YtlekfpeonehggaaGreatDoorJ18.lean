/- Rows by rising keys: the program's set, drop, New, Run and Apply do what the document's With does. Plain. What Diff tells, when applied, makes the other one. Plain. -/
import Derived.Test.YtlekfpeonehggaaGreatDoorJ17
section
namespace Go.Proofs.Ky
set_option linter.unusedVariables false
set_option linter.unusedSectionVars false
variable {K : Type} [DecidableEq K] (O : Ord K)
theorem there_lt {k : K} {l : List (Row K)} (h : there O k l = true) : low O k l < l.length := by
  unfold there at h
  cases hg : l[low O k l]? with
  | none => rw [hg] at h; cases h
  | some r => exact (List.getElem?_eq_some_iff.1 hg).1
theorem len_with_some {k : K} (n : Int) {l : List (Row K)} (h : Up O l) : (withR O k (some n) l).length = if there O k l then l.length else l.length + 1 := by
  rw [with_some O n h]
  have := low_le O k l
  split
  · simp
  · simp only [List.length_append, List.length_cons, List.length_take, List.length_drop]; omega
theorem len_with_none {k : K} {l : List (Row K)} (h : Up O l) : (withR O k none l).length ≤ l.length := by
  rw [with_none O h]
  split
  · exact (List.eraseIdx_sublist _ _).length_le
  · exact Nat.le_refl _
/-- The program's set: none: there is no room. -/
def setP (k : K) (n : Int) (l : List (Row K)) : Option (List (Row K)) :=
  if there O k l then some (l.set (low O k l) (k, n)) else if 256 ≤ l.length then none else some (l.take (low O k l) ++ (k, n) :: l.drop (low O k l))
def dropP (k : K) (l : List (Row K)) : List (Row K) := if there O k l then l.eraseIdx (low O k l) else l
theorem set_with {k : K} {n : Int} {l : List (Row K)} (h : Up O l) (hl : l.length ≤ 256) : setP O k n l = if 256 < (withR O k (some n) l).length then none else some (withR O k (some n) l) := by
  rw [len_with_some O n h, with_some O n h]
  unfold setP
  cases ht : there O k l
  · simp only [Bool.false_eq_true, if_false]
    by_cases hn : 256 ≤ l.length
    · rw [if_pos hn, if_pos (by omega)]
    · rw [if_neg hn, if_neg (by omega)]
  · simp only [if_true]
    rw [if_neg (by omega)]
theorem drop_with {k : K} {l : List (Row K)} (h : Up O l) : dropP O k l = withR O k none l := (with_none O h).symm
/-- New, of rows; ok: a key that is not too long. -/
def newP (ok : K → Bool) (rows l : List (Row K)) : List (Row K) := rows.foldl (fun l r => if ok r.1 then (setP O r.1 r.2 l).getD l else l) l
def newR (ok : K → Bool) (rows l : List (Row K)) : List (Row K) := rows.foldl (fun l r => if ok r.1 = true ∧ (withR O r.1 (some r.2) l).length ≤ 256 then withR O r.1 (some r.2) l else l) l
def Fit (l : List (Row K)) : Prop := Up O l ∧ l.length ≤ 256
theorem new_step (ok : K → Bool) (r : Row K) {l : List (Row K)} (h : Fit O l) : (if ok r.1 then (setP O r.1 r.2 l).getD l else l) = (if ok r.1 = true ∧ (withR O r.1 (some r.2) l).length ≤ 256 then withR O r.1 (some r.2) l else l) ∧
    Fit O (if ok r.1 = true ∧ (withR O r.1 (some r.2) l).length ≤ 256 then withR O r.1 (some r.2) l else l) := by
  rw [set_with O h.1 h.2]
  cases hk : ok r.1
  · exact ⟨by simp, by simpa using h⟩
  · by_cases hn : (withR O r.1 (some r.2) l).length ≤ 256
    · rw [if_pos rfl, if_neg (by omega), if_pos ⟨rfl, hn⟩]
      exact ⟨rfl, up_with_some O r.2 h.1, hn⟩
    · rw [if_pos rfl, if_pos (by omega), if_neg (fun e => hn e.2)]
      exact ⟨rfl, h⟩
theorem new_same (ok : K → Bool) : ∀ (rows l : List (Row K)), Fit O l → newP O ok rows l = newR O ok rows l ∧ Fit O (newR O ok rows l)
  | [], l, h => ⟨rfl, h⟩
  | r :: rows, l, h => by
    obtain ⟨h1, h2⟩ := new_step O ok r h
    have ih := new_same ok rows _ h2
    unfold newP newR at *
    rw [List.foldl_cons, List.foldl_cons, h1]
    exact ih
/-- What an operation asks: what its key holds now (none: nothing), what it tells; or an error. -/
def runP {U : Type} (key : U → K) (ev : U → Option Int → Except Int (Option Int × Int)) : Nat → List (Row K) → List U → Except (Nat × Int) (List (Row K) × List Int)
  | _, l, [] => .ok (l, [])
  | i, l, o :: os => match ev o (get (key o) l) with
    | .error e => .error (i, e)
    | .ok (none, t) => (runP key ev (i + 1) (dropP O (key o) l) os).map (fun x => (x.1, t :: x.2))
    | .ok (some n, t) => match setP O (key o) n l with
      | none => .error (i, 5)
      | some m => (runP key ev (i + 1) m os).map (fun x => (x.1, t :: x.2))
def runR {U : Type} (key : U → K) (ev : U → Option Int → Except Int (Option Int × Int)) : Nat → List (Row K) → List U → Except (Nat × Int) (List (Row K) × List Int)
  | _, l, [] => .ok (l, [])
  | i, l, o :: os => match ev o (get (key o) l) with
    | .error e => .error (i, e)
    | .ok (v, t) => if 256 < (withR O (key o) v l).length then .error (i, 5) else (runR key ev (i + 1) (withR O (key o) v l) os).map (fun x => (x.1, t :: x.2))
theorem run_same {U : Type} (key : U → K) (ev : U → Option Int → Except Int (Option Int × Int)) : ∀ (os : List U) (i : Nat) (l : List (Row K)), Fit O l → runP O key ev i l os = runR O key ev i l os
  | [], _, _, _ => rfl
  | o :: os, i, l, h => by
    simp only [runP, runR]
    cases ev o (get (key o) l) with
    | error e => rfl
    | ok vt =>
      obtain ⟨v, t⟩ := vt
      cases v with
      | none =>
        have hl := len_with_none O (k := key o) h.1
        have h2 := h.2
        simp only []
        rw [if_neg (by omega), drop_with O h.1, run_same key ev os _ _ ⟨up_with_none O h.1, by omega⟩]
      | some n =>
        simp only []
        rw [set_with O h.1 h.2]
        by_cases hn : 256 < (withR O (key o) (some n) l).length
        · rw [if_pos hn, if_pos hn]
        · rw [if_neg hn, if_neg hn]
          simp only []
          rw [run_same key ev os _ _ ⟨up_with_some O n h.1, by omega⟩]
/-- Changes: (key, what it holds, whether it does). -/
def appP : List (Row K) → List (Chg K) → Option (List (Row K))
  | l, [] => some l
  | l, (k, n, t) :: c => if t then (match setP O k n l with | none => none | some m => appP m c) else appP (dropP O k l) c
def appR : List (Row K) → List (Chg K) → Option (List (Row K))
  | l, [] => some l
  | l, (k, n, t) :: c => if 256 < (withR O k (if t then some n else none) l).length then none else appR (withR O k (if t then some n else none) l) c
theorem app_same : ∀ (c : List (Chg K)) (l : List (Row K)), Fit O l → appP O l c = appR O l c
  | [], _, _ => rfl
  | (k, n, t) :: c, l, h => by
    cases t with
    | false =>
      have hl := len_with_none O (k := k) h.1
      have h2 := h.2
      simp only [appP, appR, Bool.false_eq_true, if_false]
      rw [if_neg (by omega), drop_with O h.1]
      exact app_same c _ ⟨up_with_none O h.1, by omega⟩
    | true =>
      simp only [appP, appR, if_true]
      rw [set_with O h.1 h.2]
      by_cases hn : 256 < (withR O k (some n) l).length
      · rw [if_pos hn, if_pos hn]
      · rw [if_neg hn, if_neg hn]
        exact app_same c _ ⟨up_with_some O n h.1, by omega⟩
end Go.Proofs.Ky
end

section
namespace Go.Proofs.Ky
set_option linter.unusedVariables false
set_option linter.unusedSectionVars false
variable {K : Type} [DecidableEq K] (O : Ord K)
def val (x : Chg K) : Option Int := if x.2.2 then some x.2.1 else none
def appAll (l : List (Row K)) (c : List (Chg K)) : List (Row K) := c.foldl (fun l x => withR O x.1 (val x) l) l
def getC (k : K) (c : List (Chg K)) : Option (Chg K) := c.find? (fun x => x.1 == k)
theorem getC_cons (k : K) (x : Chg K) (c : List (Chg K)) : getC k (x :: c) = if x.1 = k then some x else getC k c := by
  unfold getC
  by_cases h : x.1 = k
  · rw [List.find?_cons_of_pos (by simpa using h), if_pos h]
  · rw [List.find?_cons_of_neg (by simpa using h), if_neg h]
theorem up_appAll : ∀ (c : List (Chg K)) (l : List (Row K)), Up O l → Up O (appAll O l c)
  | [], _, h => h
  | x :: c, l, h => by
    refine up_appAll c (withR O x.1 (val x) l) ?_
    cases val x with
    | none => exact up_with_none O h
    | some n => exact up_with_some O n h
theorem len_with {k : K} (v : Option Int) {l : List (Row K)} (h : Up O l) : (withR O k v l).length ≤ l.length + 1 := by
  cases v with
  | none => have := len_with_none O (k := k) h; omega
  | some n => rw [len_with_some O n h]; split <;> omega
theorem app_all : ∀ (c : List (Chg K)) (l : List (Row K)), Up O l → l.length + c.length ≤ 256 → appR O l c = some (appAll O l c)
  | [], l, _, _ => rfl
  | (k, n, t) :: c, l, h, hl => by
    have h1 := len_with O (k := k) (if t then some n else none) h
    simp only [List.length_cons] at hl
    simp only [appR]
    rw [if_neg (by omega)]
    refine app_all c _ ?_ (by omega)
    cases t
    · exact up_with_none O h
    · exact up_with_some O n h
theorem get_appAll (k : K) : ∀ (c : List (Chg K)) (l : List (Row K)), c.Pairwise (fun a b => a.1 ≠ b.1) → get k (appAll O l c) = match getC k c with | some x => val x | none => get k l
  | [], l, _ => rfl
  | x :: c, l, h => by
    have h' := List.pairwise_cons.1 h
    have ih := get_appAll k c (withR O x.1 (val x) l) h'.2
    show get k (appAll O (withR O x.1 (val x) l) c) = _
    rw [ih, get_with, getC_cons]
    by_cases e : x.1 = k
    · have hn : getC k c = none := List.find?_eq_none.2 (fun y hy => by have := h'.1 y hy; rw [e] at this; simpa using Ne.symm this)
      rw [hn, if_pos e, if_pos e.symm]
    · rw [if_neg e, if_neg (fun h => e h.symm)]
theorem dec_key {k : K} {n m : Option Int} {x : Chg K} (h : dec k n m = some x) : x.1 = k ∧ val x = m := by
  unfold dec at h
  split at h
  · injection h with h
    subst h
    refine ⟨rfl, ?_⟩
    cases m <;> rfl
  · cases h
theorem dec_none {k : K} {n m : Option Int} (h : dec k n m = none) : n = m := by
  unfold dec at h
  split at h
  · cases h
  · rename_i h1
    cases n <;> cases m <;> simp_all
theorem fm_dist (F : Row K → Option (Chg K)) (hF : ∀ x y, F x = some y → y.1 = x.1) : ∀ {l : List (Row K)}, Up O l → (l.filterMap F).Pairwise (fun a b => a.1 ≠ b.1)
  | [], _ => List.Pairwise.nil
  | x :: l, h => by
    have h' := List.pairwise_cons.1 h
    have ih := fm_dist F hF h'.2
    rw [List.filterMap_cons]
    cases hx : F x with
    | none => exact ih
    | some y =>
      refine List.pairwise_cons.2 ⟨fun z hz => ?_, ih⟩
      obtain ⟨u, hu, hz2⟩ := List.mem_filterMap.1 hz
      rw [hF x y hx, hF u z hz2]
      exact O.ne (h'.1 u hu)
theorem fm_get (F : Row K → Option (Chg K)) (hF : ∀ x y, F x = some y → y.1 = x.1) (k : K) : ∀ {l : List (Row K)}, Up O l → getC k (l.filterMap F) = match l.find? (fun r => r.1 == k) with | some x => F x | none => none
  | [], _ => rfl
  | x :: l, h => by
    have h' := List.pairwise_cons.1 h
    have ih := fm_get F hF k h'.2
    rw [List.filterMap_cons]
    by_cases e : x.1 = k
    · rw [List.find?_cons_of_pos (by simpa using e)]
      have hl : l.find? (fun r => r.1 == k) = none := List.find?_eq_none.2 (fun y hy => by have := O.ne (h'.1 y hy); rw [e] at this; simpa using Ne.symm this)
      rw [hl] at ih
      cases hx : F x with
      | none => exact ih.trans hx.symm
      | some y =>
        exact ((getC_cons k y _).trans (if_pos (by rw [hF x y hx]; exact e))).trans hx.symm
    · rw [List.find?_cons_of_neg (by simpa using e), ← ih]
      cases hx : F x with
      | none => rfl
      | some y =>
        simp only []
        rw [getC_cons, if_neg (by rw [hF x y hx]; exact e)]
theorem diff_makes {a b : List (Row K)} (ha : Up O a) (hb : Up O b) : appAll O a (diffR O a b) = b := by
  have hF : ∀ x y, dec (K := K) x.1 (get x.1 a) (get x.1 b) = some y → y.1 = (x : Row K).1 := fun x y h => (dec_key h).1
  have hall := up_all O (b := b) ha
  refine ext_get O (up_appAll O _ _ ha) hb (fun k => ?_)
  unfold diffR
  rw [get_appAll O k _ _ (fm_dist O _ hF hall)]
  rw [fm_get O _ hF k hall]
  have hg := get_all O (a := a) hb k
  unfold get at hg
  cases hx : (allR O a b).find? (fun r => r.1 == k) with
  | none =>
    rw [hx] at hg
    show get k a = get k b
    unfold get
    cases h1 : b.find? (fun r => r.1 == k) with
    | some s => rw [h1] at hg; cases hg
    | none =>
      rw [h1] at hg
      cases h2 : a.find? (fun r => r.1 == k) with
      | some s => rw [h2] at hg; cases hg
      | none => rfl
  | some x =>
    have hk : x.1 = k := by simpa using List.find?_some hx
    subst hk
    simp only []
    cases hd : dec x.1 (get x.1 a) (get x.1 b) with
    | none => exact dec_none hd
    | some y => exact (dec_key hd).2
theorem diff_len {a b : List (Row K)} (ha : Up O a) (hb : Up O b) : (diffR O a b).length ≤ a.length + b.length := by
  unfold diffR
  refine Nat.le_trans (List.length_filterMap_le _ _) ?_
  have : ∀ (b a : List (Row K)), Up O a → (allR O a b).length ≤ a.length + b.length := by
    intro b
    induction b with
    | nil => intro a _; exact Nat.le_refl _
    | cons r b ih =>
      intro a h
      have h1 := ih (withR O r.1 (some r.2) a) (up_with_some O r.2 h)
      have h2 := len_with O (k := r.1) (some r.2) h
      show (allR O (withR O r.1 (some r.2) a) b).length ≤ _
      simp only [List.length_cons]
      omega
  exact this b a ha
end Go.Proofs.Ky
end
