/- Rows by rising keys: the program's set, drop, New, Run and Apply do what the document's With does. Plain. -/
import Derived.Test.YtlekfpeonehggaaKb
namespace Go.Proofs.Ky
set_option linter.unusedVariables false
set_option linter.unusedSectionVars false
variable {K : Type} [DecidableEq K] (O : Ord K)
theorem there_lt {k : K} {l : List (Row K)} (h : there O k l = true) : low O k l < l.length := by
  unfold there at h
  cases hg : l[low O k l]? with
  | none => rw [hg] at h; cases h
  | some r => exact (List.getElem?_eq_some_iff.1 hg).1
theorem len_with_some {k : K} (n : Int) {l : List (Row K)} (h : Up O l) : (withR O k (some n) l).length = if there O k l then l.length else l.length + 1 := by
  rw [with_some O n h]
  have := low_le O k l
  split
  · simp
  · simp only [List.length_append, List.length_cons, List.length_take, List.length_drop]; omega
theorem len_with_none {k : K} {l : List (Row K)} (h : Up O l) : (withR O k none l).length ≤ l.length := by
  rw [with_none O h]
  split
  · exact (List.eraseIdx_sublist _ _).length_le
  · exact Nat.le_refl _
/-- The program's set: none: there is no room. -/
def setP (k : K) (n : Int) (l : List (Row K)) : Option (List (Row K)) :=
  if there O k l then some (l.set (low O k l) (k, n)) else if 256 ≤ l.length then none else some (l.take (low O k l) ++ (k, n) :: l.drop (low O k l))
def dropP (k : K) (l : List (Row K)) : List (Row K) := if there O k l then l.eraseIdx (low O k l) else l
theorem set_with {k : K} {n : Int} {l : List (Row K)} (h : Up O l) (hl : l.length ≤ 256) : setP O k n l = if 256 < (withR O k (some n) l).length then none else some (withR O k (some n) l) := by
  rw [len_with_some O n h, with_some O n h]
  unfold setP
  cases ht : there O k l
  · simp only [Bool.false_eq_true, if_false]
    by_cases hn : 256 ≤ l.length
    · rw [if_pos hn, if_pos (by omega)]
    · rw [if_neg hn, if_neg (by omega)]
  · simp only [if_true]
    rw [if_neg (by omega)]
theorem drop_with {k : K} {l : List (Row K)} (h : Up O l) : dropP O k l = withR O k none l := (with_none O h).symm
/-- New, of rows; ok: a key that is not too long. -/
def newP (ok : K → Bool) (rows l : List (Row K)) : List (Row K) := rows.foldl (fun l r => if ok r.1 then (setP O r.1 r.2 l).getD l else l) l
def newR (ok : K → Bool) (rows l : List (Row K)) : List (Row K) := rows.foldl (fun l r => if ok r.1 = true ∧ (withR O r.1 (some r.2) l).length ≤ 256 then withR O r.1 (some r.2) l else l) l
def Fit (l : List (Row K)) : Prop := Up O l ∧ l.length ≤ 256
theorem new_step (ok : K → Bool) (r : Row K) {l : List (Row K)} (h : Fit O l) : (if ok r.1 then (setP O r.1 r.2 l).getD l else l) = (if ok r.1 = true ∧ (withR O r.1 (some r.2) l).length ≤ 256 then withR O r.1 (some r.2) l else l) ∧
    Fit O (if ok r.1 = true ∧ (withR O r.1 (some r.2) l).length ≤ 256 then withR O r.1 (some r.2) l else l) := by
  rw [set_with O h.1 h.2]
  cases hk : ok r.1
  · exact ⟨by simp, by simpa using h⟩
  · by_cases hn : (withR O r.1 (some r.2) l).length ≤ 256
    · rw [if_pos rfl, if_neg (by omega), if_pos ⟨rfl, hn⟩]
      exact ⟨rfl, up_with_some O r.2 h.1, hn⟩
    · rw [if_pos rfl, if_pos (by omega), if_neg (fun e => hn e.2)]
      exact ⟨rfl, h⟩
theorem new_same (ok : K → Bool) : ∀ (rows l : List (Row K)), Fit O l → newP O ok rows l = newR O ok rows l ∧ Fit O (newR O ok rows l)
  | [], l, h => ⟨rfl, h⟩
  | r :: rows, l, h => by
    obtain ⟨h1, h2⟩ := new_step O ok r h
    have ih := new_same ok rows _ h2
    unfold newP newR at *
    rw [List.foldl_cons, List.foldl_cons, h1]
    exact ih
/-- What an operation asks: what its key holds now (none: nothing), what it tells; or an error. -/
def runP {U : Type} (key : U → K) (ev : U → Option Int → Except Int (Option Int × Int)) : Nat → List (Row K) → List U → Except (Nat × Int) (List (Row K) × List Int)
  | _, l, [] => .ok (l, [])
  | i, l, o :: os => match ev o (get (key o) l) with
    | .error e => .error (i, e)
    | .ok (none, t) => (runP key ev (i + 1) (dropP O (key o) l) os).map (fun x => (x.1, t :: x.2))
    | .ok (some n, t) => match setP O (key o) n l with
      | none => .error (i, 5)
      | some m => (runP key ev (i + 1) m os).map (fun x => (x.1, t :: x.2))
def runR {U : Type} (key : U → K) (ev : U → Option Int → Except Int (Option Int × Int)) : Nat → List (Row K) → List U → Except (Nat × Int) (List (Row K) × List Int)
  | _, l, [] => .ok (l, [])
  | i, l, o :: os => match ev o (get (key o) l) with
    | .error e => .error (i, e)
    | .ok (v, t) => if 256 < (withR O (key o) v l).length then .error (i, 5) else (runR key ev (i + 1) (withR O (key o) v l) os).map (fun x => (x.1, t :: x.2))
theorem run_same {U : Type} (key : U → K) (ev : U → Option Int → Except Int (Option Int × Int)) : ∀ (os : List U) (i : Nat) (l : List (Row K)), Fit O l → runP O key ev i l os = runR O key ev i l os
  | [], _, _, _ => rfl
  | o :: os, i, l, h => by
    simp only [runP, runR]
    cases ev o (get (key o) l) with
    | error e => rfl
    | ok vt =>
      obtain ⟨v, t⟩ := vt
      cases v with
      | none =>
        have hl := len_with_none O (k := key o) h.1
        have h2 := h.2
        simp only []
        rw [if_neg (by omega), drop_with O h.1, run_same key ev os _ _ ⟨up_with_none O h.1, by omega⟩]
      | some n =>
        simp only []
        rw [set_with O h.1 h.2]
        by_cases hn : 256 < (withR O (key o) (some n) l).length
        · rw [if_pos hn, if_pos hn]
        · rw [if_neg hn, if_neg hn]
          simp only []
          rw [run_same key ev os _ _ ⟨up_with_some O n h.1, by omega⟩]
/-- Changes: (key, what it holds, whether it does). -/
def appP : List (Row K) → List (Chg K) → Option (List (Row K))
  | l, [] => some l
  | l, (k, n, t) :: c => if t then (match setP O k n l with | none => none | some m => appP m c) else appP (dropP O k l) c
def appR : List (Row K) → List (Chg K) → Option (List (Row K))
  | l, [] => some l
  | l, (k, n, t) :: c => if 256 < (withR O k (if t then some n else none) l).length then none else appR (withR O k (if t then some n else none) l) c
theorem app_same : ∀ (c : List (Chg K)) (l : List (Row K)), Fit O l → appP O l c = appR O l c
  | [], _, _ => rfl
  | (k, n, t) :: c, l, h => by
    cases t with
    | false =>
      have hl := len_with_none O (k := k) h.1
      have h2 := h.2
      simp only [appP, appR, Bool.false_eq_true, if_false]
      rw [if_neg (by omega), drop_with O h.1]
      exact app_same c _ ⟨up_with_none O h.1, by omega⟩
    | true =>
      simp only [appP, appR, if_true]
      rw [set_with O h.1 h.2]
      by_cases hn : 256 < (withR O k (some n) l).length
      · rw [if_pos hn, if_pos hn]
      · rw [if_neg hn, if_neg hn]
        exact app_same c _ ⟨up_with_some O n h.1, by omega⟩
end Go.Proofs.Ky
