/- Sets of keys as rising lists: the document puts them in one by one, the program sorts and takes doubles out. Plain (chapter 16, Add). -/
import Derived.Test.YtkfciofpbnlmeaaDoorKa
namespace Go.Proofs.Ky
set_option linter.unusedVariables false
set_option linter.unusedSectionVars false
set_option linter.unusedSimpArgs false
variable {K : Type} [DecidableEq K] (O : Ord K)
def Upk (l : List K) : Prop := l.Pairwise (fun a b => O.lt a b = true)
theorem ext_mem : ∀ {l m : List K}, Upk O l → Upk O m → (∀ x, x ∈ l ↔ x ∈ m) → l = m
  | [], [], _, _, _ => rfl
  | [], s :: m, _, _, h => absurd ((h s).2 List.mem_cons_self) (by simp)
  | r :: l, [], _, _, h => absurd ((h r).1 List.mem_cons_self) (by simp)
  | r :: l, s :: m, hl, hm, h => by
    have hl' := List.pairwise_cons.1 hl
    have hm' := List.pairwise_cons.1 hm
    have e : r = s := by
      rcases List.mem_cons.1 ((h r).1 List.mem_cons_self) with h3 | h3
      · exact h3
      · rcases List.mem_cons.1 ((h s).2 List.mem_cons_self) with h4 | h4
        · exact h4.symm
        · have h5 := hm'.1 _ h3
          have h6 := hl'.1 _ h4
          rw [O.asym h5] at h6
          cases h6
    subst e
    rw [ext_mem hl'.2 hm'.2 (fun x => by
      have hx := h x
      simp only [List.mem_cons] at hx
      constructor
      · intro hxl
        rcases hx.1 (.inr hxl) with e | e
        · subst e; have := hl'.1 x hxl; rw [O.irr] at this; cases this
        · exact e
      · intro hxm
        rcases hx.2 (.inr hxm) with e | e
        · subst e; have := hm'.1 x hxm; rw [O.irr] at this; cases this
        · exact e)]
/-- The document's: put one in. -/
def insGo (k : K) : Bool → List K → List K
  | i, [] => if i then [] else [k]
  | i, x :: t =>
    let here := !i && !(O.lt x k)
    let rest := insGo k (i || here) t
    (if here then [k] else []) ++ (if x = k then [] else [x]) ++ rest
def insK (k : K) (l : List K) : List K := insGo O k false l
def setR (keys : List K) : List K := keys.foldl (fun l k => insK O k l) []
theorem ins_with (k : K) : ∀ (i : Bool) (l : List K), (insGo O k i l).map (fun x => (x, (0 : Int))) = withGo O k 0 i (l.map (fun x => (x, (0 : Int))))
  | i, [] => by cases i <;> rfl
  | i, x :: t => by
    have ih := fun i => ins_with k i t
    simp only [insGo, withGo, List.map_cons, List.map_append, ih]
    congr 1
    congr 1
    · split <;> rfl
    · split <;> rfl
theorem upk_map {l : List K} : Upk O l ↔ Up O (l.map (fun x => (x, (0 : Int)))) := by
  unfold Upk Up
  rw [List.pairwise_map]
theorem ins_up {k : K} {l : List K} (h : Upk O l) : Upk O (insK O k l) := by
  rw [upk_map] at h ⊢
  unfold insK
  rw [ins_with]
  exact up_with_some O 0 h
theorem ins_mem {k : K} : ∀ {i : Bool} {l : List K} {y : K}, y ∈ insGo O k i l ↔ (y ∈ l ∧ y ≠ k) ∨ (y = k ∧ i = false)
  | i, [], y => by cases i <;> simp [insGo]
  | i, x :: t, y => by
    have ih := fun i => ins_mem (k := k) (i := i) (l := t) (y := y)
    simp only [insGo, List.mem_append, ih, List.mem_cons]
    by_cases hx : x = k
    · subst hx
      cases i <;> cases h : O.lt x x <;> simp [h] <;> (by_cases e : y = x <;> simp [e])
    · cases i <;> cases h : O.lt x k <;> simp [h, hx] <;> (by_cases e : y = k <;> by_cases e2 : y = x <;> simp_all)
theorem set_from : ∀ (keys l : List K), Upk O l → Upk O (keys.foldl (fun l k => insK O k l) l) ∧ ∀ x, x ∈ keys.foldl (fun l k => insK O k l) l ↔ x ∈ l ∨ x ∈ keys
  | [], l, h => ⟨h, fun x => by simp⟩
  | k :: keys, l, h => by
    obtain ⟨h1, h2⟩ := set_from keys (insK O k l) (ins_up O h)
    refine ⟨h1, fun x => ?_⟩
    rw [List.foldl_cons, h2 x]
    unfold insK
    rw [ins_mem O]
    by_cases e : x = k <;> simp [e]
theorem set_spec (keys : List K) : Upk O (setR O keys) ∧ ∀ x, x ∈ setR O keys ↔ x ∈ keys := by
  obtain ⟨h1, h2⟩ := set_from O keys [] List.Pairwise.nil
  exact ⟨h1, fun x => by unfold setR; rw [h2 x]; simp⟩
/-- The program's: of sorted ones each once. -/
def compactK : List K → List K
  | [] => []
  | [x] => [x]
  | x :: y :: t => if x = y then compactK (y :: t) else x :: compactK (y :: t)
theorem compact_mem : ∀ {l : List K} {x : K}, x ∈ compactK l ↔ x ∈ l
  | [], x => Iff.rfl
  | [y], x => Iff.rfl
  | y :: z :: t, x => by
    have ih := compact_mem (l := z :: t) (x := x)
    unfold compactK
    split
    · rename_i e
      subst e
      rw [ih]
      simp
    · rw [List.mem_cons, ih, List.mem_cons (l := z :: t)]
theorem compact_up : ∀ {l : List K}, l.Pairwise (fun a b => O.lt b a = false) → Upk O (compactK l)
  | [], _ => List.Pairwise.nil
  | [y], _ => List.pairwise_singleton _ _
  | y :: z :: t, h => by
    have h' := List.pairwise_cons.1 h
    have ih := compact_up (l := z :: t) h'.2
    unfold compactK
    split
    · exact ih
    · rename_i hne
      refine List.pairwise_cons.2 ⟨fun x hx => ?_, ih⟩
      rw [compact_mem] at hx
      have hyz : O.lt y z = true := by
        cases e : O.lt y z with
        | true => rfl
        | false => exact absurd (O.tot _ _ e (h'.1 z List.mem_cons_self)) hne
      rcases List.mem_cons.1 hx with rfl | hx
      · exact hyz
      · have hzx := (List.pairwise_cons.1 h'.2).1 x hx
        cases e : O.lt z x with
        | true => exact O.tr _ _ _ hyz e
        | false => rw [← O.tot _ _ e hzx]; exact hyz
/-- Sorted and each once: the document's set. -/
theorem compact_set {keys l : List K} (hs : l.Pairwise (fun a b => O.lt b a = false)) (hp : ∀ x, x ∈ l ↔ x ∈ keys) : compactK l = setR O keys :=
  ext_mem O (compact_up O hs) (set_spec O keys).1 (fun x => by rw [compact_mem, hp, (set_spec O keys).2 x])
end Go.Proofs.Ky
