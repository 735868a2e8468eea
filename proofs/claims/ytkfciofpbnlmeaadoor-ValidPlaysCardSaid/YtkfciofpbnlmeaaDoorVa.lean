/- Chapter 16, plain: a history of commits. -/
import Derived.Test.YtkfciofpbnlmeaaDoorKt
import Derived.Test.YtkfciofpbnlmeaaDoorKs
namespace Go.Proofs.Vl
set_option linter.unusedVariables false
open Go.Proofs.Ky
variable {K : Type} [DecidableEq K]

def hitB (reads s : List K) : Bool := reads.any (fun k => s.contains k)
/-- The least commit above 'since' that wrote one of them; 0: there is none. -/
def firstV (all : List (List K)) (since : Nat) (reads : List K) : Nat := match (all.drop since).findIdx? (hitB reads) with
  | some i => since + i + 1
  | none => 0
def checkV (f : Nat) (all : List (List K)) (since : Int) (reads : List K) : Int :=
  if since < 0 ∨ since > all.length then 2 else if since < f then 22 else if firstV all since.toNat reads > 0 then 23 else 0
def fgtV (f len : Nat) (below : Int) : Nat := (min (below - 1) len - f).toNat
theorem fgt_le {f len : Nat} {below : Int} (h : f ≤ len) : f + fgtV f len below ≤ len := by
  unfold fgtV; omega
/-- No reads: nothing is stale. -/
theorem first_nil (all : List (List K)) (since : Nat) : firstV all since [] = 0 := by
  unfold firstV
  have : (all.drop since).findIdx? (hitB ([] : List K)) = none := List.findIdx?_eq_none_iff.2 (fun x _ => rfl)
  rw [this]
theorem first_pos {all : List (List K)} {since : Nat} {reads : List K} : firstV all since reads > 0 ↔ ∃ s ∈ all.drop since, hitB reads s = true := by
  unfold firstV
  cases h : (all.drop since).findIdx? (hitB reads) with
  | none =>
    simp only [Nat.lt_irrefl, false_iff]
    rintro ⟨s, hs, ht⟩
    have := List.findIdx?_eq_none_iff.1 h s hs
    rw [this] at ht
    cases ht
  | some i =>
    simp only [Nat.zero_lt_succ, true_iff]
    obtain ⟨hi, ht, _⟩ := List.findIdx?_eq_some_iff_getElem.1 h
    exact ⟨_, List.getElem_mem hi, ht⟩
/-- What was OK stays so just if nothing between wrote it. -/
theorem later {all more : List (List K)} {since : Nat} (hs : since ≤ all.length) {reads : List K} :
    checkV 0 (all ++ more) since reads = 0 ↔ (checkV 0 all since reads = 0 ∧ checkV 0 (all ++ more) all.length reads = 0) := by
  have h1 : ∀ (l : List (List K)) (n : Nat), n ≤ l.length → (checkV 0 l n reads = 0 ↔ ¬ (firstV l n reads > 0)) := by
    intro l n hn
    unfold checkV
    rw [if_neg (by omega), if_neg (by omega)]
    simp only [Int.toNat_natCast]
    by_cases h : firstV l n reads > 0
    · rw [if_pos h]; simp [h]
    · rw [if_neg h]; simp only [h, not_false_eq_true]
  rw [h1 _ _ (by rw [List.length_append]; omega), h1 _ _ hs, h1 _ _ (by rw [List.length_append]; omega), first_pos, first_pos, first_pos, List.drop_left, List.drop_append_of_le_length hs]
  constructor
  · intro h
    exact ⟨fun ⟨s, hm, ht⟩ => h ⟨s, List.mem_append_left _ hm, ht⟩, fun ⟨s, hm, ht⟩ => h ⟨s, List.mem_append_right _ hm, ht⟩⟩
  · rintro ⟨h2, h3⟩ ⟨s, hm, ht⟩
    rcases List.mem_append.1 hm with hm | hm
    · exact h2 ⟨s, hm, ht⟩
    · exact h3 ⟨s, hm, ht⟩
end Go.Proofs.Vl
