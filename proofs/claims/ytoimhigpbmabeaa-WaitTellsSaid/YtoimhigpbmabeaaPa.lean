/- The plain side: small loops. -/
import Derived.Test.YtoimhigpbmabeaaG3
set_option linter.unusedVariables false
namespace Go.Proofs.Ytoimhigpbmabeaa.Pl
open Go.RowKit Go.Proofs.Wm Go.Proofs.YtoimhigpbmabeaaW.PrintWords Go.Proofs.YtoimhigpbmabeaaW.PrintLast Go.Proofs.YtoimhigpbmabeaaW.PrintMore Go.Proofs.Ytoimhigpbmabeaa Go.Proofs.Ytoimhigpbmabeaa.G

def to44 (e : S40) : S44 := ⟨e.f0, e.f1⟩
def pe (l : List S40) : Es := l.map fun e => (e.f0, e.f1)
theorem pr_to44 (l : List S40) : pr (l.map to44) = pe l := by simp [pr, pe, to44, Function.comp_def]
theorem w64 {i : Int} (h0 : -9223372036854775808 ≤ i) (h : i < 9223372036854775808) : wrap64 i = i := by unfold wrap64; omega
theorem w64n {i : Nat} (h : i < 4000000000000000000) : wrap64 ((i : Int) + 1) = ((i + 1 : Nat) : Int) := by rw [w64 (by omega) (by omega)]; omega
theorem rd_at {l : List Int} {i : Nat} (h : i < l.length) : rd l (i : Int) = l[i] := by
  unfold rd
  rw [Int.toNat_natCast, List.getD_eq_getElem?_getD, List.getElem?_eq_getElem h]; rfl
theorem rd40_at {l : List S40} {i : Nat} (h : i < l.length) : rd_T40 l (i : Int) = l[i] := by
  unfold rd_T40
  rw [Int.toNat_natCast, List.getD_eq_getElem?_getD, List.getElem?_eq_getElem h]; rfl
theorem cut_f (l : List S40) : byroadlaw10_Cut.f l = some (l.take 24) := by
  unfold byroadlaw10_Cut.f
  by_cases h : (l.length : Int) > 24
  · rw [if_pos h, if_pos (by omega)]
  · rw [if_neg h, List.take_of_length_le (by omega)]
theorem ours_l (l : List S40) (hl : l.length ≤ 1000000) : ∀ (d i : Nat) (k : Nat) (o : List S44), l.length - i = d → d < k → i ≤ l.length → o.length ≤ i → byroadlaw10_ours.l0 k o l (l.length : Int) (i : Int) = some (o ++ (l.drop i).map to44) := by
  intro d
  induction d with
  | zero =>
    intro i k o hd hk hi ho
    obtain ⟨k, rfl⟩ : ∃ m, k = m + 1 := ⟨k - 1, by omega⟩
    simp only [byroadlaw10_ours.l0]
    rw [if_neg (by omega), List.drop_eq_nil_of_le (by omega)]
    simp
  | succ d ih =>
    intro i k o hd hk hi ho
    obtain ⟨k, rfl⟩ : ∃ m, k = m + 1 := ⟨k - 1, by omega⟩
    have hlt : i < l.length := by omega
    simp only [byroadlaw10_ours.l0]
    rw [if_pos (by omega), if_pos (by omega), if_pos (by omega), rd40_at hlt]
    simp only [byroadlaw10_edge.f, Option.bind_some]
    rw [if_pos (by omega), w64n (by omega), ih (i + 1) k _ (by omega) (by omega) (by omega) (by simp; omega), List.drop_eq_getElem_cons hlt, List.map_cons, List.append_assoc]
    rfl
theorem ours_f {l : List S40} (hl : l.length ≤ 1000000) {k : Nat} (hk : l.length < k) : byroadlaw10_ours.f k l = some (l.map to44) := by
  unfold byroadlaw10_ours.f
  have := ours_l l hl l.length 0 k [] (by omega) hk (by omega) (by simp)
  simpa using this
theorem ints_l (a b : List Int) (hab : a.length = b.length) (hl : a.length ≤ 1000000) : ∀ (d i : Nat) (k : Nat), a.length - i = d → d < k → i ≤ a.length → byroadlaw10_ints.l0 k a b (a.length : Int) (i : Int) = some (decide (a.drop i = b.drop i)) := by
  intro d
  induction d with
  | zero =>
    intro i k hd hk hi
    obtain ⟨k, rfl⟩ : ∃ m, k = m + 1 := ⟨k - 1, by omega⟩
    simp only [byroadlaw10_ints.l0]
    rw [if_neg (by omega), List.drop_eq_nil_of_le (by omega), List.drop_eq_nil_of_le (by omega)]
    simp
  | succ d ih =>
    intro i k hd hk hi
    obtain ⟨k, rfl⟩ : ∃ m, k = m + 1 := ⟨k - 1, by omega⟩
    have hlt : i < a.length := by omega
    have hlb : i < b.length := by omega
    simp only [byroadlaw10_ints.l0]
    rw [if_pos (by omega), if_pos (by omega), if_pos (by omega), if_pos (by omega), rd_at hlt, rd_at hlb, List.drop_eq_getElem_cons hlt, List.drop_eq_getElem_cons hlb]
    by_cases e : a[i] = b[i]
    · rw [if_pos e, w64n (by omega), ih (i + 1) k (by omega) (by omega) (by omega)]
      simp only [List.cons.injEq, e, true_and]
    · rw [if_neg e]
      simp only [List.cons.injEq, e, false_and, decide_false]
theorem ints_f {a b : List Int} (hl : a.length ≤ 1000000) {k : Nat} (hk : a.length < k) : byroadlaw10_ints.f k a b = some (decide (a = b)) := by
  unfold byroadlaw10_ints.f
  by_cases h : (a.length : Int) = (b.length : Int)
  · rw [if_pos h]
    have := ints_l a b (by omega) hl a.length 0 k (by omega) hk (by omega)
    simpa using this
  · rw [if_neg h]
    have : ¬ a = b := fun e => h (by rw [e])
    simp [this]
theorem awake_f : byroadlaw10_awake.f = some true := by kernel_rfl
end Go.Proofs.Ytoimhigpbmabeaa.Pl
