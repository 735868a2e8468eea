/- The order of texts, byte by byte, is a strict total order (the model's: Op.bytesLess x y = decide (x < y), the kit's bytesLess_eq of Derived.Sort.Walk0). Plain. -/
import Derived.Test.YtkfciofpbnlmeaaDoorKa
namespace Go.Proofs.Ky
theorem u8_tot (a b : UInt8) (h1 : ¬ a < b) (h2 : ¬ b < a) : a = b := by
  apply UInt8.toNat_inj.1
  rw [UInt8.lt_iff_toNat_lt] at h1 h2
  omega
theorem u8_irr (a : UInt8) : ¬ a < a := by rw [UInt8.lt_iff_toNat_lt]; omega
theorem u8_tr (a b c : UInt8) (h1 : a < b) (h2 : b < c) : a < c := by
  rw [UInt8.lt_iff_toNat_lt] at *
  omega
theorem bl_irr : ∀ a : List UInt8, ¬ a < a
  | [] => by simp
  | x :: a => by
    rw [List.cons_lt_cons_iff]
    rintro (h | ⟨_, h⟩)
    · exact u8_irr x h
    · exact bl_irr a h
theorem bl_tr : ∀ a b c : List UInt8, a < b → b < c → a < c
  | _, [], _, h, _ => by simp at h
  | _, _ :: _, [], _, h => by simp at h
  | [], _ :: _, _ :: _, _, _ => by simp
  | x :: a, y :: b, z :: c, h1, h2 => by
    rw [List.cons_lt_cons_iff] at *
    rcases h1 with h1 | ⟨rfl, h1⟩
    · rcases h2 with h2 | ⟨rfl, h2⟩
      · exact .inl (u8_tr x y z h1 h2)
      · exact .inl h1
    · rcases h2 with h2 | ⟨rfl, h2⟩
      · exact .inl h2
      · exact .inr ⟨rfl, bl_tr a b c h1 h2⟩
theorem bl_tot : ∀ a b : List UInt8, ¬ a < b → ¬ b < a → a = b
  | [], [], _, _ => rfl
  | [], y :: b, h, _ => absurd (by simp) h
  | x :: a, [], _, h => absurd (by simp) h
  | x :: a, y :: b, h1, h2 => by
    rw [List.cons_lt_cons_iff] at h1 h2
    have e := u8_tot x y (fun h => h1 (.inl h)) (fun h => h2 (.inl h))
    subst e
    rw [bl_tot a b (fun h => h1 (.inr ⟨rfl, h⟩)) (fun h => h2 (.inr ⟨rfl, h⟩))]
/-- Texts by their bytes. -/
def txt : Ord (List UInt8) where
  lt a b := decide (a < b)
  irr a := decide_eq_false (bl_irr a)
  tr a b c h1 h2 := decide_eq_true (bl_tr a b c (of_decide_eq_true h1) (of_decide_eq_true h2))
  tot a b h1 h2 := bl_tot a b (of_decide_eq_false h1) (of_decide_eq_false h2)
end Go.Proofs.Ky
