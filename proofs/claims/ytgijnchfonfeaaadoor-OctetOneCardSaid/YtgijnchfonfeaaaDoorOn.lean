/- Chapter 2's plain law: what was put into bytes is read as it was, and only that. -/
import Derived.Test.YtgijnchfonfeaaaDoorOa
set_option linter.unusedVariables false
namespace Go.Proofs.BL

theorem val_dig : ∀ n : Nat, val (dig n) = n := by
  intro n
  induction n using Nat.strongRecOn with
  | ind n ih =>
    by_cases h : n = 0
    · subst h; rw [dig_zero]; rfl
    · rw [dig_pos h, val_snoc, ih (n / 256) (Nat.div_lt_self (Nat.pos_of_ne_zero h) (by decide))]
      simp
      omega
theorem dig_ne {n : Nat} (h : n ≠ 0) : dig n ≠ [] := by rw [dig_pos h]; simp
theorem dig_head : ∀ n : Nat, (dig n).head? ≠ some 0 := by
  intro n
  induction n using Nat.strongRecOn with
  | ind n ih =>
    by_cases h : n = 0
    · subst h; rw [dig_zero]; simp
    · rw [dig_pos h]
      by_cases h2 : n / 256 = 0
      · rw [h2, dig_zero]
        intro e
        have e1 : UInt8.ofNat n = 0 := by simpa using e
        have e2 := congrArg UInt8.toNat e1
        simp at e2
        omega
      · have := ih (n / 256) (Nat.div_lt_self (Nat.pos_of_ne_zero h) (by decide))
        obtain ⟨x, r, e⟩ := List.exists_cons_of_ne_nil (dig_ne h2)
        rw [e] at this ⊢
        simpa using this
theorem dig_val : ∀ l : List UInt8, l.head? ≠ some 0 → dig (val l) = l := by
  intro l
  rw [← List.reverse_reverse l]
  generalize l.reverse = k
  induction k with
  | nil => intro _; exact dig_zero
  | cons x k ih =>
    intro h
    rw [List.reverse_cons] at h ⊢
    have hx := x.toNat_lt
    cases hk : k.reverse with
    | nil =>
      rw [hk] at h
      have hx0 : x.toNat ≠ 0 := fun e => h (by rw [show x = 0 from UInt8.toNat_inj.1 (by simpa using e)]; rfl)
      have hv : val ([] ++ [x]) = x.toNat := by rw [val_snoc]; simp [val]
      rw [hv, dig_pos hx0, show x.toNat / 256 = 0 from by omega, dig_zero]
      simp
    | cons y r =>
      rw [hk] at h ih
      have ih' := ih (by simpa using h)
      have hne : val (y :: r) ≠ 0 := fun e => by rw [e, dig_zero] at ih'; cases ih'
      rw [val_snoc, dig_pos (by omega), show (val (y :: r) * 256 + x.toNat) / 256 = val (y :: r) from by omega, ih']
      congr 2
      apply UInt8.toNat_inj.1
      simp
theorem natB_pos (n : Nat) : (natB n).length = (dig n).length + 1 := by simp [natB]
theorem pnat_natB {n : Nat} (h : n < 2 ^ 64) (rest : List UInt8) : pnat (natB n ++ rest) = some (n, (natB n).length) := by
  have h8 := dig_len 8 n h
  have hk : (UInt8.ofNat (dig n).length).toNat = (dig n).length := by simp; omega
  rw [natB, List.cons_append, pnat, hk, if_neg (by omega), if_neg (by simp), List.take_left, if_neg (dig_head n), val_dig]
  simp
theorem pnat_inv {l : List UInt8} {n k : Nat} (h : pnat l = some (n, k)) : l.take k = natB n ∧ k = (natB n).length := by
  cases l with
  | nil => cases h
  | cons x r =>
    simp only [pnat] at h
    split at h
    · cases h
    · split at h
      · cases h
      · split at h
        · cases h
        · rename_i h1 h2 h3
          injection h with h
          injection h with h4 h5
          subst h4 h5
          have hd := dig_val _ h3
          have hl : (r.take x.toNat).length = x.toNat := by rw [List.length_take]; omega
          rw [natB, hd, hl]
          refine ⟨by simp, by simp; omega⟩
theorem pnat_cut {n : Nat} (h : n < 2 ^ 64) (rest : List UInt8) {k : Nat} (hk : k < (natB n).length) : pnat ((natB n ++ rest).take k) = none := by
  have h8 := dig_len 8 n h
  have hkk : (UInt8.ofNat (dig n).length).toNat = (dig n).length := by simp; omega
  rw [natB_pos] at hk
  rw [List.take_append_of_le_length (by rw [natB_pos]; omega)]
  cases k with
  | zero => rfl
  | succ k =>
    rw [natB, List.take_succ_cons, pnat, hkk, if_neg (by omega), if_pos (by rw [List.length_take]; omega)]
end Go.Proofs.BL
