/- Bytes that are read to their end as a number, a text or a list are just the bytes of that: the plain law. -/
import Derived.Test.YtgijnchfonfeaaaDoorOs
namespace Go.Proofs.YtgijnchfonfeaaaDoor
open Go.Proofs.BL Go.Proofs.Peel Go.RowKit
set_option linter.unusedVariables false

theorem bad6_ne (a : Nat) : bad6 a ≠ [] := by simp [bad6]
theorem rdEnd_nil {bs : List UInt8} {a : Nat} {c : List Lk} (h : rdEnd bs a c = []) : c = [] ∧ bs.length ≤ a := by
  unfold rdEnd at h
  split at h
  · exact absurd h (bad6_ne a)
  · rename_i h1
    subst h
    exact ⟨rfl, Nat.le_of_not_lt (fun h2 => h1 ⟨rfl, h2⟩)⟩
/-- What a number was read of. -/
theorem rdNat_inv {bs : List UInt8} {a n a' : Nat} (h : rdNat bs a [] = (n, a', [])) : bs.drop a = natB n ++ bs.drop a' ∧ n < 2 ^ 64 := by
  rw [rdNat, if_pos rfl] at h
  cases hp : pnat (bs.drop a) with
  | none => rw [hp] at h; injection h with _ h; injection h with _ h; exact absurd h (bad6_ne a)
  | some nk =>
    obtain ⟨n1, k⟩ := nk
    rw [hp] at h
    injection h with h1 h2
    injection h2 with h2 _
    subst h1 h2
    obtain ⟨h3, h4⟩ := pnat_inv hp
    refine ⟨?_, (pnat_len hp).2.2⟩
    rw [← h3, ← List.drop_drop, List.take_append_drop]
theorem one_nat {bs : List UInt8} {n a : Nat} {c : List Lk} (h : rdNat bs 0 [] = (n, a, c)) (he : rdEnd bs a c = []) : natB n = bs := by
  obtain ⟨rfl, hl⟩ := rdEnd_nil he
  have := (rdNat_inv h).1
  rw [List.drop_zero, List.drop_eq_nil_of_le hl, List.append_nil] at this
  exact this.symm
theorem zig_zag (n : Nat) : zig (zag n) = n := by
  unfold zag zig
  by_cases h : n % 2 = 1
  · rw [if_pos h, if_pos (by omega)]; omega
  · rw [if_neg h, if_neg (by omega)]; omega
theorem one_num {bs : List UInt8} {m : Int} {a : Nat} {c : List Lk} (h : rdNum bs 0 [] = (m, a, c)) (he : rdEnd bs a c = []) : natB (zig m) = bs := by
  unfold rdNum at h
  injection h with h1 h2
  rw [← h1, zig_zag]
  exact one_nat (by rw [← h2]) he
theorem rdStr_inv {bs : List UInt8} {a a' : Nat} {s : ByteArray} {most : Int} (h : rdStr bs a [] most = (s, a', [])) : bs.drop a = strB s ++ bs.drop a' := by
  rw [rdStr, if_pos rfl] at h
  cases hp : pstr bs a most with
  | mk o e =>
    rw [hp] at h
    cases o with
    | none => simp at h
    | some sa =>
      obtain ⟨s1, a1⟩ := sa
      simp only [Prod.mk.injEq, and_true] at h
      obtain ⟨rfl, rfl⟩ := h
      rw [pstr] at hp
      cases hq : pnat (bs.drop a) with
      | none => rw [hq] at hp; simp at hp
      | some nk =>
        obtain ⟨n, k⟩ := nk
        rw [hq] at hp
        simp only at hp
        split at hp
        · simp at hp
        · split at hp
          · simp at hp
          · rename_i h1 h2
            simp only [Prod.mk.injEq, Option.some.injEq] at hp
            obtain ⟨⟨rfl, rfl⟩, _⟩ := hp
            obtain ⟨h3, h4⟩ := pnat_inv hq
            have hlen : ((bs.drop (a + k)).take n).length = n := by rw [List.length_take, List.length_drop]; omega
            have hs : (⟨((bs.drop (a + k)).take n).toArray⟩ : ByteArray).size = n := hlen
            have ht : txt (⟨((bs.drop (a + k)).take n).toArray⟩ : ByteArray) = (bs.drop (a + k)).take n := rfl
            rw [strB, hs, ht, ← h3, List.append_assoc, show a + k + n = (a + k) + n from rfl, ← List.drop_drop (i := n) (j := a + k), List.take_append_drop, ← List.drop_drop, List.take_append_drop]
theorem one_str {bs : List UInt8} {s : ByteArray} {a : Nat} {c : List Lk} {most : Int} (h : rdStr bs 0 [] most = (s, a, c)) (he : rdEnd bs a c = []) : strB s = bs := by
  obtain ⟨rfl, hl⟩ := rdEnd_nil he
  have := rdStr_inv h
  rw [List.drop_zero, List.drop_eq_nil_of_le hl, List.append_nil] at this
  exact this.symm
theorem rdMany_inv {bs : List UInt8} {most : Int} : ∀ (n a a' : Nat) (acc l : List ByteArray), rdMany bs most n a [] acc = (l, a', []) → ∃ l', l = acc ++ l' ∧ l'.length = n ∧ bs.drop a = (l'.map strB).flatten ++ bs.drop a'
  | 0, a, a', acc, l, h => by
    rw [rdMany] at h
    injection h with h1 h2
    injection h2 with h2 _
    subst h1 h2
    exact ⟨[], by simp, rfl, by simp⟩
  | n + 1, a, a', acc, l, h => by
    rw [rdMany, if_pos rfl] at h
    cases hs : rdStr bs a [] most with
    | mk s st =>
      obtain ⟨a1, c1⟩ := st
      rw [hs] at h
      simp only at h
      by_cases hc : c1 = []
      · subst hc
        obtain ⟨l', h1, h2, h3⟩ := rdMany_inv n a1 a' _ _ h
        refine ⟨s :: l', by rw [h1]; simp, by simp [h2], ?_⟩
        rw [rdStr_inv hs, h3]
        simp
      · rw [rdMany_bad _ _ _ _ _ hc] at h
        injection h with _ h
        injection h with _ h
        exact absurd h hc
theorem one_strs {bs : List UInt8} {l : List ByteArray} {a : Nat} {c : List Lk} {many most : Int} (h : rdStrs bs 0 [] many most = (l, a, c)) (he : rdEnd bs a c = []) : strsB l = bs := by
  obtain ⟨rfl, hl⟩ := rdEnd_nil he
  rw [rdStrs, if_pos rfl] at h
  split at h
  · injection h with _ h; injection h with _ h; simp [bad7] at h
  · split at h
    · rename_i h1 h2
      cases hn : rdNat bs 0 [] with
      | mk n st =>
        obtain ⟨a1, c1⟩ := st
        rw [hn] at h h2
        simp only at h h2
        have hc1 : c1 = [] := by
          apply Classical.byContradiction
          intro hc
          rw [rdMany_bad _ _ _ _ _ hc] at h2
          exact hc h2
        subst hc1
        obtain ⟨l', e1, e2, e3⟩ := rdMany_inv _ _ _ _ _ h
        rw [List.nil_append] at e1
        subst e1
        have e4 := (rdNat_inv hn).1
        rw [List.drop_zero, e3, List.drop_eq_nil_of_le hl, List.append_nil] at e4
        rw [strsB, e2, ← e4]
    · rename_i h1 h2
      injection h with _ h
      rw [Prod.ext_iff] at h
      exact absurd h.2 h2
/-- A chain that is none, or tells a number that is not 0. -/
def Tells (c : List Lk) : Prop := c = [] ∨ codeOf c ≠ 0
theorem tells_nil {c : List Lk} (h : Tells c) (h0 : codeOf c = 0) : c = [] := h.resolve_right (fun h1 => h1 h0)
theorem tells_bad6 (a : Nat) : Tells (bad6 a) := .inr (show (6 : Int) ≠ 0 by decide)
theorem tells_bad7 (a : Nat) : Tells (bad7 a) := .inr (show (7 : Int) ≠ 0 by decide)
theorem tells_end {bs : List UInt8} {a : Nat} {c : List Lk} (h : Tells c) : Tells (rdEnd bs a c) := by
  unfold rdEnd
  split
  · exact tells_bad6 a
  · exact h
theorem tells_nat (bs : List UInt8) (a : Nat) {c : List Lk} (h : Tells c) : Tells (rdNat bs a c).2.2 := by
  unfold rdNat
  split
  · split
    · exact .inl rfl
    · exact tells_bad6 a
  · exact h
theorem tells_num (bs : List UInt8) (a : Nat) {c : List Lk} (h : Tells c) : Tells (rdNum bs a c).2.2 := tells_nat bs a h
theorem pstr_num {bs : List UInt8} {a : Nat} {most : Int} {e : Int} (h : pstr bs a most = (none, e)) : e ≠ 0 := by
  unfold pstr at h
  split at h
  · injection h with _ h; omega
  · split at h
    · injection h with _ h; omega
    · split at h
      · injection h with _ h; omega
      · injection h with h _; cases h
theorem tells_str (bs : List UInt8) (a : Nat) (most : Int) {c : List Lk} (h : Tells c) : Tells (rdStr bs a c most).2.2 := by
  unfold rdStr
  split
  · split
    · exact .inl rfl
    · rename_i e hp
      exact .inr (show e ≠ 0 from pstr_num hp)
  · exact h
theorem tells_many (bs : List UInt8) (most : Int) : ∀ (n a : Nat) (c : List Lk) (acc : List ByteArray), Tells c → Tells (rdMany bs most n a c acc).2.2
  | 0, _, _, _, h => h
  | n + 1, a, c, acc, h => by
    rw [rdMany]
    split
    · exact tells_many bs most n _ _ _ (tells_str bs a most h)
    · exact h
theorem tells_strs (bs : List UInt8) (a : Nat) (many most : Int) {c : List Lk} (h : Tells c) : Tells (rdStrs bs a c many most).2.2 := by
  have h1 := tells_many bs most (rdNat bs a []).1 (rdNat bs a []).2.1 (rdNat bs a []).2.2 [] (tells_nat bs a (.inl rfl))
  unfold rdStrs
  split
  · split
    · exact tells_bad7 a
    · split
      · exact h1
      · exact h1
  · exact h
end Go.Proofs.YtgijnchfonfeaaaDoor
