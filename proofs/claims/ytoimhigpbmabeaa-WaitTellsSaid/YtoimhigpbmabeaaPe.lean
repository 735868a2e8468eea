/- The reference's words: Into, has, All, Reach, Circles. -/
import Derived.Test.YtoimhigpbmabeaaPb
set_option linter.unusedVariables false
namespace Go.Proofs.Ytoimhigpbmabeaa.Pl
open Go.RowKit Go.Proofs.Wm Go.Proofs.YtoimhigpbmabeaaW.PrintWords Go.Proofs.YtoimhigpbmabeaaW.PrintLast Go.Proofs.YtoimhigpbmabeaaW.PrintMore Go.Proofs.Ytoimhigpbmabeaa Go.Proofs.Ytoimhigpbmabeaa.G

def intoL (x : Int) : Bool → List Int → List Int
  | true, [] => []
  | true, y :: r => if y = x then intoL x true r else y :: intoL x true r
  | false, [] => [x]
  | false, y :: r => if y ≥ x then x :: (if y = x then intoL x true r else y :: intoL x true r) else (if y = x then intoL x false r else y :: intoL x false r)
theorem intoL_true {x : Int} : ∀ {l : List Int}, (∀ y ∈ l, y ≠ x) → intoL x true l = l
  | [], _ => rfl
  | y :: r, h => by
    unfold intoL
    rw [if_neg (h y (by simp)), intoL_true (fun z hz => h z (by simp [hz]))]
theorem intoL_ins {x : Int} : ∀ {l : List Int}, l.Pairwise (· < ·) → intoL x false l = ins x l
  | [], _ => rfl
  | y :: r, h => by
    rw [List.pairwise_cons] at h
    unfold intoL ins
    by_cases h1 : x < y
    · rw [if_pos (by omega), if_neg (by omega), if_pos h1, intoL_true (fun z hz => by have := h.1 z hz; omega)]
    · by_cases h2 : x = y
      · rw [if_pos (by omega), if_pos h2.symm, if_neg h1, if_pos h2, intoL_true (fun z hz => by have := h.1 z hz; omega), h2]
      · rw [if_neg (by omega), if_neg (Ne.symm h2), if_neg h1, if_neg h2, intoL_ins h.2]
theorem intoL_len (x : Int) : ∀ (b : Bool) (l : List Int), (intoL x b l).length ≤ l.length + 1
  | true, [] => by simp [intoL]
  | true, y :: r => by unfold intoL; have := intoL_len x true r; split <;> simp <;> omega
  | false, [] => by simp [intoL]
  | false, y :: r => by
    unfold intoL
    have h0 := intoL_len x false r
    have h1 : (intoL x true r).length ≤ r.length := by
      clear h0
      induction r with
      | nil => simp [intoL]
      | cons z r ih => unfold intoL; split <;> simp <;> omega
    split
    · split <;> simp <;> omega
    · split <;> simp <;> omega
theorem into_l (o : List Int) (x : Int) (hl : o.length ≤ 1000000) : ∀ (d i k : Nat) (acc : List Int) (fl : Bool), o.length - i = d → i ≤ o.length → 2 * d + 1 ≤ k → acc.length ≤ 2 * i + 1 →
    byroadref09_Into.l0 k x acc fl o (o.length : Int) (i : Int) = some (acc ++ intoL x fl (o.drop i)) := by
  intro d
  induction d with
  | zero =>
    intro i k acc fl hd hi hk ha
    obtain ⟨k, rfl⟩ : ∃ m, k = m + 1 := ⟨k - 1, by omega⟩
    simp only [byroadref09_Into.l0]
    rw [if_neg (by omega), List.drop_eq_nil_of_le (by omega)]
    cases fl
    · rw [if_neg (by simp), if_pos (by omega)]; rfl
    · rw [if_pos rfl]; simp [intoL]
  | succ d ih =>
    intro i k acc fl hd hi hk ha
    obtain ⟨k, rfl⟩ : ∃ m, k = m + 1 + 1 := ⟨k - 2, by omega⟩
    have hlt : i < o.length := by omega
    simp only [byroadref09_Into.l0]
    rw [if_pos (by omega), if_pos (by omega), if_pos (by omega), rd_at hlt, List.drop_eq_getElem_cons hlt]
    generalize o[i] = y
    cases fl
    · rw [if_neg (by simp)]
      simp only [byroadref09_Into.j1]
      unfold intoL
      by_cases h1 : y ≥ x
      · rw [if_pos (by simpa using h1), if_pos (by omega), if_pos h1]
        simp only [Option.bind_some]
        by_cases h2 : y = x
        · rw [if_pos h2, if_pos h2, w64n (by omega), ih (i + 1) k _ true (by omega) (by omega) (by omega) (by simp; omega)]
          simp
        · rw [if_neg h2, if_neg h2, if_pos (by simp; omega), w64n (by omega)]
          rw [ih (i + 1) k _ true (by omega) (by omega) (by omega) (by simp; omega)]
          simp
      · rw [if_neg (by simpa using h1), if_neg h1]
        by_cases h2 : y = x
        · omega
        · rw [if_neg h2, if_neg h2, if_pos (by omega), w64n (by omega), ih (i + 1) k _ false (by omega) (by omega) (by omega) (by simp; omega)]
          simp
    · rw [if_pos rfl]
      simp only [byroadref09_Into.j1]
      unfold intoL
      rw [if_neg (by simp)]
      by_cases h2 : y = x
      · rw [if_pos h2, if_pos h2, w64n (by omega), ih (i + 1) k _ true (by omega) (by omega) (by omega) (by omega)]
      · rw [if_neg h2, if_neg h2, if_pos (by omega), w64n (by omega), ih (i + 1) k _ true (by omega) (by omega) (by omega) (by simp; omega)]
        simp
theorem into_f {o : List Int} {x : Int} (hs : o.Pairwise (· < ·)) (hl : o.length ≤ 1000000) {k : Nat} (hk : 2 * o.length + 1 ≤ k) : byroadref09_Into.f k o x = some (ins x o) := by
  unfold byroadref09_Into.f
  have := into_l o x hl o.length 0 k [] false (by omega) (by omega) (by omega) (by simp)
  rw [List.drop_zero, List.nil_append, intoL_ins hs] at this
  exact this
theorem has_l (l : List Int) (a : Int) (hl : l.length ≤ 1000000) : ∀ (d i k : Nat), l.length - i = d → d < k → i ≤ l.length → byroadref10_has.l0 k a l (l.length : Int) (i : Int) = some (decide (a ∈ l.drop i)) := by
  intro d
  induction d with
  | zero =>
    intro i k hd hk hi
    obtain ⟨k, rfl⟩ : ∃ m, k = m + 1 := ⟨k - 1, by omega⟩
    simp only [byroadref10_has.l0]
    rw [if_neg (by omega), List.drop_eq_nil_of_le (by omega)]
    simp
  | succ d ih =>
    intro i k hd hk hi
    obtain ⟨k, rfl⟩ : ∃ m, k = m + 1 := ⟨k - 1, by omega⟩
    have hlt : i < l.length := by omega
    simp only [byroadref10_has.l0]
    rw [if_pos (by omega), if_pos (by omega), if_pos (by omega), rd_at hlt, List.drop_eq_getElem_cons hlt]
    by_cases e : l[i] = a
    · rw [if_pos e, e]; simp
    · rw [if_neg e, w64n (by omega), ih (i + 1) k (by omega) (by omega) (by omega)]
      simp only [List.mem_cons, Ne.symm e, false_or]
theorem has_f {l : List Int} {a : Int} (hl : l.length ≤ 1000000) {k : Nat} (hk : l.length < k) : byroadref10_has.f k l a = some (decide (a ∈ l)) := by
  unfold byroadref10_has.f
  have := has_l l a hl l.length 0 k (by omega) hk (by omega)
  simpa using this
theorem foldl_srt : ∀ (l o : List Int), o.Pairwise (· < ·) → (l.foldl (fun o x => ins x o) o).Pairwise (· < ·)
  | [], _, h => h
  | x :: l, o, h => foldl_srt l _ (srt_ins h)
theorem foldl_len : ∀ (l o : List Int), (l.foldl (fun o x => ins x o) o).length ≤ l.length + o.length
  | [], o => by simp
  | x :: l, o => by rw [List.foldl_cons]; have := foldl_len l (ins x o); have := ins_len x o; simp; omega
theorem all_l (l : List S40) (hl : l.length ≤ 1000) : ∀ (d i k : Nat) (o : List Int), l.length - i = d → i ≤ l.length → 5000 + d < k → o.length ≤ 2 * i → o.Pairwise (· < ·) →
    byroadref10_All.l0 k o l (l.length : Int) (i : Int) = some ((nodes (pe (l.drop i))).foldl (fun o x => ins x o) o) := by
  intro d
  induction d with
  | zero =>
    intro i k o hd hi hk ho hs
    obtain ⟨k, rfl⟩ : ∃ m, k = m + 1 := ⟨k - 1, by omega⟩
    simp only [byroadref10_All.l0]
    rw [if_neg (by omega), List.drop_eq_nil_of_le (by omega)]
    rfl
  | succ d ih =>
    intro i k o hd hi hk ho hs
    obtain ⟨k, rfl⟩ : ∃ m, k = m + 1 := ⟨k - 1, by omega⟩
    have hlt : i < l.length := by omega
    have h1 := ins_len l[i].f0 o
    have h2 := ins_len l[i].f1 (ins l[i].f0 o)
    simp only [byroadref10_All.l0]
    rw [if_pos (by omega), if_pos (by omega), if_pos (by omega), rd40_at hlt, into_f hs (by omega) (by omega)]
    simp only [Option.bind_some]
    rw [into_f (srt_ins hs) (by omega) (by omega)]
    simp only [Option.bind_some]
    rw [w64n (by omega), ih (i + 1) k _ (by omega) (by omega) (by omega) (by omega) (srt_ins (srt_ins hs)), List.drop_eq_getElem_cons hlt]
    rfl
theorem all_f {l : List S40} (hl : l.length ≤ 1000) {k : Nat} (hk : 6001 < k) : byroadref10_All.f k l = some (allL (pe l)) := by
  unfold byroadref10_All.f
  have := all_l l hl l.length 0 k [] (by omega) (by omega) (by omega) (by simp) List.Pairwise.nil
  rw [List.drop_zero] at this
  exact this
end Go.Proofs.Ytoimhigpbmabeaa.Pl
