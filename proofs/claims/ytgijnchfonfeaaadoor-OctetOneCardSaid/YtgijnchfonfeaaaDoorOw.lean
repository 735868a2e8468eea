/- OctetOne: readers over one row of bytes, each asked for its end. -/
import Derived.Test.YtgijnchfonfeaaaDoorOp
import Derived.Test.YtgijnchfonfeaaaDoorOu
namespace Go.Proofs.YtgijnchfonfeaaaDoor
open Go.Proofs.BL Go.Proofs.Peel Go.RowKit
set_option maxRecDepth 100000
set_option linter.unusedVariables false

theorem oofK (A : Option Addr) (cp : Nat) (bs : List UInt8) (k : Nat) (hk : bs.length = k) (w : World) (hcp : k ≤ cp) (hr : RowsAt w 1 A (bys bs)) :
    Calls Tryd.prog 4 #[.slice A k cp] w (fun e w' => e = .returned (.pointer (some ⟨w.heap.size, 0, none⟩)) ∧ Rd w' w.heap.size bs 0 [] ∧ Below w.heap.size w w') := by
  subst hk
  exact oof A cp bs w hcp hr
abbrev txR (ls : List ByteArray) : List (List Value) := ls.map fun s => [.string s]
/-- Readers that are apart; the bytes; a list of texts. -/
def GR (w0 : World) (bs : List UInt8) (A : Option Addr) (v : Value) (ls : List ByteArray) (l : List (Nat × Nat × List Lk)) (W : World) : Prop :=
  Below w0.heap.size w0 W ∧ RowsAt W 1 A (bys bs) ∧ Own W 0 9 1 v (txR ls) ∧ (∀ x ∈ l, Rd W x.1 bs x.2.1 x.2.2 ∧ w0.heap.size ≤ x.1) ∧ l.Pairwise (fun x y => y.1 ≠ x.1)
theorem GR.below {w0 W W' : World} {bs : List UInt8} {A : Option Addr} {v : Value} {ls : List ByteArray} {l : List (Nat × Nat × List Lk)} (h : GR w0 bs A v ls l W) (hb : Below W.heap.size W W') : GR w0 bs A v ls l W' :=
  ⟨below_then h.1 hb, h.2.1.below hb, h.2.2.1.below hb, fun x hx => ⟨(h.2.2.2.1 x hx).1.below hb, (h.2.2.2.1 x hx).2⟩, h.2.2.2.2⟩
theorem GR.step {w0 W W' : World} {bs : List UInt8} {A : Option Addr} {v : Value} {ls : List ByteArray} {l : List (Nat × Nat × List Lk)} {p a : Nat} {c : List Lk} (h : GR w0 bs A v ls ((p, a, c) :: l) W) (hf : Fr (only p) W W') : GR w0 bs A v ls l W' := by
  obtain ⟨h1, h2, h3, h4, h5⟩ := h
  rw [List.pairwise_cons] at h5
  have hp := h4 (p, a, c) (by simp)
  obtain ⟨_, _, _, hB, _⟩ := id hp.1
  refine ⟨below_step h1 hp.2 hf, rows_rd hp.1 h2 hf, h3.fr hf (h3.type_ne hB (by decide)), fun x hx => ⟨Rd.other (h4 x (by simp [hx])).1 hp.1 (h5.1 x hx) hf, (h4 x (by simp [hx])).2⟩, h5.2⟩
theorem GR.end_ {w0 W : World} {bs : List UInt8} {A : Option Addr} {v : Value} {ls : List ByteArray} {l : List (Nat × Nat × List Lk)} {p a : Nat} {c : List Lk} (hE : ErrT w0) (hl : bs.length ≤ 1099511627776) (h : GR w0 bs A v ls ((p, a, c) :: l) W) :
    Calls Tryd.prog 9 #[.pointer (some ⟨p, 0, none⟩)] W (fun e W' => e = .returned (.int .i64 (codeOf (rdEnd bs a c))) ∧ GR w0 bs A v ls l W') :=
  (mEnd W (hE.below h.1) hl (h.2.2.2.1 (p, a, c) (by simp)).1).mono fun e W' ⟨he, _, hf⟩ => ⟨he, h.step hf⟩
def GAns (w0 : World) (bs : List UInt8) (A : Option Addr) (v : Value) (ls : List ByteArray) (l : List (Nat × Nat × List Lk)) (s : ByteArray) (e : Ending) (W' : World) : Prop :=
  ∃ A' k' c', e = .returned (.slice A' k' c') ∧ (∀ W, Below W'.heap.size W' W → (convert 22 9 (.slice A' k' c')).run Tryd.prog W = .ok (.string s) W) ∧ GR w0 bs A v ls l W'
theorem GR.ans {w0 W : World} {bs : List UInt8} {A : Option Addr} {v : Value} {ls : List ByteArray} {l : List (Nat × Nat × List Lk)} (h : GR w0 bs A v ls l W) {bl : List UInt8} (hbl : bl = bs) {e : Ending} {W' : World} (ha : ByAns W bl e W') : GAns w0 bs A v ls l ⟨bs.toArray⟩ e W' := by
  subst hbl
  obtain ⟨v', rfl, ho, hb⟩ := ha
  obtain ⟨A', c', rfl, _, _, hr⟩ := ho.slv'
  exact ⟨A', _, c', rfl, fun W hW => run_str (P := Tryd.prog) W 22 9 5 Tryd.underlying22 Tryd.underlying5 Tryd.underlying9 A' _ c' bl (by simp) (hr.below hW), h.below hb⟩
theorem GR.conv {w0 W : World} {bs : List UInt8} {A : Option Addr} {v : Value} {ls : List ByteArray} {l : List (Nat × Nat × List Lk)} (h : GR w0 bs A v ls l W) (k cp : Nat) (hk : bs.length = k) :
    (convert 22 9 (.slice A k cp)).run Tryd.prog W = .ok (.string ⟨bs.toArray⟩) W :=
  run_str (P := Tryd.prog) W 22 9 5 Tryd.underlying22 Tryd.underlying5 Tryd.underlying9 A k cp bs hk.symm h.2.1

theorem natB_pos (n : Nat) : 0 < (natB n).length := by simp [natB]
theorem strB_len (s : ByteArray) : s.size + 1 ≤ (strB s).length := by
  have := natB_pos s.size
  rw [strB, List.length_append, txt_len]; omega
theorem flat_len : ∀ ls : List ByteArray, ls.length ≤ (ls.map strB).flatten.length ∧ ∀ s ∈ ls, s.size ≤ (ls.map strB).flatten.length
  | [] => ⟨Nat.le_refl _, fun s h => by cases h⟩
  | x :: ls => by
    have h1 := flat_len ls
    have h2 := strB_len x
    simp only [List.map_cons, List.flatten_cons, List.length_append, List.length_cons]
    refine ⟨by omega, fun s hs => ?_⟩
    rcases List.mem_cons.1 hs with rfl | hs
    · omega
    · have := h1.2 s hs; omega
theorem strsB_len (ls : List ByteArray) : ls.length ≤ (strsB ls).length ∧ ∀ s ∈ ls, s.size ≤ (strsB ls).length := by
  have h := flat_len ls
  rw [strsB, List.length_append]
  exact ⟨by omega, fun s hs => by have := h.2 s hs; omega⟩
theorem zag_range {n : Nat} (h : n < 2 ^ 64) : -9223372036854775808 ≤ zag n ∧ zag n ≤ 9223372036854775807 := by
  unfold zag
  split <;> omega

/-- The four answers' texts are the bytes. -/
theorem GR.nat {w0 W : World} {bs : List UInt8} {A : Option Addr} {v : Value} {ls : List ByteArray} {l : List (Nat × Nat × List Lk)} (h : GR w0 bs A v ls l W) {n a : Nat} {c : List Lk} (hq : rdNat bs 0 [] = (n, a, c)) (he : rdEnd bs a c = []) :
    Calls Tryd.prog 10 #[.int .u64 n] W (GAns w0 bs A v ls l ⟨bs.toArray⟩) := by
  obtain ⟨rfl, _⟩ := rdEnd_nil he
  exact (onat n W (rdNat_inv hq).2).mono fun e W' ha => h.ans (one_nat hq he) ha
theorem GR.num {w0 W : World} {bs : List UInt8} {A : Option Addr} {v : Value} {ls : List ByteArray} {l : List (Nat × Nat × List Lk)} (h : GR w0 bs A v ls l W) {m : Int} {a : Nat} {c : List Lk} (hq : rdNum bs 0 [] = (m, a, c)) (he : rdEnd bs a c = []) :
    Calls Tryd.prog 11 #[.int .i64 m] W (GAns w0 bs A v ls l ⟨bs.toArray⟩) := by
  obtain ⟨rfl, _⟩ := rdEnd_nil he
  have hr : -9223372036854775808 ≤ m ∧ m ≤ 9223372036854775807 := by
    unfold rdNum at hq
    injection hq with h1 h2
    rw [← h1]
    cases hn : rdNat bs 0 [] with
    | mk n st =>
      rw [hn] at h2
      simp only at h2
      subst h2
      exact zag_range (rdNat_inv hn).2
  exact (onum m W hr.1 hr.2).mono fun e W' ha => h.ans (one_num hq he) ha
theorem GR.str {w0 W : World} {bs : List UInt8} {A : Option Addr} {v : Value} {ls : List ByteArray} {l : List (Nat × Nat × List Lk)} (h : GR w0 bs A v ls l W) (hl : bs.length ≤ 1000) {s : ByteArray} {a : Nat} {c : List Lk} {most : Int} (hq : rdStr bs 0 [] most = (s, a, c)) (he : rdEnd bs a c = []) :
    Calls Tryd.prog 12 #[.string s] W (GAns w0 bs A v ls l ⟨bs.toArray⟩) := by
  have h1 := one_str hq he
  have h2 := strB_len s
  rw [h1] at h2
  exact (ostr s W (by omega)).mono fun e W' ha => h.ans h1 ha
theorem GR.strs {w0 W : World} {bs : List UInt8} {A : Option Addr} {v : Value} {ls : List ByteArray} {l : List (Nat × Nat × List Lk)} (h : GR w0 bs A v ls l W) (hl : bs.length ≤ 1000) {a : Nat} {c : List Lk} {many most : Int} (hq : rdStrs bs 0 [] many most = (ls, a, c)) (he : rdEnd bs a c = []) :
    Calls Tryd.prog 13 #[v] W (GAns w0 bs A v ls l ⟨bs.toArray⟩) := by
  have h1 := one_strs hq he
  have h2 := strsB_len ls
  rw [h1] at h2
  obtain ⟨A1, c1, rfl, hc1, _, hr⟩ := h.2.2.1.slv'
  have e : (txR ls).length = ls.length := by simp
  rw [e] at hc1 h ⊢
  refine (ostrs A1 c1 ls W hc1 hr (by rw [h1]; omega) (by omega) (fun s hs => by have := h2.2 s hs; omega)).mono fun e W' ha => h.ans h1 ha
end Go.Proofs.YtgijnchfonfeaaaDoor
