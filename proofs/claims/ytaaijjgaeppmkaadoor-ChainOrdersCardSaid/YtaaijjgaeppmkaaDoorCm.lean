/- The document's chain: Ends. -/
import Derived.Test.YtaaijjgaeppmkaaDoorCl
set_option linter.unusedVariables false
set_option maxRecDepth 100000
namespace Go.Proofs.YtaaijjgaeppmkaaDoor
open Go.Proofs.BL Go.Proofs.Peel Go.RowKit Go.Proofs.Cn

def endV (cm : Bool) (vs : Vs) (t : Int) : Vs × Bool := if cm then cmV vs t else abV vs t
def REndPost (p : Nat) (l : List Part) (r : Vs × Bool) (e : Ending) (w' : World) : Prop := e = .returned (.bool r.2) ∧ Sat (rcP p r.1 :: l) w'
theorem opn_at {vs : Vs} {t : Int} {k : Nat} (hk : k < vs.length) (h : ∀ j (hj : j < vs.length), j < k → isO t vs[j] = false) (ht : isO t vs[k] = true) : opn vs t = some k :=
  List.findIdx?_eq_some_iff_getElem.2 ⟨hk, ht, fun j hj => by simpa using h j (by omega) hj⟩
theorem opn_no {vs : Vs} {t : Int} (h : ∀ j (hj : j < vs.length), isO t vs[j] = false) : opn vs t = none :=
  List.findIdx?_eq_none_iff.2 (fun x hx => by obtain ⟨j, hj, rfl⟩ := List.mem_iff_getElem.1 hx; exact h j hj)
theorem end_no {vs : Vs} {t : Int} (cm : Bool) (h : opn vs t = none) : endV cm vs t = (vs, false) := by
  cases cm <;> simp [endV, cmV, abV, h]
theorem end_cm {vs : Vs} {t : Int} {k : Nat} (hk : k < vs.length) (h : opn vs t = some k) : endV true vs t = (vs.set k (shut vs[k]), true) := by
  simp only [endV, cmV, h, if_true]
  rw [modify_set _ hk]
theorem end_ab {vs : Vs} {t : Int} {k : Nat} (h : opn vs t = some k) : endV false vs t = (vs.eraseIdx k, true) := by
  simp [endV, abV, h]

set_option maxHeartbeats 4000000 in
theorem rEnds (p : Nat) (vs : Vs) (t : Int) (cm : Bool) (l : List Part) (w : World) (h : Sat (rcP p vs :: l) w) (hl : vs.length ≤ 1000000) :
    Calls Tryd.prog 32 #[.pointer (some ⟨p, 0, none⟩), .int .i64 t, .bool cm] w (REndPost p l (endV cm vs t)) := by
  obtain ⟨v, hF, h2⟩ := h.rcF
  obtain ⟨A, c, rfl, hc, hA, hr, c0⟩ := hF.form
  have H := Lib.hid h
  have HR := Lib.hid hr
  clear h hF h2 hr hA
  refine via fun Q hQ => ?_
  go_enter Tryd.func32, Tryd.ntmps32
  go_wp2_with fail
  go_loopg [14] vs.length (fun g x14 wr => ∃ j : Nat, j ≤ vs.length ∧ g = vs.length - j ∧ x14 = .int .i64 j ∧ (∀ i (hi : i < vs.length), i < j → isO t vs[i] = false) ∧ Below w.heap.size w wr)
  case atStart => exact ⟨0, Nat.zero_le _, rfl, rfl, fun i _ h => absurd h (Nat.not_lt_zero _), Below.refl _ _⟩
  case round =>
    obtain ⟨j, hj, rfl, rfl, hno, hb⟩ := hrel
    have HB := Lib.hid hb
    have HN := Lib.hid hno
    clear hb hno
    by_cases hlt : j < vs.length
    · obtain ⟨bb, o, rfl, d1, d2, d3, d4, d5⟩ := rows_ver (HR.out.below HB.out) hlt
      have hst := end_cm (t := t) hlt
      have hnx : isO t vs[j] = false → ∀ i (hi : i < vs.length), i < j + 1 → isO t vs[i] = false := fun hf i hi hij => by
        rcases Nat.lt_or_ge i j with h1 | h1
        · exact HN.out i hi h1
        · obtain rfl : i = j := by omega
          exact hf
      have hop := opn_at (t := t) hlt HN.out
      generalize vs[j] = x at d1 d2 d3 d4 d5 hst hnx hop
      obtain ⟨xa, xn, xt, xr, xo⟩ := x
      have HNX := Lib.hid hnx
      clear hnx
      cases xo with
      | false =>
        clear hst hop
        by_cases ha : xa = t
        · subst ha
          go_wp2_with fail
          go_roundg (vs.length - (j + 1))
          case measure => omega
          case rel => exact ⟨j + 1, hlt, rfl, by go_num, HNX.out rfl, HB.out.alloc HB.out.size _⟩
        · have hae : (xa == t) = false := by simpa using ha
          clear ha
          go_wp2_with fail
          go_roundg (vs.length - (j + 1))
          case measure => omega
          case rel => exact ⟨j + 1, hlt, rfl, by go_num, HNX.out rfl, HB.out.alloc HB.out.size _⟩
      | true =>
        by_cases ha : xa = t
        · subst ha
          have ho := hop (by simp [isO])
          have hw1 : IntKind.i64.wrap ((j : Int) + 1) = (j : Int) + 1 := by rw [IntKind.wrap_i64]; omega
          have hSa := ((H.out.below HB.out).alloc #[.int .i64 xa, .int .i64 xn, .bool xt, .int .i64 xr, .bool false] 68).s1
          cases cm with
          | true =>
            have HE := Lib.hid (hst ho)
            have hput := rput1 p j (j + 1) ⟨xa, xn, xt, xr, false⟩ vs _ _ hSa hl (by omega) (by omega)
            rw [alloc_sz, set_mid hlt, show ((j + 1 : Nat) : Int) = (j : Int) + 1 from rfl] at hput
            have HP := Lib.hid hput
            clear hput hSa hst hop ho HNX HN
            go_wp2_with fail
            refine HP.out.mono ?_
            rintro e w2 ⟨rfl, hS2⟩
            have HS2 := Lib.hid hS2.s1.drop
            clear hS2 HP d1 d2 d3 d4 d5 c0
            go_wp2_with fail
            exact (by rw [HE.out]; exact ⟨rfl, HS2.out⟩)
          | false =>
            have HE := Lib.hid (end_ab ho)
            have hput := rput p j (j + 1) none 0 [] vs _ _ hSa hl (by simp) (by omega) (by omega) (fun _ => rfl) (fun i r h => by simp [rwV] at h)
            rw [erase_mid, show ((j + 1 : Nat) : Int) = (j : Int) + 1 from rfl] at hput
            have HP := Lib.hid hput
            clear hput hSa hst hop ho HNX HN
            go_wp2_with fail
            refine HP.out.mono ?_
            rintro e w2 ⟨rfl, hS2⟩
            have HS2 := Lib.hid hS2.s1.drop
            clear hS2 HP d1 d2 d3 d4 d5 c0
            go_wp2_with fail
            exact (by rw [HE.out]; exact ⟨rfl, HS2.out⟩)
        · have hae : (xa == t) = false := by simpa using ha
          clear hst hop ha
          go_wp2_with fail
          go_roundg (vs.length - (j + 1))
          case measure => omega
          case rel => exact ⟨j + 1, hlt, rfl, by go_num, HNX.out (by simp [isO, hae]), HB.out.alloc HB.out.size _⟩
    · obtain rfl : j = vs.length := by omega
      have hno := end_no cm (opn_no (fun i hi => HN.out i hi hi))
      have HE := Lib.hid hno
      have HS := Lib.hid (H.out.below HB.out)
      clear hno HN
      go_wp2_with fail
      exact (by rw [HE.out]; exact ⟨rfl, HS.out⟩)
end Go.Proofs.YtaaijjgaeppmkaaDoor
