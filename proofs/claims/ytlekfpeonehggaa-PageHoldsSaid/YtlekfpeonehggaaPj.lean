/- Package page: Pages; what Put and Del keep; chapter 8's example. -/
import Derived.Test.YtlekfpeonehggaaPi
set_option linter.unusedVariables false
set_option linter.unusedSimpArgs false
set_option maxRecDepth 100000
namespace Go.Proofs.Ytlekfpeonehggaa
open Go.Proofs.BL Go.Proofs.Peel Go.RowKit Go.Proofs.Ky

theorem Sat.pageEnd {v : Value} {r : List Rw} {us : List Value} {P : List (List Rw)} {l : List Part} {w : World} (h : Sat (ownW v 52 2 (rwR r) :: pagesP us P :: l) w) : Sat (pagesP (us ++ [v]) (P ++ [r]) :: l) w := by
  have hl := h.drop.pagesLen
  have h2 := h.pageIn P.length (Nat.le_refl _)
  rwa [ins_take (by omega), ins_take (Nat.le_refl _), List.take_of_length_le (by omega), List.drop_of_length_le (by omega), List.take_of_length_le (Nat.le_refl _), List.drop_of_length_le (Nat.le_refl _)] at h2
theorem own_addr {w : World} {v : Value} {E : TypeId} {sz : Nat} {rows : List (List Value)} (h : OwnW w 0 E sz v rows) : ∃ A c, v = .slice A rows.length c ∧ rows.length ≤ c ∧ (A = none → c = 0) ∧ RowsAt w sz A rows ∧ ∀ a, A = some a → a.spot = none := by
  obtain ⟨A, c, e, h1, h2, h3⟩ := h.slv'
  refine ⟨A, c, e, h1, h2, h3, ?_⟩
  rintro a rfl
  rcases h.1.2 with ⟨h4, _⟩ | ⟨g, cap, cur, h4, _⟩
  · rw [e] at h4; cases h4
  · rw [e] at h4; injection h4 with h4; injection h4 with h4; subst h4; rfl
def PagesPost (P : List (List Rw)) (ls : List Part) (e : Ending) (w' : World) : Prop := ∃ v us, e = .returned v ∧ Sat (ownR v 34 1 (lfR us) :: pagesP us P :: ls) w'
set_option maxHeartbeats 4000000 in
theorem stPages (p : Nat) (most : Int) (P : List (List Rw)) (ls : List Part) (w : World) (h : Sat (stP p most P :: ls) w) (hl : P.flatten.length ≤ 100000) (hpl : P.length ≤ 100000) :
    Calls Try.prog 17 #[.pointer (some ⟨p, 0, none⟩)] w (PagesPost P (stP p most P :: ls)) := by
  refine via fun Q hQ => ?_
  obtain ⟨L, vs, hF, h2⟩ := h.stF
  obtain ⟨A, c, rfl, hc, _, _⟩ := hF.leaves
  have c1 := hF.b.at_ 1 rfl
  simp only [List.getElem_toArray, List.getElem_cons_succ, List.getElem_cons_zero] at c1
  have HS0 := Lib.hid ((h2.put (B := pagesP [] []) (fun G => trivial)).nilR 34 1)
  have HLp := Lib.hid (fun r (hr : r ∈ P) => page_len hr)
  clear hF h h2
  generalize hN : P.length = N at *
  have HN := Lib.hid hN
  clear hN
  go_enter Try.func17, Try.ntmps17
  go_wp2_with fail
  go_loopg [3, 13] N (fun g x3 x13 wr => ∃ (j : Nat) (us : List Value), j ≤ N ∧ g = N - j ∧ x13 = .int .i64 j ∧ Hid (Sat (ownR x3 34 1 (lfR us) :: pagesP us (P.take j) :: stB p most P.flatten.length (.slice A N c) :: ownW (.slice A N c) 57 1 (lfR vs) :: pagesP vs P :: ls) wr))
  case atStart => exact ⟨0, [], Nat.zero_le _, rfl, rfl, HS0⟩
  case round =>
    obtain ⟨j, us, hj, rfl, rfl, HSr⟩ := hrel
    by_cases hlt : j < N
    · have hx : P[j]? = some (P[j]'(by rw [HN.out]; exact hlt)) := List.getElem?_eq_getElem _
      generalize P[j]'(by rw [HN.out]; exact hlt) = r at hx
      have hnx : P.take (j + 1) = P.take j ++ [r] := by
        obtain ⟨hq, e⟩ := List.getElem?_eq_some_iff.1 hx
        rw [List.take_succ_eq_append_getElem hq, e]
      have hF := HSr.out.drop.drop.stF0
      obtain ⟨b, v, rfl, _, k1, _, hO⟩ := hF.page hx
      obtain ⟨A2, c2, rfl, hc2, z2, hR, hsp⟩ := own_addr hO
      have hrl := HLp.out r (List.mem_of_getElem? hx)
      have hus := HSr.out.drop.pagesLen
      have hal : Below wr.heap.size wr (wr.alloc (.cells #[.slice A2 r.length c2] 57)) := (Below.refl _ _).alloc (Nat.le_refl _) _
      have hcl := clR_ro A2 c2 (rwR r) (wr.alloc (.cells #[.slice A2 r.length c2] 57)) hc2 z2 (hR.below hal) hsp hO.2 (rwR_one r) (by rw [rwR_len]; omega)
      rw [rwR_len] at hcl k1
      have HCl := Lib.hid hcl
      have HS1 := Lib.hid (HSr.out.below hal)
      have HNX := Lib.hid hnx
      have HLu := Lib.hid (show ((lfR us).length + 1) * 24 ≤ 140737488355328 from by rw [lfR_len, hus, List.length_take]; omega)
      clear hx hnx hF hO hR hcl hal hus HSr hsp z2 hc2
      generalize r.length = nr at *
      go_wp2_with fail
      (with_reducible refine HCl.out.mono ?_)
      rintro e w2 ⟨v2, rfl, ho2, hb2⟩
      obtain ⟨A3, c3, e3, _⟩ := ho2.slv'
      have HS2 := Lib.hid (HS1.out.made hb2 ho2).s1
      clear ho2 hb2 HS1 HCl
      subst e3
      go_wp2_with (at_builtin; (refine satApp (W := w2) 34 1 24 (.slice none 0 0) rfl (.tmp 17) (.tmp 21) 46 rfl Try.underlying46 (by kernel_rfl) rfl (by decide) (by decide) _ (lfR us) [.slice A3 (rwR r).length c3] rfl _ rfl rfl rfl (by simp [Value.oneCell']) HS2.out rfl HLu.out ?_); intro v4 w4 hS4; have HS4 := Lib.hid hS4; clear hS4)
      go_roundg (N - (j + 1))
      case measure => omega
      case rel => exact ⟨j + 1, us ++ [.slice A3 (rwR r).length c3], by omega, rfl, rfl, Lib.hid (by rw [HNX.out]; have h9 := HS4.out.s1.toW.s1.s2.s1; have h8 := (HS4.out.s1.toW.s2.s1).pageEnd; rw [show lfR (us ++ [Value.slice A3 (rwR r).length c3]) = lfR us ++ [[Value.slice A3 (rwR r).length c3]] from by simp [lfR]]; exact h8.s1)⟩
    · obtain rfl : j = N := by omega
      have hS := HSr.out
      rw [List.take_of_length_le (by rw [HN.out]; exact Nat.le_refl _)] at hS
      have HS := Lib.hid (hS.s4.s4.s4.shutSt rfl).s2.s2
      clear hS
      go_wp2_with fail
      exact ⟨_, us, rfl, HS.out⟩
end Go.Proofs.Ytlekfpeonehggaa
