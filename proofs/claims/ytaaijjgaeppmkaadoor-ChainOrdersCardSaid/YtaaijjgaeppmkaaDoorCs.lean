/- Chapter 13: does a chain have the document's versions? -/
import Derived.Test.YtaaijjgaeppmkaaDoorCq
set_option linter.unusedVariables false
set_option maxRecDepth 100000
namespace Go.Proofs.YtaaijjgaeppmkaaDoor
open Go.Proofs.BL Go.Proofs.Peel Go.RowKit Go.Proofs.Cn

set_option maxHeartbeats 4000000 in
theorem lsame (p q : Nat) (vs : Vs) (l : List Part) (w : World) (h : Sat (chP p vs :: errP :: rcP q vs :: l) w) (hl : vs.length ≤ 1000000) :
    Calls Tryd.prog 20 #[.pointer (some ⟨p, 0, none⟩), .pointer (some ⟨q, 0, none⟩)] w (StPost p q l vs) := by
  have hV := Lib.hid (cVersions p vs _ w h hl)
  clear h
  refine via fun Q hQ => ?_
  go_enter Tryd.func20, Tryd.ntmps20
  go_wp2_with fail
  refine hV.out.mono ?_
  rintro e w1 ⟨v, rfl, hS⟩
  obtain ⟨A2, c2, rfl, hc2, hA2, _⟩ := hS.own_.slv'
  rw [rwV_len] at hS hc2 ⊢
  obtain ⟨rv, hF, hS2⟩ := hS.s3.rcF
  obtain ⟨A, c, rfl, hc, hA, hr, c0⟩ := hF.form
  have HS0 := Lib.hid hS2.s2
  clear hS hS2 hF hr hV hA hA2
  go_wp2_with fail
  go_loopg [29] vs.length (fun g x29 ws => ∃ (j : Nat) (rows : Vs), j ≤ vs.length ∧ g = vs.length - j ∧ x29 = .int .i64 j ∧ Hid (rows.length = vs.length ∧ ∀ i, j ≤ i → rows[i]? = vs[i]?) ∧ Hid (Sat (ownR (.slice A2 vs.length c2) 39 5 (rwV rows) :: blk q #[.slice A vs.length c] 71 :: ownR (.slice A vs.length c) 68 5 (rwV vs) :: chP p vs :: errP :: l) ws))
  case atStart => exact ⟨0, vs, Nat.zero_le _, rfl, rfl, Lib.hid ⟨rfl, fun _ _ => rfl⟩, HS0⟩
  case round =>
    clear HS0 c0
    obtain ⟨j, rows, hj, rfl, rfl, HR, HS⟩ := hrel
    by_cases hlt : j < vs.length
    · have hrow : rows[j]? = some vs[j] := (HR.out.2 j (Nat.le_refl _)).trans (List.getElem?_eq_getElem hlt)
      have hrA : RowsAt wr 5 A (rwV vs) := by
        obtain ⟨A', c', e, _, _, hr⟩ := HS.out.s2.own_.slv'
        injection e with e _ _
        rw [e]
        exact hr
      have hne : rwV rows ≠ [] := by intro e; have := congrArg List.length e; rw [rwV_len, HR.out.1, List.length_nil] at this; omega
      obtain ⟨g, cx, e, _, _⟩ := own_some HS.out.own_ hne
      injection e with e1 e2 e3
      subst e1 e3
      clear e2 hne
      obtain ⟨bb, o, rfl, d1, d2, d3, d4, d5⟩ := rows_ver hrA hlt
      generalize vs[j] = x at d1 d2 d3 d4 d5 hrow
      obtain ⟨xa, xn, xt, xr, xo⟩ := x
      have hrr : (rwV rows)[j]? = some (enV ⟨xa, xn, xt, xr, xo⟩) := by rw [List.getElem?_map, hrow]; rfl
      have HRR := Lib.hid hrr
      have HSx := Lib.hid (HS.out.alloc #[.int .i64 xa, .int .i64 xn, .bool xt, .int .i64 xr, .bool xo] 68).s1
      have e1 := (own_at HSx.out.own_ hrr 0 rfl).1
      have e2 := (own_at HSx.out.own_ hrr 1 rfl).1
      have e3 := (own_at HSx.out.own_ hrr 2 rfl).1
      have e4 := (own_at HSx.out.own_ hrr 3 rfl).1
      have e5 := (own_at HSx.out.own_ hrr 4 rfl).1
      have hb := HSx.out.s1.blk_
      have b1 := hb.at_ 0 rfl
      have b2 := hb.at_ 1 rfl
      have b3 := hb.at_ 2 rfl
      have b4 := hb.at_ 3 rfl
      have b5 := hb.at_ 4 rfl
      rw [Nat.add_zero] at e1
      clear hrow hrr hb HS
      go_wp2_with fail
      go_quiet (fail)
      have HS3 := Lib.hid (HSx.out.drewN nq)
      have f1 := own_at HS3.out.own_ HRR.out 1 rfl
      have f2 := f1.1
      have f3 := f1.2
      clear f1 e1 e2 e3 e4 e5 b1 b2 b3 b4 b5 d1 d2 d3 d4 d5 HSx
      have hS4 := (HS3.out.setOwn HRR.out 1 (by decide) (.int .i64 (IntKind.i64.wrap (xn + 1)))).s1.drop
      have HS4 := Lib.hid hS4
      clear hS4
      generalize hz : IntKind.i64.wrap (xn + 1) = z at HS4
      go_wp2_with fail
      go_roundg (vs.length - (j + 1))
      case measure => omega
      case rel => exact ⟨j + 1, rows.set j ⟨xa, z, xt, xr, xo⟩, hlt, rfl, by go_num, Lib.hid ⟨by rw [List.length_set]; exact HR.out.1, fun i hi => by rw [List.getElem?_set_ne (by omega)]; exact HR.out.2 i (by omega)⟩, by
        have := HS4.out
        rw [show (rwV rows).set j ((enV ⟨xa, xn, xt, xr, xo⟩).set 1 (.int .i64 z)) = rwV (rows.set j ⟨xa, z, xt, xr, xo⟩) from (rwV_set rows j ⟨xa, z, xt, xr, xo⟩).symm] at this
        exact Lib.hid this⟩
    · obtain rfl : j = vs.length := by omega
      have hS5 := HS.out.drop
      obtain ⟨cv, hCh, _⟩ := hS5.s2.chF
      have HL := Lib.hid (cLatest p cv vs wr hCh hl)
      have hRl : ∀ w', Sat (blk q #[.slice A vs.length c] 71 :: ownR (.slice A vs.length c) 68 5 (rwV vs) :: chP p vs :: errP :: l) w' → Calls Tryd.prog 34 #[.pointer (some ⟨q, 0, none⟩)] w' (Ans w' (.tuple #[.int .i64 (ltV vs).1, .bool (ltV vs).2])) := fun w' h => rLatest q (.slice A vs.length c) vs w' ⟨h.blk_, h.s1.own_⟩ hl
      generalize ltV vs = lv at HL hRl
      obtain ⟨ln, lt⟩ := lv
      have HRl := Lib.hid hRl
      have HS5 := Lib.hid hS5
      clear hS5 hCh hRl HS HR
      go_wp2_with fail
      refine HL.out.mono ?_
      rintro e w3 ⟨rfl, hb3⟩
      have HS6 := Lib.hid (HS5.out.below hb3)
      clear HL hb3
      go_wp2_with fail
      refine (HRl.out _ HS6.out).mono ?_
      rintro e w4 ⟨rfl, hb4⟩
      have HS7 := Lib.hid (HS6.out.below hb4).shutO.t2
      clear HRl hb4
      go_wp2_with fail
      exact ⟨by simp, HS7.out⟩
end Go.Proofs.YtaaijjgaeppmkaaDoor
