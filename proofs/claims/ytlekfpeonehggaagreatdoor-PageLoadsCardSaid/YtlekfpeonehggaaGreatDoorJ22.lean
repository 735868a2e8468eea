/- The document's With of chapter 7, walked. -/
import Derived.Test.YtlekfpeonehggaaGreatDoorJ19
import Derived.Test.YtlekfpeonehggaaGreatDoorJ03
import Derived.WalkLawsBesides
import Derived.Sort.Walk0
section
set_option linter.unusedVariables false
set_option maxRecDepth 100000
namespace Go.Proofs.YtlekfpeonehggaaGreatDoor
open Go.Proofs.BL Go.Proofs.Peel Go.RowKit Go.Proofs.Ky

theorem less_tx (a b : ByteArray) : Op.bytesLess a.toList b.toList = tx.lt a b := by
  rw [ByteArray.toList_eq, ByteArray.toList_eq]
  exact bytesLess_eq _ _
theorem _root_.Go.Proofs.BL.Own.lower {w : World} {base base' : Nat} {E : TypeId} {sz : Nat} {v : Value} {rows : List (List Value)} (h : Own w base E sz v rows) (hb : base' ≤ base) : Own w base' E sz v rows :=
  ⟨⟨h.1.1, h.1.2.elim .inl (fun ⟨g, cap, cur, hv, hg, r⟩ => .inr ⟨g, cap, cur, hv, Nat.le_trans hb hg, r⟩)⟩, h.2⟩
/-- What With holds while it runs: its change's box, what it made. -/
def WIn (w : World) (b : Nat) (bx : Array Value) (v : Value) (out : List Rw) (x : World) : Prop := Below w.heap.size w x ∧ Blk x b bx 109 ∧ Own x (b + 1) 29 2 v (rwR out) ∧ w.heap.size ≤ b ∧ b + 1 ≤ x.heap.size
theorem WIn.below {w x x' : World} {b : Nat} {bx : Array Value} {v : Value} {out : List Rw} (h : WIn w b bx v out x) (hb : Below x.heap.size x x') : WIn w b bx v out x' :=
  ⟨below_then h.1 hb, h.2.1.below hb, h.2.2.1.below hb, h.2.2.2.1, Nat.le_trans h.2.2.2.2 hb.size⟩
theorem WIn.app {w x x' : World} {b : Nat} {bx : Array Value} {v v' : Value} {out : List Rw} {r : Rw} (h : WIn w b bx v out x) (ho : Own x' (b + 1) 29 2 v' (rwR out ++ [enR r])) (hf : Fr (fun k => v.ownBlock = some k) x x') : WIn w b bx v' (out ++ [r]) x' :=
  ⟨((Fr.of_below (S := none_) h.1).trans hf (fun i hi e => by have := (h.2.2.1.1.lt i e).1; have := h.2.2.2.1; omega)).below,
    h.2.1.fr hf (fun e => by have := (h.2.2.1.1.lt b e).1; omega), by rw [rwR, List.map_append]; exact ho, h.2.2.2.1, Nat.le_trans h.2.2.2.2 hf.size⟩
theorem w_skip {key : ByteArray} (n : Int) {i : Bool} {r : Rw} {t : List Rw} (h : (!i && !(tx.lt r.1 key)) = false) (hs : r.1 = key) : withGo tx key n i (r :: t) = withGo tx key n i t := by
  show (if (!i && !(tx.lt r.1 key)) = true then _ else _) ++ (if r.1 = key then [] else [r]) ++ withGo tx key n (i || (!i && !(tx.lt r.1 key))) t = _
  rw [h, if_pos hs]; simp
theorem w_keep {key : ByteArray} (n : Int) {i : Bool} {r : Rw} {t : List Rw} (h : (!i && !(tx.lt r.1 key)) = false) (hs : ¬ r.1 = key) : withGo tx key n i (r :: t) = r :: withGo tx key n i t := by
  show (if (!i && !(tx.lt r.1 key)) = true then _ else _) ++ (if r.1 = key then [] else [r]) ++ withGo tx key n (i || (!i && !(tx.lt r.1 key))) t = _
  rw [h, if_neg hs]; simp
theorem w_put_skip {key : ByteArray} (n : Int) {r : Rw} {t : List Rw} (h : tx.lt r.1 key = false) (hs : r.1 = key) : withGo tx key n false (r :: t) = (key, n) :: withGo tx key n true t := by
  show (if (!false && !(tx.lt r.1 key)) = true then _ else _) ++ (if r.1 = key then [] else [r]) ++ withGo tx key n (false || (!false && !(tx.lt r.1 key))) t = _
  rw [h, if_pos hs]; simp
theorem w_put_keep {key : ByteArray} (n : Int) {r : Rw} {t : List Rw} (h : tx.lt r.1 key = false) (hs : ¬ r.1 = key) : withGo tx key n false (r :: t) = (key, n) :: r :: withGo tx key n true t := by
  show (if (!false && !(tx.lt r.1 key)) = true then _ else _) ++ (if r.1 = key then [] else [r]) ++ withGo tx key n (false || (!false && !(tx.lt r.1 key))) t = _
  rw [h, if_neg hs]; simp
def WithPost (out : List Rw) (w : World) (e : Ending) (w' : World) : Prop := ∃ v, e = .returned v ∧ Own w' w.heap.size 29 2 v (rwR out) ∧ Below w.heap.size w w'
def withX (key : ByteArray) (n : Int) (th : Bool) (l : List Rw) : List Rw := withGo tx key n (!th) l
theorem withX_eq (key : ByteArray) (n : Int) (th : Bool) (l : List Rw) : withX key n th l = withR tx key (if th then some n else none) l := by
  cases th
  · show withGo tx key n true l = withGo tx key 0 true l
    rw [go_in, go_in]
  · rfl

set_option maxHeartbeats 8000000 in
theorem with_calls (A : Option Addr) (c : Nat) (l : List Rw) (key : ByteArray) (n : Int) (th : Bool) (w : World) (hr : RowsAt w 2 A (rwR l)) (hl : l.length ≤ 1000000) (hc : l.length ≤ c) :
    Calls Tryz.prog 64 #[.slice A l.length c, .agg #[.string key, .int .i64 n, .bool th]] w (WithPost (withX key n th l) w) := by
  refine via fun Q hQ => ?_
  have hx0 : WIn w w.heap.size #[.string key, .int .i64 n, .bool th] (.slice none 0 0) [] (w.alloc (.cells #[.string key, .int .i64 n, .bool th] 109)) :=
    ⟨(Below.refl _ _).alloc (Nat.le_refl _) _, Blk.new _ _ _, Own.nil _ _ _ _, Nat.le_refl _, by simp⟩
  have HR := Lib.hid hr
  have H0 := Lib.hid hx0
  have hgo : withX key n th l = [] ++ withGo tx key n (!th) (l.drop 0) := rfl
  generalize hres : withX key n th l = res at hgo
  have HQ := Lib.hid hres
  have HG := Lib.hid hgo
  clear hr hx0 hgo hres
  generalize hn : l.length = ln at *
  have HNL := Lib.hid hn
  clear hn
  go_enter Tryz.func64, Tryz.ntmps64
  go_wp2_with fail
  generalize w.alloc (.cells #[.string key, .int .i64 n, .bool th] 109) = wa at *
  go_loopg [5, 6, 14] ln (fun g x5 x6 x14 wr => ∃ (j : Nat) (i : Bool) (out : List Rw), j ≤ ln ∧ g = ln - j ∧ x6 = .bool i ∧ x14 = .int .i64 j ∧ Hid (WIn w w.heap.size #[.string key, .int .i64 n, .bool th] x5 out wr) ∧ Hid (res = out ++ withGo tx key n i (l.drop j)) ∧ Hid (out.length ≤ j + j))
  case atStart => exact ⟨0, !th, [], Nat.zero_le _, rfl, rfl, rfl, H0, HG, Lib.hid (Nat.le_refl _)⟩
  case round =>
    obtain ⟨j, i, out, hj, rfl, rfl, rfl, HW, HE, HO⟩ := hrel
    by_cases hlt : j < ln
    · have hx : l[j]? = some (l[j]'(by rw [HNL.out]; exact hlt)) := List.getElem?_eq_getElem _
      have hdr : l.drop j = l[j]'(by rw [HNL.out]; exact hlt) :: l.drop (j + 1) := List.drop_eq_getElem_cons _
      generalize l[j]'(by rw [HNL.out]; exact hlt) = r at hx hdr
      obtain ⟨kk, nn⟩ := r
      obtain ⟨b, o, hA, c1, c2⟩ := rowAt (HR.out.below HW.out.1) hx
      subst hA
      simp only at c1 c2
      have he := HE.out
      rw [hdr] at he
      have HE := Lib.hid he
      have hA1 : Below wr.heap.size wr (wr.alloc (.cells #[.string kk, .int .i64 nn] 29)) := (Below.refl _ _).alloc (Nat.le_refl _) _
      have HW1 := Lib.hid (HW.out.below hA1)
      have d0 := HW1.out.2.1.at_ 0 rfl
      have d1 := HW1.out.2.1.at_ 1 rfl
      have hlx := less_tx kk key
      clear hx hdr he hA1
      have HLX := Lib.hid hlx
      clear hlx
      cases i with
      | true =>
        cases hL : tx.lt kk key with
        | true =>
          by_cases hs : kk = key
          · subst hs
            have hst := str_same (rfl : kk = kk)
            go_wp2_with fail
            go_roundg (ln - (j + 1))
            case measure => omega
            case rel => exact ⟨j + 1, true, out, by omega, rfl, rfl, rfl, HW1, Lib.hid (by rw [HE.out, w_skip (r := (kk, nn)) n (by simp) rfl]), Lib.hid (by have := HO.out; simp; omega)⟩
          · have hst := str_diff hs
            go_wp2_with (at_builtin; (refine append1 (w.heap.size + 1) 29 2 24 (.agg #[.string ⟨#[]⟩, .int .i64 0]) rfl (.tmp 40) (.tmp 42) 27 rfl Tryz.underlying27 (by kernel_rfl) rfl (by decide) (by decide) _ (rwR (out)) (enR (kk, nn)) rfl _ rfl (by simp) rfl (enR_one _) HW1.out.2.2.1 HW1.out.2.2.2.2 (by rw [rwR_len]; have := HO.out; have h7 : (out).length ≤ out.length + 1 := (by simp); omega) ?_); intro v2 w2 hown2 hfr2; have HW2 := Lib.hid (HW1.out.app hown2 hfr2); clear hown2 hfr2)
            go_roundg (ln - (j + 1))
            case measure => omega
            case rel => exact ⟨j + 1, true, out ++ [(kk, nn)], by omega, rfl, rfl, rfl, HW2, Lib.hid (by rw [HE.out, w_keep (r := (kk, nn)) n (by simp) hs]; simp), Lib.hid (by have := HO.out; simp; omega)⟩

        | false =>
          by_cases hs : kk = key
          · subst hs
            have hst := str_same (rfl : kk = kk)
            go_wp2_with fail
            go_roundg (ln - (j + 1))
            case measure => omega
            case rel => exact ⟨j + 1, true, out, by omega, rfl, rfl, rfl, HW1, Lib.hid (by rw [HE.out, w_skip (r := (kk, nn)) n (by simp) rfl]), Lib.hid (by have := HO.out; simp; omega)⟩
          · have hst := str_diff hs
            go_wp2_with (at_builtin; (refine append1 (w.heap.size + 1) 29 2 24 (.agg #[.string ⟨#[]⟩, .int .i64 0]) rfl (.tmp 40) (.tmp 42) 27 rfl Tryz.underlying27 (by kernel_rfl) rfl (by decide) (by decide) _ (rwR (out)) (enR (kk, nn)) rfl _ rfl (by simp) rfl (enR_one _) HW1.out.2.2.1 HW1.out.2.2.2.2 (by rw [rwR_len]; have := HO.out; have h7 : (out).length ≤ out.length + 1 := (by simp); omega) ?_); intro v2 w2 hown2 hfr2; have HW2 := Lib.hid (HW1.out.app hown2 hfr2); clear hown2 hfr2)
            go_roundg (ln - (j + 1))
            case measure => omega
            case rel => exact ⟨j + 1, true, out ++ [(kk, nn)], by omega, rfl, rfl, rfl, HW2, Lib.hid (by rw [HE.out, w_keep (r := (kk, nn)) n (by simp) hs]; simp), Lib.hid (by have := HO.out; simp; omega)⟩

      | false =>
        cases hL : tx.lt kk key with
        | true =>
          have hbl := HLX.out.trans hL
          by_cases hs : kk = key
          · subst hs
            have hst := str_same (rfl : kk = kk)
            go_wp2_with fail
            go_roundg (ln - (j + 1))
            case measure => omega
            case rel => exact ⟨j + 1, false, out, by omega, rfl, rfl, rfl, HW1, Lib.hid (by rw [HE.out, w_skip (r := (kk, nn)) n (by rw [hL]; rfl) rfl]), Lib.hid (by have := HO.out; simp; omega)⟩
          · have hst := str_diff hs
            go_wp2_with (at_builtin; (refine append1 (w.heap.size + 1) 29 2 24 (.agg #[.string ⟨#[]⟩, .int .i64 0]) rfl (.tmp 40) (.tmp 42) 27 rfl Tryz.underlying27 (by kernel_rfl) rfl (by decide) (by decide) _ (rwR (out)) (enR (kk, nn)) rfl _ rfl (by simp) rfl (enR_one _) HW1.out.2.2.1 HW1.out.2.2.2.2 (by rw [rwR_len]; have := HO.out; have h7 : (out).length ≤ out.length + 1 := (by simp); omega) ?_); intro v2 w2 hown2 hfr2; have HW2 := Lib.hid (HW1.out.app hown2 hfr2); clear hown2 hfr2)
            go_roundg (ln - (j + 1))
            case measure => omega
            case rel => exact ⟨j + 1, false, out ++ [(kk, nn)], by omega, rfl, rfl, rfl, HW2, Lib.hid (by rw [HE.out, w_keep (r := (kk, nn)) n (by rw [hL]; rfl) hs]; simp), Lib.hid (by have := HO.out; simp; omega)⟩

        | false =>
          have hbl := HLX.out.trans hL
          by_cases hs : kk = key
          · obtain rfl : key = kk := hs.symm
            have hst := str_same (rfl : key = key)
            go_wp2_with (at_builtin; (refine append1 (w.heap.size + 1) 29 2 24 (.agg #[.string ⟨#[]⟩, .int .i64 0]) rfl (.tmp 27) (.tmp 33) 27 rfl Tryz.underlying27 (by kernel_rfl) rfl (by decide) (by decide) _ (rwR out) (enR (key, n)) rfl _ rfl (by simp) rfl (enR_one _) HW1.out.2.2.1 HW1.out.2.2.2.2 (by rw [rwR_len]; have := HO.out; omega) ?_); intro v1 w1 hown1 hfr1; have HW3 := Lib.hid (HW1.out.app hown1 hfr1); have hbr : Blk w1 wr.heap.size #[.string key, .int .i64 nn] 29 := (Blk.new wr _ _).fr hfr1 (fun e => by have := (HW.out.2.2.1.1.lt _ e).2; omega); have e0 := hbr.at_ 0 rfl; have e1 := hbr.at_ 1 rfl; have d2 := HW3.out.2.1.at_ 0 rfl; clear hbr hown1 hfr1 d0 d1 c1 c2)
            go_roundg (ln - (j + 1))
            case measure => omega
            case rel => exact ⟨j + 1, true, out ++ [(key, n)], by omega, rfl, rfl, rfl, HW3, Lib.hid (by rw [HE.out, w_put_skip (r := (key, nn)) n hL rfl]; simp), Lib.hid (by have := HO.out; simp; omega)⟩
          · have hst := str_diff hs
            go_wp2_with (first | (at_builtin; (refine append1 (w.heap.size + 1) 29 2 24 (.agg #[.string ⟨#[]⟩, .int .i64 0]) rfl (.tmp 27) (.tmp 33) 27 rfl Tryz.underlying27 (by kernel_rfl) rfl (by decide) (by decide) _ (rwR out) (enR (key, n)) rfl _ rfl (by simp) rfl (enR_one _) HW1.out.2.2.1 HW1.out.2.2.2.2 (by rw [rwR_len]; have := HO.out; omega) ?_); intro v1 w1 hown1 hfr1; have HW3 := Lib.hid (HW1.out.app hown1 hfr1); have hbr : Blk w1 wr.heap.size #[.string kk, .int .i64 nn] 29 := (Blk.new wr _ _).fr hfr1 (fun e => by have := (HW.out.2.2.1.1.lt _ e).2; omega); have e0 := hbr.at_ 0 rfl; have e1 := hbr.at_ 1 rfl; have d2 := HW3.out.2.1.at_ 0 rfl; clear hbr hown1 hfr1 d0 d1 c1 c2) | (at_builtin; (refine append1 (w.heap.size + 1) 29 2 24 (.agg #[.string ⟨#[]⟩, .int .i64 0]) rfl (.tmp 40) (.tmp 42) 27 rfl Tryz.underlying27 (by kernel_rfl) rfl (by decide) (by decide) _ (rwR (out ++ [(key, n)])) (enR (kk, nn)) rfl _ rfl (by simp) rfl (enR_one _) HW3.out.2.2.1 HW3.out.2.2.2.2 (by rw [rwR_len]; have := HO.out; have h7 : (out ++ [(key, n)]).length ≤ out.length + 1 := (by simp); omega) ?_); intro v2 w2 hown2 hfr2; have HW2 := Lib.hid (HW3.out.app hown2 hfr2); clear hown2 hfr2))
            go_roundg (ln - (j + 1))
            case measure => omega
            case rel => exact ⟨j + 1, true, out ++ [(key, n)] ++ [(kk, nn)], by omega, rfl, rfl, rfl, HW2, Lib.hid (by rw [HE.out, w_put_keep (r := (kk, nn)) n hL hs]; simp), Lib.hid (by have := HO.out; simp; omega)⟩
    · obtain rfl : j = ln := by omega
      have he := HE.out
      rw [List.drop_of_length_le (by rw [HNL.out]; exact Nat.le_refl _)] at he
      have d0 := HW.out.2.1.at_ 0 rfl
      have d1 := HW.out.2.1.at_ 1 rfl
      cases i with
      | true =>
        have HE := Lib.hid (show res = out by rw [he]; simp [withGo])
        clear he
        go_wp2_with fail
        exact ⟨_, rfl, by rw [HQ.out, HE.out]; exact HW.out.2.2.1.lower (by simp), HW.out.1⟩
      | false =>
        have HE := Lib.hid (show res = out ++ [(key, n)] by rw [he]; simp [withGo])
        clear he
        go_wp2_with (at_builtin; (refine append1 (w.heap.size + 1) 29 2 24 (.agg #[.string ⟨#[]⟩, .int .i64 0]) rfl (.tmp 47) (.tmp 53) 27 rfl Tryz.underlying27 (by kernel_rfl) rfl (by decide) (by decide) _ (rwR out) (enR (key, n)) rfl _ rfl (by simp) rfl (enR_one _) HW.out.2.2.1 HW.out.2.2.2.2 (by rw [rwR_len]; have := HO.out; omega) ?_); intro v1 w1 hown1 hfr1; have HW3 := Lib.hid (HW.out.app hown1 hfr1); clear hown1 hfr1)
        exact ⟨_, rfl, by rw [HQ.out, HE.out]; exact HW3.out.2.2.1.lower (by simp), HW3.out.1⟩
end Go.Proofs.YtlekfpeonehggaaGreatDoor
end
