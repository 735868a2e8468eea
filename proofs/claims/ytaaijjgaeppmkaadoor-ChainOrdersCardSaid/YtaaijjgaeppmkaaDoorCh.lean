/- Package chain: Prune. -/
import Derived.Test.YtaaijjgaeppmkaaDoorCg
set_option linter.unusedVariables false
set_option maxRecDepth 100000
namespace Go.Proofs.YtaaijjgaeppmkaaDoor
open Go.Proofs.BL Go.Proofs.Peel Go.RowKit Go.Proofs.Cn

/-- Where the last old one stands; -1: nowhere. -/
def lastI (b : Int) : Vs → Int
  | [] => -1
  | v :: r => if 0 ≤ lastI b r then lastI b r + 1 else if old_ b v then 0 else -1
theorem lastI_ge (b : Int) : ∀ l : Vs, -1 ≤ lastI b l ∧ lastI b l < l.length
  | [] => ⟨Int.le_refl _, (by decide : (-1 : Int) < 0)⟩
  | v :: r => by
    have := lastI_ge b r
    simp only [lastI, List.length_cons]
    split
    · omega
    · split <;> omega
theorem lastI_snoc (b : Int) (v : Ver) : ∀ l : Vs, lastI b (l ++ [v]) = if old_ b v then (l.length : Int) else lastI b l
  | [] => by
    cases h : old_ b v <;> simp [lastI, h]
  | x :: r => by
    have ih := lastI_snoc b v r
    have h1 := lastI_ge b r
    simp only [List.cons_append, lastI, ih, List.length_cons]
    cases h : old_ b v <;> simp <;> (try omega)
theorem any_last (b : Int) (r : Vs) : ∀ pre : Vs, r.any (old_ b) = decide ((pre.length : Int) ≤ lastI b (pre ++ r))
  | [] => by
    rw [List.nil_append]
    induction r with
    | nil => simp [lastI]
    | cons x r ih =>
      simp only [List.any_cons, lastI, ih]
      have := lastI_ge b r
      by_cases h : 0 ≤ lastI b r
      · simp only [h, if_true]
        have h2 : (([] : Vs).length : Int) ≤ lastI b r + 1 := by simp; omega
        simp [h]
        omega
      · simp only [h, if_false]
        cases old_ b x <;> simp [h]
  | x :: pre => by
    have ih := any_last b r pre
    rw [ih]
    have := lastI_ge b (pre ++ r)
    simp only [List.cons_append, lastI, List.length_cons]
    by_cases h : 0 ≤ lastI b (pre ++ r)
    · simp only [h, if_true]
      congr 1
      simp
    · simp only [h, if_false]
      have h3 : ¬ ((pre.length : Int) ≤ lastI b (pre ++ r)) := by omega
      have h4 : ¬ (((pre.length + 1 : Nat) : Int) ≤ (if old_ b x = true then 0 else -1)) := by split <;> omega
      simp only [h3, decide_false]
      exact (decide_eq_false h4).symm
/-- Those that stay, by their places. -/
def keepL (L b : Int) : Int → Vs → Vs
  | _, [] => []
  | i, v :: r => if L ≤ i ∨ old_ b v = false then v :: keepL L b (i + 1) r else keepL L b (i + 1) r
theorem keepL_app (L b : Int) : ∀ (l m : Vs) (i : Int), keepL L b i (l ++ m) = keepL L b i l ++ keepL L b (i + l.length) m
  | [], m, i => by simp [keepL]
  | v :: l, m, i => by
    have ih := keepL_app L b l m (i + 1)
    simp only [List.cons_append, keepL, ih, List.length_cons]
    rw [show i + ((l.length + 1 : Nat) : Int) = i + 1 + (l.length : Int) from by omega]
    split <;> simp
theorem keepL_len (L b : Int) : ∀ (l : Vs) (i : Int), (keepL L b i l).length ≤ l.length
  | [], _ => Nat.le_refl _
  | v :: l, i => by
    have ih := keepL_len L b l (i + 1)
    simp only [keepL]
    split
    · simp; exact ih
    · simp; omega
theorem keep_pr (b : Int) : ∀ (r pre : Vs), keepL (lastI b (pre ++ r)) b pre.length r = prV b r
  | [], pre => rfl
  | v :: r, pre => by
    have ih := keep_pr b r (pre ++ [v])
    have ha := any_last b r (pre ++ [v])
    have e : ((pre ++ [v]).length : Int) = (pre.length : Int) + 1 := by simp
    rw [e, List.append_assoc, List.singleton_append] at ih ha
    simp only [keepL, prV]
    rw [ih]
    cases hv : old_ b v
    · simp
    · rw [ha]
      by_cases h : (pre.length : Int) + 1 ≤ lastI b (pre ++ v :: r)
      · rw [if_neg (fun h2 => h2.elim (fun h2 => by omega) (fun h2 => by cases h2)), if_pos (by simp [h])]
      · rw [if_pos (.inl (by omega)), if_neg (by simp [h])]
theorem keep_all (b : Int) (vs : Vs) : keepL (lastI b vs) b 0 vs = prV b vs := keep_pr b vs []

def PrPost (p : Nat) (l : List Part) (r : Vs × Int) (e : Ending) (w' : World) : Prop := e = .returned (.int .i64 r.2) ∧ Sat (chP p r.1 :: l) w'
theorem cPrune_nil (t : Int) (w : World) : Calls Tryd.prog 19 #[.pointer none, .int .i64 t] w (Ans w (.int .i64 0)) := by
  refine via fun Q hQ => ?_
  go_enter Tryd.func19, Tryd.ntmps19
  go_wp2_with fail
  exact ⟨rfl, Below.refl _ _⟩

set_option maxHeartbeats 4000000 in
theorem cPrune (p : Nat) (vs : Vs) (b : Int) (l : List Part) (w : World) (h : Sat (chP p vs :: l) w) (hl : vs.length ≤ 1000000) : Calls Tryd.prog 19 #[.pointer (some ⟨p, 0, none⟩), .int .i64 b] w (PrPost p l (prV b vs, (vs.length : Int) - (prV b vs).length)) := by
  obtain ⟨v, hF, h2⟩ := h.chF
  have c0 := hF.1.at_ 0 rfl
  obtain ⟨A, c, rfl, hc, _, hr⟩ := hF.2.slv'
  rw [rwV_len] at hc c0 h2
  have HF := Lib.hid hF
  have H2 := Lib.hid h2
  clear h hF h2 hr
  refine via fun Q hQ => ?_
  go_enter Tryd.func19, Tryd.ntmps19
  go_wp2_with fail
  go_loopg [5, 19] vs.length (fun g x5 x19 wr => ∃ j : Nat, j ≤ vs.length ∧ g = vs.length - j ∧ x5 = .int .i64 (lastI b (vs.take j)) ∧ x19 = .int .i64 j ∧ Below w.heap.size w wr)
  case atStart => exact ⟨0, Nat.zero_le _, rfl, rfl, rfl, Below.refl _ _⟩
  case round =>
    obtain ⟨j, hj, rfl, rfl, rfl, hb⟩ := hrel
    have HB := Lib.hid hb
    clear hb
    by_cases hlt : j < vs.length
    · have hFr := HF.out.below HB.out
      obtain ⟨bb, o, rfl, d1, d2, d3, d4, d5⟩ := rows_ver (hFr.2.slv'.elim fun _ h => h.elim fun _ h => by
        obtain ⟨e, _, _, hr⟩ := h
        injection e with e _ _
        subst e
        exact hr) hlt
      have hst : lastI b (vs.take (j + 1)) = if old_ b vs[j] then (j : Int) else lastI b (vs.take j) := by
        rw [List.take_add_one, List.getElem?_eq_getElem hlt, Option.toList_some, lastI_snoc, List.length_take, Nat.min_eq_left (by omega)]
      generalize vs[j] = x at d1 d2 d3 d4 d5 hst
      obtain ⟨xa, xn, xt, xr, xo⟩ := x
      have HST := Lib.hid hst
      clear hFr hst
      generalize lastI b (vs.take j) = lj at HST ⊢
      cases xo with
      | true =>
        go_wp2_with fail
        go_roundg (vs.length - (j + 1))
        case measure => omega
        case rel => exact ⟨j + 1, hlt, rfl, by rw [HST.out]; simp [old_], by go_num, HB.out.alloc HB.out.size _⟩
      | false =>
        by_cases hab : xa < b
        · go_wp2_with fail
          go_roundg (vs.length - (j + 1))
          case measure => omega
          case rel => exact ⟨j + 1, hlt, rfl, by rw [HST.out, if_pos (by simp [old_, hab])], by go_num, HB.out.alloc HB.out.size _⟩
        · go_wp2_with fail
          go_roundg (vs.length - (j + 1))
          case measure => omega
          case rel => exact ⟨j + 1, hlt, rfl, by rw [HST.out, if_neg (by simp [old_]; omega)], by go_num, HB.out.alloc HB.out.size _⟩
    · obtain rfl : j = vs.length := by omega
      rw [List.take_length]
      have hkp := keep_all b vs
      have hli := lastI_ge b vs
      generalize lastI b vs = L at hkp hli ⊢
      generalize prV b vs = pv at hkp hQ
      subst hkp
      have hFr := HF.out.below HB.out
      have c0r := hFr.1.at_ 0 rfl
      have hS0 := (H2.out.below HB.out).nilR 39 5
      have HS0 := Lib.hid hS0
      clear hFr hS0 c0 HB HF H2
      have HInfo := Lib.hid (show (Tryd.prog.info? 39).map (fun i => (i.zero, i.size, i.bytes)) = some (some (.agg #[.int .i64 0, .int .i64 0, .bool false, .int .i64 0, .bool false]), 5, 40) from by kernel_rfl)
      have HZc := Lib.hid (show ((.agg #[.int .i64 0, .int .i64 0, .bool false, .int .i64 0, .bool false]) : Value).cells.size = 5 from by kernel_rfl)
      go_wp2_with fail
      go_loopg [8, 40] vs.length (fun g x8 x40 ws => ∃ j : Nat, j ≤ vs.length ∧ g = vs.length - j ∧ x40 = .int .i64 j ∧ Hid (Sat (ownR x8 39 5 (rwV (keepL L b 0 (vs.take j))) :: blk p #[.slice A vs.length c] 58 :: ownR (.slice A vs.length c) 39 5 (rwV vs) :: l) ws))
      case atStart => exact ⟨0, Nat.zero_le _, rfl, rfl, HS0⟩
      case round =>
        clear HS0 c0r
        obtain ⟨j, hj, rfl, rfl, HS⟩ := hrel
        by_cases hlt : j < vs.length
        · obtain ⟨bb, o, rfl, d1, d2, d3, d4, d5⟩ := rows_ver (HS.out.s2.own_.slv'.elim fun _ h => h.elim fun _ h => by
            obtain ⟨e, _, _, hr⟩ := h
            injection e with e _ _
            subst e
            exact hr) hlt
          have hst : keepL L b 0 (vs.take (j + 1)) = keepL L b 0 (vs.take j) ++ (if L ≤ j ∨ old_ b vs[j] = false then [vs[j]] else []) := by
            rw [List.take_add_one, List.getElem?_eq_getElem hlt, Option.toList_some, keepL_app, List.length_take, Nat.min_eq_left (by omega), Int.zero_add]
            simp only [keepL]
          have hkl := keepL_len L b (vs.take j) 0
          rw [List.length_take] at hkl
          generalize vs[j] = x at d1 d2 d3 d4 d5 hst
          obtain ⟨xa, xn, xt, xr, xo⟩ := x
          have HST := Lib.hid hst
          have HS1 := Lib.hid (HS.out.below ((Below.refl wr.heap.size wr).alloc (Nat.le_refl _) (.cells #[.int .i64 xa, .int .i64 xn, .bool xt, .int .i64 xr, .bool xo] 39)))
          have HBig := Lib.hid (show ((rwV (keepL L b 0 (vs.take j))).length + 1) * 40 ≤ 140737488355328 from by rw [rwV_len]; omega)
          clear hst hkl
          by_cases hLj : L ≤ (j : Int)
          · cases xo with
            | true =>
              have hst : keepL L b 0 (vs.take (j + 1)) = keepL L b 0 (vs.take j) ++ [⟨xa, xn, xt, xr, true⟩] := HST.out.trans (by rw [if_pos (.inl hLj)])
              have HST2 := Lib.hid hst
              clear hst HST
              go_wp2_with (at_builtin; go_loud (refine append1L (W := wr.alloc (.cells #[.int .i64 xa, .int .i64 xn, .bool xt, .int .i64 xr, .bool true] 39)) 0 39 5 40 (.agg #[.int .i64 0, .int .i64 0, .bool false, .int .i64 0, .bool false]) rfl (.tmp 58) (.tmp 60) 40 rfl Tryd.underlying40 HInfo.out HZc.out (by decide) (by decide) u8 (rwV (keepL L b 0 (vs.take j))) [.int .i64 xa, .int .i64 xn, .bool xt, .int .i64 xr, .bool true] rfl (wr.heap.size + 1) rfl (alloc_sz _ _) rfl (enV_one ⟨xa, xn, xt, xr, true⟩) HS1.out.own_ (Nat.zero_le _) HBig.out ?_); intro v1 w1 ho1 hf1 hl1)
              have hS2 := HS1.out.grown ho1 hf1 hl1
              rw [show rwV (keepL L b 0 (vs.take j)) ++ [[.int .i64 xa, .int .i64 xn, .bool xt, .int .i64 xr, .bool true]] = rwV (keepL L b 0 (vs.take j) ++ [⟨xa, xn, xt, xr, true⟩]) from by simp [rwV, enV], ← HST2.out] at hS2
              have HS2 := Lib.hid hS2
              clear hS2 ho1 hf1 hl1 HS1 HS
              go_wp2_with fail
              go_roundg (vs.length - (j + 1))
              case measure => omega
              case rel => exact ⟨j + 1, hlt, rfl, by go_num, HS2⟩

            | false =>
              have hst : keepL L b 0 (vs.take (j + 1)) = keepL L b 0 (vs.take j) ++ [⟨xa, xn, xt, xr, false⟩] := HST.out.trans (by rw [if_pos (.inl hLj)])
              have HST2 := Lib.hid hst
              clear hst HST
              go_wp2_with (at_builtin; go_loud (refine append1L (W := wr.alloc (.cells #[.int .i64 xa, .int .i64 xn, .bool xt, .int .i64 xr, .bool false] 39)) 0 39 5 40 (.agg #[.int .i64 0, .int .i64 0, .bool false, .int .i64 0, .bool false]) rfl (.tmp 58) (.tmp 60) 40 rfl Tryd.underlying40 HInfo.out HZc.out (by decide) (by decide) u8 (rwV (keepL L b 0 (vs.take j))) [.int .i64 xa, .int .i64 xn, .bool xt, .int .i64 xr, .bool false] rfl (wr.heap.size + 1) rfl (alloc_sz _ _) rfl (enV_one ⟨xa, xn, xt, xr, false⟩) HS1.out.own_ (Nat.zero_le _) HBig.out ?_); intro v1 w1 ho1 hf1 hl1)
              have hS2 := HS1.out.grown ho1 hf1 hl1
              rw [show rwV (keepL L b 0 (vs.take j)) ++ [[.int .i64 xa, .int .i64 xn, .bool xt, .int .i64 xr, .bool false]] = rwV (keepL L b 0 (vs.take j) ++ [⟨xa, xn, xt, xr, false⟩]) from by simp [rwV, enV], ← HST2.out] at hS2
              have HS2 := Lib.hid hS2
              clear hS2 ho1 hf1 hl1 HS1 HS
              go_wp2_with fail
              go_roundg (vs.length - (j + 1))
              case measure => omega
              case rel => exact ⟨j + 1, hlt, rfl, by go_num, HS2⟩

          · cases xo with
            | true =>
              have hst : keepL L b 0 (vs.take (j + 1)) = keepL L b 0 (vs.take j) ++ [⟨xa, xn, xt, xr, true⟩] := HST.out.trans (by rw [if_pos (.inr rfl)])
              have HST2 := Lib.hid hst
              clear hst HST
              go_wp2_with (at_builtin; go_loud (refine append1L (W := wr.alloc (.cells #[.int .i64 xa, .int .i64 xn, .bool xt, .int .i64 xr, .bool true] 39)) 0 39 5 40 (.agg #[.int .i64 0, .int .i64 0, .bool false, .int .i64 0, .bool false]) rfl (.tmp 58) (.tmp 60) 40 rfl Tryd.underlying40 HInfo.out HZc.out (by decide) (by decide) u8 (rwV (keepL L b 0 (vs.take j))) [.int .i64 xa, .int .i64 xn, .bool xt, .int .i64 xr, .bool true] rfl (wr.heap.size + 1) rfl (alloc_sz _ _) rfl (enV_one ⟨xa, xn, xt, xr, true⟩) HS1.out.own_ (Nat.zero_le _) HBig.out ?_); intro v1 w1 ho1 hf1 hl1)
              have hS2 := HS1.out.grown ho1 hf1 hl1
              rw [show rwV (keepL L b 0 (vs.take j)) ++ [[.int .i64 xa, .int .i64 xn, .bool xt, .int .i64 xr, .bool true]] = rwV (keepL L b 0 (vs.take j) ++ [⟨xa, xn, xt, xr, true⟩]) from by simp [rwV, enV], ← HST2.out] at hS2
              have HS2 := Lib.hid hS2
              clear hS2 ho1 hf1 hl1 HS1 HS
              go_wp2_with fail
              go_roundg (vs.length - (j + 1))
              case measure => omega
              case rel => exact ⟨j + 1, hlt, rfl, by go_num, HS2⟩

            | false =>
              by_cases hab : b ≤ xa
              · have hof : old_ b ⟨xa, xn, xt, xr, false⟩ = false := by simp [old_]; omega
                have HOF := Lib.hid hof
                clear hof
                have hst : keepL L b 0 (vs.take (j + 1)) = keepL L b 0 (vs.take j) ++ [⟨xa, xn, xt, xr, false⟩] := HST.out.trans (by rw [if_pos (.inr HOF.out)])
                have HST2 := Lib.hid hst
                clear hst HST
                go_wp2_with (at_builtin; go_loud (refine append1L (W := wr.alloc (.cells #[.int .i64 xa, .int .i64 xn, .bool xt, .int .i64 xr, .bool false] 39)) 0 39 5 40 (.agg #[.int .i64 0, .int .i64 0, .bool false, .int .i64 0, .bool false]) rfl (.tmp 58) (.tmp 60) 40 rfl Tryd.underlying40 HInfo.out HZc.out (by decide) (by decide) u8 (rwV (keepL L b 0 (vs.take j))) [.int .i64 xa, .int .i64 xn, .bool xt, .int .i64 xr, .bool false] rfl (wr.heap.size + 1) rfl (alloc_sz _ _) rfl (enV_one ⟨xa, xn, xt, xr, false⟩) HS1.out.own_ (Nat.zero_le _) HBig.out ?_); intro v1 w1 ho1 hf1 hl1)
                have hS2 := HS1.out.grown ho1 hf1 hl1
                rw [show rwV (keepL L b 0 (vs.take j)) ++ [[.int .i64 xa, .int .i64 xn, .bool xt, .int .i64 xr, .bool false]] = rwV (keepL L b 0 (vs.take j) ++ [⟨xa, xn, xt, xr, false⟩]) from by simp [rwV, enV], ← HST2.out] at hS2
                have HS2 := Lib.hid hS2
                clear hS2 ho1 hf1 hl1 HS1 HS
                go_wp2_with fail
                go_roundg (vs.length - (j + 1))
                case measure => omega
                case rel => exact ⟨j + 1, hlt, rfl, by go_num, HS2⟩

              · have hst : keepL L b 0 (vs.take (j + 1)) = keepL L b 0 (vs.take j) := HST.out.trans (by rw [if_neg (fun h => h.elim hLj (fun h => by simp [old_] at h; omega)), List.append_nil])
                have hS2 := HS1.out
                rw [← hst] at hS2
                have HS2 := Lib.hid hS2
                clear hst hS2 HST HS1 HS
                go_wp2_with fail
                go_roundg (vs.length - (j + 1))
                case measure => omega
                case rel => exact ⟨j + 1, hlt, rfl, by go_num, HS2⟩
        · obtain rfl : j = vs.length := by omega
          rw [List.take_length] at HS
          obtain ⟨A8, q8, rfl, _, _, _⟩ := HS.out.own_.slv'
          rw [rwV_len] at HS
          have hkl := keepL_len L b vs 0
          have c0 := HS.out.s1.blk_.at_ 0 rfl
          have f0 := HS.out.s1.blk_.free 0
          have hS3 := ((HS.out.s2.drop.s1).set 0 (.slice A8 (keepL L b 0 vs).length q8)).shutO
          have HS3 := Lib.hid hS3
          have hw1 : IntKind.i64.wrap ((vs.length : Int) - ((keepL L b 0 vs).length : Int)) = (vs.length : Int) - ((keepL L b 0 vs).length : Int) := by rw [IntKind.wrap_i64]; omega
          generalize keepL L b 0 vs = kl at *
          clear hS3 HS
          go_wp2_with fail
          exact ⟨rfl, HS3.out⟩
end Go.Proofs.YtaaijjgaeppmkaaDoor
