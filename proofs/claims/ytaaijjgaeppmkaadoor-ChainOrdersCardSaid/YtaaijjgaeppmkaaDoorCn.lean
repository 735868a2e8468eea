/- The document's chain: Prune. -/
import Derived.Test.YtaaijjgaeppmkaaDoorCm
set_option linter.unusedVariables false
set_option maxRecDepth 100000
namespace Go.Proofs.YtaaijjgaeppmkaaDoor
open Go.Proofs.BL Go.Proofs.Peel Go.RowKit Go.Proofs.Cn

def RPrPost (p : Nat) (l : List Part) (r : Vs × Int) (e : Ending) (w' : World) : Prop := e = .returned (.int .i64 r.2) ∧ Sat (rcP p r.1 :: l) w'
set_option maxHeartbeats 8000000 in
theorem rPrune (p : Nat) (vs : Vs) (b : Int) (l : List Part) (w : World) (h : Sat (rcP p vs :: l) w) (hl : vs.length ≤ 1000000) : Calls Tryd.prog 33 #[.pointer (some ⟨p, 0, none⟩), .int .i64 b] w (RPrPost p l (prV b vs, (vs.length : Int) - (prV b vs).length)) := by
  obtain ⟨v, hF, h2⟩ := h.rcF
  obtain ⟨A, c, rfl, hc, hA, hr, c0⟩ := hF.form
  have HS0 := Lib.hid (h2.nilR 68 5)
  clear h hF h2 hr hA
  refine via fun Q hQ => ?_
  go_enter Tryd.func33, Tryd.ntmps33
  go_wp2_with fail
  go_loopg [5, 17] vs.length (fun g x5 x17 ws => ∃ (j : Nat) (out : Vs), j ≤ vs.length ∧ g = vs.length - j ∧ x17 = .int .i64 j ∧ Hid (out ++ prV b (vs.drop j) = prV b vs ∧ out.length ≤ j) ∧ Hid (Sat (ownR x5 68 5 (rwV out) :: blk p #[.slice A vs.length c] 71 :: ownR (.slice A vs.length c) 68 5 (rwV vs) :: l) ws))
  case atStart => exact ⟨0, [], Nat.zero_le _, rfl, rfl, Lib.hid ⟨rfl, Nat.le_refl _⟩, HS0⟩
  case round =>
    clear HS0 c0
    obtain ⟨j, out, hj, rfl, rfl, HO, HS⟩ := hrel
    rename World => wo
    by_cases hlt : j < vs.length
    · have hown := HS.out.s2.own_
      rcases hown.1.2 with ⟨e, hn⟩ | ⟨g, cap, cur, e, _, _, _, _, _, _⟩
      · injection e with _ e2 _
        omega
      · injection e with e1 e2 e3
        subst e1 e3
        clear e2
        have hr : RowsAt wo 5 (some ⟨g, 0, none⟩) (rwV vs) := hown.slv'.elim fun _ h => h.elim fun _ h => by
          obtain ⟨e, _, _, hr⟩ := h
          injection e with e _ _
          subst e
          exact hr
        obtain ⟨bb, o, e, d1, d2, d3, d4, d5⟩ := rows_ver hr hlt
        injection e with e
        injection e with e e1
        subst e e1
        rw [Nat.zero_add] at d1 d2 d3 d4 d5
        have hdr : vs.drop j = vs[j] :: vs.drop (j + 1) := List.drop_eq_getElem_cons hlt
        obtain ⟨k1, hk1⟩ : ∃ k1, k1 = j + 1 := ⟨_, rfl⟩
        have HK := Lib.hid hk1
        have hw1 : IntKind.i64.wrap ((j : Int) + 1) = (k1 : Int) := by rw [IntKind.wrap_i64]; omega
        have hk2 : k1 ≤ vs.length := by omega
        have hk3 : k1 ≤ c := by omega
        have HST := Lib.hid HO.out.1
        have HOL := Lib.hid HO.out.2
        have hrs : RowsAt wo 5 (some ⟨g, k1 * 5, none⟩) (rwV (vs.drop (j + 1))) := fun i r hi => by
          rw [rwV, List.map_drop, List.getElem?_drop] at hi
          obtain ⟨b0, o0, e0, hcell⟩ := hr (j + 1 + i) r hi
          injection e0 with e0
          injection e0 with e0 e1
          subst e0 e1
          refine ⟨_, _, rfl, fun j' u hj' => ?_⟩
          have := hcell j' u hj'
          rwa [show 0 + (j + 1 + i) * 5 + j' = k1 * 5 + i * 5 + j' from by rw [hk1, Nat.add_mul]; omega] at this
        have hrl : vs.length - k1 = (vs.drop (j + 1)).length := by rw [List.length_drop, hk1]
        rw [hdr] at HST
        generalize vs[j] = x at d1 d2 d3 d4 d5 HST
        obtain ⟨rs, hrd⟩ : ∃ rs, vs.drop (j + 1) = rs := ⟨_, rfl⟩
        rw [hrd] at HST hrs hrl
        have HRD := Lib.hid hrd
        clear hrd
        obtain ⟨xa, xn, xt, xr, xo⟩ := x
        have HRS := Lib.hid hrs
        have HN := Lib.hid hrl
        have HSx := Lib.hid (HS.out.alloc #[.int .i64 xa, .int .i64 xn, .bool xt, .int .i64 xr, .bool xo] 68)
        have hal := (Below.refl wo.heap.size wo).alloc (Nat.le_refl _) (.cells #[.int .i64 xa, .int .i64 xn, .bool xt, .int .i64 xr, .bool xo] 68)
        have c0 := HSx.out.s2.blk_.at_ 0 rfl
        have HAL := Lib.hid hal
        have HBig := Lib.hid (show ((rwV out).length + 1) * 40 ≤ 140737488355328 from by rw [rwV_len]; have := HO.out.2; omega)
        clear hown hr hdr hk1 hrs hrl hal HO
        by_cases hck : c = k1
        · subst hck
          have hr0 : rs = [] := List.eq_nil_of_length_eq_zero (by have := HN.out; omega)
          have HR0 := Lib.hid hr0
          clear hr0
          go_wp2_with fail
          go_loopg [8, 30] 0 (fun g8 x8 x30 wi => g8 = 0 ∧ x8 = .bool (rs.any (old_ b)) ∧ x30 = .int .i64 0 ∧ Hid (Below (wo.alloc (.cells #[.int .i64 xa, .int .i64 xn, .bool xt, .int .i64 xr, .bool xo] 68)).heap.size (wo.alloc (.cells #[.int .i64 xa, .int .i64 xn, .bool xt, .int .i64 xr, .bool xo] 68)) wi))
          case atStart => exact ⟨rfl, by rw [HR0.out]; rfl, rfl, Lib.hid (Below.refl _ _)⟩
          case round =>
            obtain ⟨rfl, rfl, rfl, HBi⟩ := hrel
            rename World => wi
            obtain ⟨lt, hlr⟩ : ∃ lt, rs.any (old_ b) = lt := ⟨_, rfl⟩
            rw [hlr]
            have HA := Lib.hid hlr
            clear hlr
            have HSi := HSx.out.below HBi.out
            have e0 := HSi.blk_.at_ 0 rfl
            have e4 := HSi.blk_.at_ 4 rfl
            have e1 := HSi.blk_.at_ 1 rfl
            have e2 := HSi.blk_.at_ 2 rfl
            have e3 := HSi.blk_.at_ 3 rfl
            have HSa := Lib.hid HSi.drop
            clear HSi HSx HBi HS
            cases xo with
            | true =>
              have hst : (out ++ [⟨xa, xn, xt, xr, true⟩]) ++ prV b rs = prV b vs := by rw [← HST.out, prV, if_neg (by simp [old_]), List.append_assoc]; rfl
              have HST2 := Lib.hid hst
              clear hst HST
              go_wp2_with (at_builtin; go_loud (refine append1L (W := wi) 0 68 5 40 (.agg #[.int .i64 0, .int .i64 0, .bool false, .int .i64 0, .bool false]) rfl (.tmp 59) (.tmp 61) 69 rfl Tryd.underlying69 infoR zeroR (by decide) (by decide) u5 (rwV out) [.int .i64 xa, .int .i64 xn, .bool xt, .int .i64 xr, .bool true] rfl wi.heap.size rfl rfl rfl (enV_one ⟨xa, xn, xt, xr, true⟩) HSa.out.own_ (Nat.zero_le _) HBig.out ?_); intro v1 w1 ho1 hf1 hl1)
              have hS2 := HSa.out.grown ho1 hf1 hl1
              rw [show rwV out ++ [[.int .i64 xa, .int .i64 xn, .bool xt, .int .i64 xr, .bool true]] = rwV (out ++ [⟨xa, xn, xt, xr, true⟩]) from by simp [rwV, enV]] at hS2
              have HS2 := Lib.hid hS2
              clear hS2 ho1 hf1 hl1 HSa
              go_wp2_with fail
              go_roundg (vs.length - (j + 1))
              case measure => omega
              case rel => exact ⟨j + 1, out ++ [⟨xa, xn, xt, xr, true⟩], hlt, rfl, by rw [HK.out], Lib.hid ⟨by rw [HRD.out]; exact HST2.out, by rw [List.length_append]; exact Nat.succ_le_succ HOL.out⟩, HS2⟩

            | false =>
              by_cases hab : b ≤ xa
              · have hnab : ¬ xa < b := by omega
                have hst : (out ++ [⟨xa, xn, xt, xr, false⟩]) ++ prV b rs = prV b vs := by rw [← HST.out, prV, if_neg (by simp [old_]; omega), List.append_assoc]; rfl
                have HST2 := Lib.hid hst
                clear hst HST
                go_wp2_with (at_builtin; go_loud (refine append1L (W := wi) 0 68 5 40 (.agg #[.int .i64 0, .int .i64 0, .bool false, .int .i64 0, .bool false]) rfl (.tmp 59) (.tmp 61) 69 rfl Tryd.underlying69 infoR zeroR (by decide) (by decide) u5 (rwV out) [.int .i64 xa, .int .i64 xn, .bool xt, .int .i64 xr, .bool false] rfl wi.heap.size rfl rfl rfl (enV_one ⟨xa, xn, xt, xr, false⟩) HSa.out.own_ (Nat.zero_le _) HBig.out ?_); intro v1 w1 ho1 hf1 hl1)
                have hS2 := HSa.out.grown ho1 hf1 hl1
                rw [show rwV out ++ [[.int .i64 xa, .int .i64 xn, .bool xt, .int .i64 xr, .bool false]] = rwV (out ++ [⟨xa, xn, xt, xr, false⟩]) from by simp [rwV, enV]] at hS2
                have HS2 := Lib.hid hS2
                clear hS2 ho1 hf1 hl1 HSa
                go_wp2_with fail
                go_roundg (vs.length - (j + 1))
                case measure => omega
                case rel => exact ⟨j + 1, out ++ [⟨xa, xn, xt, xr, false⟩], hlt, rfl, by rw [HK.out], Lib.hid ⟨by rw [HRD.out]; exact HST2.out, by rw [List.length_append]; exact Nat.succ_le_succ HOL.out⟩, HS2⟩

              · cases lt with
                | false =>
                  have hst : (out ++ [⟨xa, xn, xt, xr, false⟩]) ++ prV b rs = prV b vs := by rw [← HST.out, prV, if_neg (by rw [HA.out]; simp), List.append_assoc]; rfl
                  have HST2 := Lib.hid hst
                  clear hst HST
                  go_wp2_with (at_builtin; go_loud (refine append1L (W := wi) 0 68 5 40 (.agg #[.int .i64 0, .int .i64 0, .bool false, .int .i64 0, .bool false]) rfl (.tmp 59) (.tmp 61) 69 rfl Tryd.underlying69 infoR zeroR (by decide) (by decide) u5 (rwV out) [.int .i64 xa, .int .i64 xn, .bool xt, .int .i64 xr, .bool false] rfl wi.heap.size rfl rfl rfl (enV_one ⟨xa, xn, xt, xr, false⟩) HSa.out.own_ (Nat.zero_le _) HBig.out ?_); intro v1 w1 ho1 hf1 hl1)
                  have hS2 := HSa.out.grown ho1 hf1 hl1
                  rw [show rwV out ++ [[.int .i64 xa, .int .i64 xn, .bool xt, .int .i64 xr, .bool false]] = rwV (out ++ [⟨xa, xn, xt, xr, false⟩]) from by simp [rwV, enV]] at hS2
                  have HS2 := Lib.hid hS2
                  clear hS2 ho1 hf1 hl1 HSa
                  go_wp2_with fail
                  go_roundg (vs.length - (j + 1))
                  case measure => omega
                  case rel => exact ⟨j + 1, out ++ [⟨xa, xn, xt, xr, false⟩], hlt, rfl, by rw [HK.out], Lib.hid ⟨by rw [HRD.out]; exact HST2.out, by rw [List.length_append]; exact Nat.succ_le_succ HOL.out⟩, HS2⟩

                | true =>
                  have hst : out ++ prV b rs = prV b vs := by rw [← HST.out, prV, if_pos (by rw [HA.out]; simp [old_]; omega)]
                  have HST2 := Lib.hid hst
                  clear hst HST
                  go_wp2_with fail
                  go_roundg (vs.length - (j + 1))
                  case measure => omega
                  case rel => exact ⟨j + 1, out, hlt, rfl, by rw [HK.out], Lib.hid ⟨by rw [HRD.out]; exact HST2.out, Nat.le_succ_of_le HOL.out⟩, HSa⟩

        · go_wp2_with fail
          go_loopg [8, 30] (vs.length - k1) (fun g8 x8 x30 wi => ∃ i : Nat, i ≤ vs.length - k1 ∧ g8 = vs.length - k1 - i ∧ x8 = .bool ((rs.take i).any (old_ b)) ∧ x30 = .int .i64 i ∧ Hid (Below (wo.alloc (.cells #[.int .i64 xa, .int .i64 xn, .bool xt, .int .i64 xr, .bool xo] 68)).heap.size (wo.alloc (.cells #[.int .i64 xa, .int .i64 xn, .bool xt, .int .i64 xr, .bool xo] 68)) wi))
          case atStart => exact ⟨0, Nat.zero_le _, rfl, rfl, rfl, Lib.hid (Below.refl _ _)⟩
          case round =>
            obtain ⟨i, hi, rfl, rfl, rfl, HBi⟩ := hrel
            rename World => wi
            by_cases hil : i < vs.length - k1
            · have hirs : i < rs.length := by have := HN.out; omega
              have hst : (rs.take (i + 1)).any (old_ b) = ((rs.take i).any (old_ b) || old_ b rs[i]) := by
                rw [List.take_add_one, List.getElem?_eq_getElem hirs, Option.toList_some, List.any_append]
                simp
              obtain ⟨b2, o2, e, f1, f2, f3, f4, f5⟩ := rows_ver ((HRS.out.below HAL.out).below HBi.out) hirs
              injection e with e
              injection e with e e1
              subst e e1
              generalize rs[i] = y at f1 f2 f3 f4 f5 hst
              obtain ⟨ya, yn, yt, yr, yo⟩ := y
              generalize (rs.take i).any (old_ b) = la at hst ⊢
              have HSTi := Lib.hid hst
              clear hst HBig HSx HST HS HOL
              cases la with
              | true =>
                cases yo
                all_goals
                  go_wp2_with fail
                  go_roundg (vs.length - k1 - (i + 1))
                  case measure => omega
                  case rel => exact ⟨i + 1, by omega, rfl, by rw [HSTi.out]; simp, by go_num, Lib.hid (HBi.out.alloc HBi.out.size _)⟩
              | false =>
                cases yo with
                | true =>
                  go_wp2_with fail
                  go_roundg (vs.length - k1 - (i + 1))
                  case measure => omega
                  case rel => exact ⟨i + 1, by omega, rfl, by rw [HSTi.out]; simp [old_], by go_num, Lib.hid (HBi.out.alloc HBi.out.size _)⟩
                | false =>
                  go_wp2_with fail
                  go_roundg (vs.length - k1 - (i + 1))
                  case measure => omega
                  case rel => exact ⟨i + 1, by omega, rfl, by rw [HSTi.out]; simp [old_], by go_num, Lib.hid (HBi.out.alloc HBi.out.size _)⟩
            · obtain rfl : i = vs.length - k1 := by omega
              have hany : (rs.take (vs.length - k1)).any (old_ b) = rs.any (old_ b) := by rw [List.take_of_length_le (by have := HN.out; omega)]
              rw [hany]
              clear hany
              obtain ⟨lt, hlr⟩ : ∃ lt, rs.any (old_ b) = lt := ⟨_, rfl⟩
              rw [hlr]
              have HA := Lib.hid hlr
              clear hlr
              have HSi := HSx.out.below HBi.out
              have e0 := HSi.blk_.at_ 0 rfl
              have e4 := HSi.blk_.at_ 4 rfl
              have e1 := HSi.blk_.at_ 1 rfl
              have e2 := HSi.blk_.at_ 2 rfl
              have e3 := HSi.blk_.at_ 3 rfl
              have HSa := Lib.hid HSi.drop
              clear HSi HSx HBi HS
              cases xo with
              | true =>
                have hst : (out ++ [⟨xa, xn, xt, xr, true⟩]) ++ prV b rs = prV b vs := by rw [← HST.out, prV, if_neg (by simp [old_]), List.append_assoc]; rfl
                have HST2 := Lib.hid hst
                clear hst HST
                go_wp2_with (at_builtin; go_loud (refine append1L (W := wi) 0 68 5 40 (.agg #[.int .i64 0, .int .i64 0, .bool false, .int .i64 0, .bool false]) rfl (.tmp 59) (.tmp 61) 69 rfl Tryd.underlying69 infoR zeroR (by decide) (by decide) u5 (rwV out) [.int .i64 xa, .int .i64 xn, .bool xt, .int .i64 xr, .bool true] rfl wi.heap.size rfl rfl rfl (enV_one ⟨xa, xn, xt, xr, true⟩) HSa.out.own_ (Nat.zero_le _) HBig.out ?_); intro v1 w1 ho1 hf1 hl1)
                have hS2 := HSa.out.grown ho1 hf1 hl1
                rw [show rwV out ++ [[.int .i64 xa, .int .i64 xn, .bool xt, .int .i64 xr, .bool true]] = rwV (out ++ [⟨xa, xn, xt, xr, true⟩]) from by simp [rwV, enV]] at hS2
                have HS2 := Lib.hid hS2
                clear hS2 ho1 hf1 hl1 HSa
                go_wp2_with fail
                go_roundg (vs.length - (j + 1))
                case measure => omega
                case rel => exact ⟨j + 1, out ++ [⟨xa, xn, xt, xr, true⟩], hlt, rfl, by rw [HK.out], Lib.hid ⟨by rw [HRD.out]; exact HST2.out, by rw [List.length_append]; exact Nat.succ_le_succ HOL.out⟩, HS2⟩

              | false =>
                by_cases hab : b ≤ xa
                · have hnab : ¬ xa < b := by omega
                  have hst : (out ++ [⟨xa, xn, xt, xr, false⟩]) ++ prV b rs = prV b vs := by rw [← HST.out, prV, if_neg (by simp [old_]; omega), List.append_assoc]; rfl
                  have HST2 := Lib.hid hst
                  clear hst HST
                  go_wp2_with (at_builtin; go_loud (refine append1L (W := wi) 0 68 5 40 (.agg #[.int .i64 0, .int .i64 0, .bool false, .int .i64 0, .bool false]) rfl (.tmp 59) (.tmp 61) 69 rfl Tryd.underlying69 infoR zeroR (by decide) (by decide) u5 (rwV out) [.int .i64 xa, .int .i64 xn, .bool xt, .int .i64 xr, .bool false] rfl wi.heap.size rfl rfl rfl (enV_one ⟨xa, xn, xt, xr, false⟩) HSa.out.own_ (Nat.zero_le _) HBig.out ?_); intro v1 w1 ho1 hf1 hl1)
                  have hS2 := HSa.out.grown ho1 hf1 hl1
                  rw [show rwV out ++ [[.int .i64 xa, .int .i64 xn, .bool xt, .int .i64 xr, .bool false]] = rwV (out ++ [⟨xa, xn, xt, xr, false⟩]) from by simp [rwV, enV]] at hS2
                  have HS2 := Lib.hid hS2
                  clear hS2 ho1 hf1 hl1 HSa
                  go_wp2_with fail
                  go_roundg (vs.length - (j + 1))
                  case measure => omega
                  case rel => exact ⟨j + 1, out ++ [⟨xa, xn, xt, xr, false⟩], hlt, rfl, by rw [HK.out], Lib.hid ⟨by rw [HRD.out]; exact HST2.out, by rw [List.length_append]; exact Nat.succ_le_succ HOL.out⟩, HS2⟩

                · cases lt with
                  | false =>
                    have hst : (out ++ [⟨xa, xn, xt, xr, false⟩]) ++ prV b rs = prV b vs := by rw [← HST.out, prV, if_neg (by rw [HA.out]; simp), List.append_assoc]; rfl
                    have HST2 := Lib.hid hst
                    clear hst HST
                    go_wp2_with (at_builtin; go_loud (refine append1L (W := wi) 0 68 5 40 (.agg #[.int .i64 0, .int .i64 0, .bool false, .int .i64 0, .bool false]) rfl (.tmp 59) (.tmp 61) 69 rfl Tryd.underlying69 infoR zeroR (by decide) (by decide) u5 (rwV out) [.int .i64 xa, .int .i64 xn, .bool xt, .int .i64 xr, .bool false] rfl wi.heap.size rfl rfl rfl (enV_one ⟨xa, xn, xt, xr, false⟩) HSa.out.own_ (Nat.zero_le _) HBig.out ?_); intro v1 w1 ho1 hf1 hl1)
                    have hS2 := HSa.out.grown ho1 hf1 hl1
                    rw [show rwV out ++ [[.int .i64 xa, .int .i64 xn, .bool xt, .int .i64 xr, .bool false]] = rwV (out ++ [⟨xa, xn, xt, xr, false⟩]) from by simp [rwV, enV]] at hS2
                    have HS2 := Lib.hid hS2
                    clear hS2 ho1 hf1 hl1 HSa
                    go_wp2_with fail
                    go_roundg (vs.length - (j + 1))
                    case measure => omega
                    case rel => exact ⟨j + 1, out ++ [⟨xa, xn, xt, xr, false⟩], hlt, rfl, by rw [HK.out], Lib.hid ⟨by rw [HRD.out]; exact HST2.out, by rw [List.length_append]; exact Nat.succ_le_succ HOL.out⟩, HS2⟩

                  | true =>
                    have hst : out ++ prV b rs = prV b vs := by rw [← HST.out, prV, if_pos (by rw [HA.out]; simp [old_]; omega)]
                    have HST2 := Lib.hid hst
                    clear hst HST
                    go_wp2_with fail
                    go_roundg (vs.length - (j + 1))
                    case measure => omega
                    case rel => exact ⟨j + 1, out, hlt, rfl, by rw [HK.out], Lib.hid ⟨by rw [HRD.out]; exact HST2.out, Nat.le_succ_of_le HOL.out⟩, HSa⟩

    · obtain rfl : j = vs.length := by omega
      rw [List.drop_length] at HO
      have hout := HO.out.1
      rw [prV, List.append_nil] at hout
      rw [← hout] at hQ
      obtain ⟨A8, q8, rfl, _, _, _⟩ := HS.out.own_.slv'
      rw [rwV_len] at HS
      have hol := HO.out.2
      have c0 := HS.out.s1.blk_.at_ 0 rfl
      have f0 := HS.out.s1.blk_.free 0
      have HS3 := Lib.hid ((HS.out.s2.drop.s1).set 0 (.slice A8 out.length q8)).shutO
      have hw1 : IntKind.i64.wrap ((vs.length : Int) - (out.length : Int)) = (vs.length : Int) - (out.length : Int) := by rw [IntKind.wrap_i64]; omega
      clear HS HO hout
      go_wp2_with fail
      exact ⟨rfl, HS3.out⟩
end Go.Proofs.YtaaijjgaeppmkaaDoor
