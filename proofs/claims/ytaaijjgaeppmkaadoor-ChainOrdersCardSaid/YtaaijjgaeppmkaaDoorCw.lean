/- Chapter 13: ChainOrders. -/
import Derived.Test.YtaaijjgaeppmkaaDoorCv
import Derived.Deep.AppendLies
set_option linter.unusedVariables false
set_option maxRecDepth 100000
namespace Go.Proofs.YtaaijjgaeppmkaaDoor
open Go.Proofs.BL Go.Proofs.Peel Go.RowKit Go.Proofs.Cn

/-- append(v, X{..}) as one step of a region that draws its order. -/
theorem step_append1 {P : Program} {ops : Array Oper} {o : Oper} {a : Act} {W : World} {K : Act → World → Prop} {Q : Exit → Act → World → Prop} {F : Prop} (base : Nat) (E : TypeId) (sz bytes : Nat) (z : Value) (hgd : o.guard = none) (s x : Operand) (t : TypeId)
    (ho : o.op = .call { callee := .builtin .append, args := #[s, x], argTypes := #[t, t] })
    (ht : P.underlying t = some (.slice E)) (hinfo : (P.info? E).map (fun i => (i.zero, i.size, i.bytes)) = some (some z, sz, bytes)) (hz : z.cells.size = sz) (hs0 : 0 < sz) (hb0 : 0 < bytes)
    (v : Value) (rows : List (List Value)) (ys : List Value) (hs : a.eval s = v) (m : Nat) (hx : a.eval x = .slice (some ⟨m, 0, none⟩) 1 1) (hm : W.heap[m]? = some (.cells ys.toArray E (0, 0))) (hys : ys.length = sz) (h1 : ∀ u ∈ ys, u.oneCell' = true)
    (HO : Go.Proofs.BL.Own W base E sz v rows) (hbase : base ≤ W.heap.size) (hl : (rows.length + 1) * bytes ≤ 140737488355328)
    (h : ∀ v1 w1, Go.Proofs.BL.Own w1 base E sz v1 (rows ++ [ys]) → Fr (fun k => v.ownBlock = some k) W w1 → (∀ k, v1.ownBlock = some k → v.ownBlock = some k ∨ W.heap.size ≤ k) → K (a.put o.dst v1) w1) :
    if Region.wanted o (yielded ops a.tmps) = true then Oper.wp P o a W K Q else F := by
  obtain ⟨i0, hi, hzz⟩ := Option.map_eq_some_iff.1 hinfo
  simp only [Prod.mk.injEq] at hzz
  obtain ⟨hz0, hz1, hz2⟩ := hzz
  have hlen : rows.length + 1 ≤ 140737488355328 := Nat.le_trans (Nat.le_mul_of_pos_right _ hb0) hl
  refine step_append_lies W hgd s x t ho base E i0 z sz bytes ht hi hz0 hz1 hz2 hz hs0 v rows.length rows.flatten hs HO.1 ⟨m, 0, none⟩ 1 1 ys hx (by rw [hys]; simp) (by simpa using World.news_of_block hm) h1 (by decide) (by simp only [maxLen]; omega) hl hbase W.heap.size rfl ?_
  intro g cap w1 hown hg hloc _
  refine h _ w1 ⟨by simpa using hown, fun r hr => ?_⟩ ⟨hg.os, hg.tape, hg.output, hg.size, fun k hk hn => hg.block k hk (fun e => hn e.symm)⟩ (fun k hk => by
    simp only [Value.ownBlock, Option.some.injEq] at hk
    subst hk
    rcases hloc with e | e
    · exact .inl e
    · exact .inr (by omega))
  rcases List.mem_append.1 hr with hr | hr
  · exact HO.2 r hr
  · simp at hr; rw [hr]; exact hys

set_option maxHeartbeats 8000000 in
theorem lawOrders (n : Int) (th : Bool) (os : List Opn) (A : Option Addr) (c : Nat) (w : World) (hE : ErrT w) (hc : os.length ≤ c) (hr : RowsAt w 4 A (os.map Opn.enc)) (hm : os.length ≤ 9223372036854775807) :
    Calls Tryd.prog 3 #[.int .i64 n, .bool th, .slice A os.length c] w (Ans w (.bool true)) := by
  have H0 := Lib.hid ((Sat.start w).old_err hE)
  have HRo := Lib.hid hr
  clear hE hr
  refine via fun Q hQ => ?_
  go_enter Tryd.func3, Tryd.ntmps3
  go_wp2_with fail
  refine (cNew n th _ _ H0.out).mono ?_
  rintro e w1 ⟨p, rfl, hS⟩
  have H3 := Lib.hid ((hS.nilR 32 3).t2.s2.nilR 32 3)
  have hi0 := inv_new n th
  have hl0 : [mk 0 n th false].length ≤ 0 + 1 := Nat.le_refl _
  generalize [mk 0 n th false] = v0 at H3 hi0 hl0 hS
  have HI0 := Lib.hid (show Inv v0 [] [] ∧ v0.length ≤ 0 + 1 ∧ ([] : Gs).length ≤ 0 ∧ ([] : Gs).length ≤ 0 from ⟨hi0, hl0, Nat.le_refl _, Nat.le_refl _⟩)
  have H4 := Lib.hid (show Sat [chP p v0, errP, ownR (.slice none 0 0) 32 3 (rwG []), ownR (.slice none 0 0) 32 3 (rwG []), old w] w1 from ((hS.nilR 32 3).nilR 32 3).s2.t3.t3.s2.s2.s1)
  clear hS hi0 hl0 H3 H0
  go_wp2_with fail
  go_loopg [8, 9, 28] os.length (fun g x8 x9 x28 ws => ∃ (j : Nat) (vs : Vs) (wr_ gt : Gs), j ≤ os.length ∧ g = os.length - j ∧ x28 = .int .i64 j ∧ j ≤ 40 ∧ Hid (Inv vs wr_ gt ∧ vs.length ≤ j + 1 ∧ wr_.length ≤ j ∧ gt.length ≤ j) ∧ Hid (Sat [chP p vs, errP, ownR x8 32 3 (rwG wr_), ownR x9 32 3 (rwG gt), old w] ws))
  case atStart => exact ⟨0, v0, [], [], Nat.zero_le _, rfl, rfl, by omega, HI0, H4⟩
  case round =>
    clear H4 HI0
    obtain ⟨j, vs, wr_, gt, hj, rfl, rfl, hj50, HI, HP⟩ := hrel
    by_cases hgo : j < os.length ∧ j < 40
    · obtain ⟨hlt, h50⟩ := hgo
      have hlv := HI.out.2
      obtain ⟨bb, o, rfl, d1, d2, d3, d4⟩ := rows_op (HRo.out.below HP.out.s4.old_) hlt
      generalize os[j] = x at d1 d2 d3 d4
      obtain ⟨xk, xa, xn, xt⟩ := x
      obtain ⟨A8, c8, rfl, hc8, _, _⟩ := HP.out.s2.own_.slv'
      rw [rwG_len] at hc8 HP ⊢
      have HSx := Lib.hid (HP.out.alloc #[.int .i64 xk, .int .i64 xa, .int .i64 xn, .bool xt] 27).t5
      clear HP
      by_cases hk0 : xk = 0
      · subst hk0
        have hiR := fun hz => inv_read HI.out.1 xa hz
        have hbR := fun hz => rd_bad (vs := vs) (a := xa) hz
        have hlR := len_rd vs xa
        have hC := cRead p vs xa _ _ HSx.out HI.out.1.ok (by have := HI.out.2; omega)
        generalize rdV vs xa = r at hiR hbR hlR hC
        obtain ⟨vs', x, y, z⟩ := r
        have hlR' : vs'.length = vs.length := hlR
        have HC := Lib.hid hC
        have HiR := Lib.hid hiR
        have HbR := Lib.hid hbR
        clear hC hiR hbR hlR HSx
        go_wp2_with fail
        refine HC.out.mono ?_
        rintro e w1 ⟨rfl, hS⟩
        obtain ⟨A', c', e, _, _, hrW⟩ := hS.s2.own_.slv'
        rw [rwG_len] at e
        injection e with e1 _ e3
        subst e1 e3
        have hb := hS.s5.blk_
        have k1 := hb.at_ 1 rfl
        have HO := Lib.hid (lown wr_ A8 c8 xa w1 hrW hc8 (by have := HI.out.2; omega))
        have HS1 := Lib.hid hS
        clear hS hb hrW HC
        by_cases hz : z = 0
        · subst hz
          rcases HiR.out rfl with ⟨g, hg, hx, hy, hInv⟩ | ⟨hg, hInv⟩
          · obtain ⟨ga, gn, gt_⟩ := g
            have hx' : x = gn := hx
            have hy' : y = gt_ := hy
            subst hx' hy'
            rw [hg] at HO
            have HI' := Lib.hid (show Inv vs' wr_ gt ∧ vs'.length ≤ j + 1 + 1 ∧ wr_.length ≤ j + 1 ∧ gt.length ≤ j + 1 from ⟨hInv, by have := HI.out.2; omega⟩)
            clear hg hInv hx hy HiR HbR HI
            go_wp2_with fail
            refine HO.out.mono ?_
            rintro e w2 ⟨rfl, hb2⟩
            have HS2 := Lib.hid (HS1.out.below hb2).s5.drop
            have HS3 := Lib.hid (HS2.out.below ((Below.refl w2.heap.size w2).alloc (Nat.le_refl _) (.cells #[.int .i64 ga, .int .i64 x, .bool y] 32)))
            clear hb2 HO HS1 k1 HS2
            simp only [ownA]
            go_wp2_with fail
            go_roundg (os.length - (j + 1))
            case measure => omega
            case rel => exact ⟨j + 1, vs', wr_, gt, hlt, rfl, by go_num, h50, HI', HS3⟩
          · rw [hg] at HO
            have HI' := Lib.hid (show Inv vs' wr_ (gt ++ ([⟨xa, x, y⟩] : Gs)) ∧ vs'.length ≤ j + 1 + 1 ∧ wr_.length ≤ j + 1 ∧ (gt ++ ([⟨xa, x, y⟩] : Gs)).length ≤ j + 1 from ⟨hInv, by have := HI.out.2; rw [List.length_append]; simp only [List.length_singleton]; omega⟩)
            have HBig := Lib.hid (show ((rwG gt).length + 1) * 24 ≤ 140737488355328 from by rw [rwG_len]; have := HI.out.2; omega)
            clear hg hInv HiR HbR HI
            go_wp2_with fail
            refine HO.out.mono ?_
            rintro e w2 ⟨rfl, hb2⟩
            have HS3 := Lib.hid ((HS1.out.below hb2).below ((Below.refl w2.heap.size w2).alloc (Nat.le_refl _) (.cells #[.int .i64 0, .int .i64 0, .bool false] 32)))
            have k2 := HS3.out.s5.blk_.at_ 1 rfl
            clear hb2 HO HS1 k1
            simp only [ownA]
            go_wp2_with (at_builtin; go_loud (refine append1L (W := w2.alloc (.cells #[.int .i64 0, .int .i64 0, .bool false] 32)) 0 32 3 24 (.agg #[.int .i64 0, .int .i64 0, .bool false]) rfl (.tmp 78) (.tmp 84) 25 rfl Tryd.underlying25 infoG zeroG (by decide) (by decide) u9 (rwG gt) [.int .i64 xa, .int .i64 x, .bool y] rfl (w2.heap.size + 1) rfl (alloc_sz _ _) rfl (enG_one ⟨xa, x, y⟩) HS3.out.s3.own_ (Nat.zero_le _) HBig.out ?_); intro v1 w3 ho1 hf1 hl1)
            have hS4 := (HS3.out.s3.grown ho1 hf1 hl1).t3.s5.drop
            rw [show rwG gt ++ [[.int .i64 xa, .int .i64 x, .bool y]] = rwG (gt ++ ([⟨xa, x, y⟩] : Gs)) from by simp [rwG, enG]] at hS4
            have HS4 := Lib.hid hS4
            clear hS4 ho1 hf1 hl1 HS3 k2
            go_wp2_with fail
            go_roundg (os.length - (j + 1))
            case measure => omega
            case rel => exact ⟨j + 1, vs', wr_, gt ++ ([⟨xa, x, y⟩] : Gs), hlt, rfl, by go_num, h50, HI', HS4⟩
        · have hv : vs' = vs := HbR.out hz
          subst hv
          have hzb : (z == 0) = false := by simpa using hz
          have HI' := Lib.hid (show Inv vs' wr_ gt ∧ vs'.length ≤ j + 1 + 1 ∧ wr_.length ≤ j + 1 ∧ gt.length ≤ j + 1 from ⟨HI.out.1, by have := HI.out.2; omega⟩)
          clear hz HiR HbR HI
          go_wp2_with fail
          refine HO.out.mono ?_
          rintro e w2 ⟨rfl, hb2⟩
          have HS2 := Lib.hid (HS1.out.below hb2).s5.drop
          clear hb2 HO HS1 k1
          cases ownG wr_ xa with
          | none =>
            simp only [ownA]
            have HS3 := Lib.hid (HS2.out.below ((Below.refl w2.heap.size w2).alloc (Nat.le_refl _) (.cells #[.int .i64 0, .int .i64 0, .bool false] 32)))
            clear HS2
            go_wp2_with fail
            go_roundg (os.length - (j + 1))
            case measure => omega
            case rel => exact ⟨j + 1, vs', wr_, gt, hlt, rfl, by go_num, h50, HI', HS3⟩
          | some g =>
            obtain ⟨ga, gn, gt_⟩ := g
            simp only [ownA]
            have HS3 := Lib.hid (HS2.out.below ((Below.refl w2.heap.size w2).alloc (Nat.le_refl _) (.cells #[.int .i64 ga, .int .i64 gn, .bool gt_] 32)))
            clear HS2
            go_wp2_with fail
            go_roundg (os.length - (j + 1))
            case measure => omega
            case rel => exact ⟨j + 1, vs', wr_, gt, hlt, rfl, by go_num, h50, HI', HS3⟩

      by_cases hk1 : xk = 1
      · subst hk1
        have hiR := fun hz => inv_read HI.out.1 xa hz
        have hbR := fun hz => rd_bad (vs := vs) (a := xa) hz
        have hlR := len_rd vs xa
        have hC := cRead p vs xa _ _ HSx.out HI.out.1.ok (by have := HI.out.2; omega)
        generalize rdV vs xa = r at hiR hbR hlR hC
        obtain ⟨vs', x, y, z⟩ := r
        have hlR' : vs'.length = vs.length := hlR
        have HC := Lib.hid hC
        have HiR := Lib.hid hiR
        have HbR := Lib.hid hbR
        clear hC hiR hbR hlR HSx
        go_wp2_with fail
        refine HC.out.mono ?_
        rintro e w1 ⟨rfl, hS⟩
        obtain ⟨A', c', e, _, _, hrW⟩ := hS.s2.own_.slv'
        rw [rwG_len] at e
        injection e with e1 _ e3
        subst e1 e3
        have hb := hS.s5.blk_
        have k1 := hb.at_ 1 rfl
        have HO := Lib.hid (lown wr_ A8 c8 xa w1 hrW hc8 (by have := HI.out.2; omega))
        have HS1 := Lib.hid hS
        clear hS hb hrW HC
        by_cases hz : z = 0
        · subst hz
          rcases HiR.out rfl with ⟨g, hg, hx, hy, hInv⟩ | ⟨hg, hInv⟩
          · obtain ⟨ga, gn, gt_⟩ := g
            have hx' : x = gn := hx
            have hy' : y = gt_ := hy
            subst hx' hy'
            rw [hg] at HO
            have HI' := Lib.hid (show Inv vs' wr_ gt ∧ vs'.length ≤ j + 1 + 1 ∧ wr_.length ≤ j + 1 ∧ gt.length ≤ j + 1 from ⟨hInv, by have := HI.out.2; omega⟩)
            clear hg hInv hx hy HiR HbR HI
            go_wp2_with fail
            refine HO.out.mono ?_
            rintro e w2 ⟨rfl, hb2⟩
            have HS2 := Lib.hid (HS1.out.below hb2).s5.drop
            have HS3 := Lib.hid (HS2.out.below ((Below.refl w2.heap.size w2).alloc (Nat.le_refl _) (.cells #[.int .i64 ga, .int .i64 x, .bool y] 32)))
            clear hb2 HO HS1 k1 HS2
            simp only [ownA]
            go_wp2_with fail
            go_roundg (os.length - (j + 1))
            case measure => omega
            case rel => exact ⟨j + 1, vs', wr_, gt, hlt, rfl, by go_num, h50, HI', HS3⟩
          · rw [hg] at HO
            have HI' := Lib.hid (show Inv vs' wr_ (gt ++ ([⟨xa, x, y⟩] : Gs)) ∧ vs'.length ≤ j + 1 + 1 ∧ wr_.length ≤ j + 1 ∧ (gt ++ ([⟨xa, x, y⟩] : Gs)).length ≤ j + 1 from ⟨hInv, by have := HI.out.2; rw [List.length_append]; simp only [List.length_singleton]; omega⟩)
            have HBig := Lib.hid (show ((rwG gt).length + 1) * 24 ≤ 140737488355328 from by rw [rwG_len]; have := HI.out.2; omega)
            clear hg hInv HiR HbR HI
            go_wp2_with fail
            refine HO.out.mono ?_
            rintro e w2 ⟨rfl, hb2⟩
            have HS3 := Lib.hid ((HS1.out.below hb2).below ((Below.refl w2.heap.size w2).alloc (Nat.le_refl _) (.cells #[.int .i64 0, .int .i64 0, .bool false] 32)))
            have k2 := HS3.out.s5.blk_.at_ 1 rfl
            clear hb2 HO HS1 k1
            simp only [ownA]
            go_wp2_with (at_builtin; go_loud (refine append1L (W := w2.alloc (.cells #[.int .i64 0, .int .i64 0, .bool false] 32)) 0 32 3 24 (.agg #[.int .i64 0, .int .i64 0, .bool false]) rfl (.tmp 78) (.tmp 84) 25 rfl Tryd.underlying25 infoG zeroG (by decide) (by decide) u9 (rwG gt) [.int .i64 xa, .int .i64 x, .bool y] rfl (w2.heap.size + 1) rfl (alloc_sz _ _) rfl (enG_one ⟨xa, x, y⟩) HS3.out.s3.own_ (Nat.zero_le _) HBig.out ?_); intro v1 w3 ho1 hf1 hl1)
            have hS4 := (HS3.out.s3.grown ho1 hf1 hl1).t3.s5.drop
            rw [show rwG gt ++ [[.int .i64 xa, .int .i64 x, .bool y]] = rwG (gt ++ ([⟨xa, x, y⟩] : Gs)) from by simp [rwG, enG]] at hS4
            have HS4 := Lib.hid hS4
            clear hS4 ho1 hf1 hl1 HS3 k2
            go_wp2_with fail
            go_roundg (os.length - (j + 1))
            case measure => omega
            case rel => exact ⟨j + 1, vs', wr_, gt ++ ([⟨xa, x, y⟩] : Gs), hlt, rfl, by go_num, h50, HI', HS4⟩
        · have hv : vs' = vs := HbR.out hz
          subst hv
          have hzb : (z == 0) = false := by simpa using hz
          have HI' := Lib.hid (show Inv vs' wr_ gt ∧ vs'.length ≤ j + 1 + 1 ∧ wr_.length ≤ j + 1 ∧ gt.length ≤ j + 1 from ⟨HI.out.1, by have := HI.out.2; omega⟩)
          clear hz HiR HbR HI
          go_wp2_with fail
          refine HO.out.mono ?_
          rintro e w2 ⟨rfl, hb2⟩
          have HS2 := Lib.hid (HS1.out.below hb2).s5.drop
          clear hb2 HO HS1 k1
          cases ownG wr_ xa with
          | none =>
            simp only [ownA]
            have HS3 := Lib.hid (HS2.out.below ((Below.refl w2.heap.size w2).alloc (Nat.le_refl _) (.cells #[.int .i64 0, .int .i64 0, .bool false] 32)))
            clear HS2
            go_wp2_with fail
            go_roundg (os.length - (j + 1))
            case measure => omega
            case rel => exact ⟨j + 1, vs', wr_, gt, hlt, rfl, by go_num, h50, HI', HS3⟩
          | some g =>
            obtain ⟨ga, gn, gt_⟩ := g
            simp only [ownA]
            have HS3 := Lib.hid (HS2.out.below ((Below.refl w2.heap.size w2).alloc (Nat.le_refl _) (.cells #[.int .i64 ga, .int .i64 gn, .bool gt_] 32)))
            clear HS2
            go_wp2_with fail
            go_roundg (os.length - (j + 1))
            case measure => omega
            case rel => exact ⟨j + 1, vs', wr_, gt, hlt, rfl, by go_num, h50, HI', HS3⟩

      by_cases hk2 : xk = 2
      · subst hk2
        cases xt with
        | true =>
          have hiW := fun hz => inv_write HI.out.1 xa xn true hz
          have hbW := fun hz => wr_bad (vs := vs) (a := xa) (n := xn) (th := true) hz
          have hlW := len_wr vs xa xn true
          have hC := cWrite p vs xa xn true _ _ HSx.out HI.out.1.ok (by have := HI.out.2; omega)
          generalize wrV vs xa xn true = r at hiW hbW hlW hC
          obtain ⟨vs', z⟩ := r
          have hlW' : vs'.length ≤ vs.length + 1 := hlW
          have HC := Lib.hid hC
          have HiW := Lib.hid hiW
          have HbW := Lib.hid hbW
          have hb0 := HSx.out.s5.blk_
          have a1 := hb0.at_ 1 rfl
          have a2 := hb0.at_ 2 rfl
          have a3 := hb0.at_ 3 rfl
          clear hC hiW hbW hlW HSx hb0
          go_wp2_with fail
          refine HC.out.mono ?_
          rintro e w1 ⟨rfl, hS⟩
          have hb := hS.s5.blk_
          have k1 := hb.at_ 1 rfl
          have k2 := hb.at_ 2 rfl
          have k3 := hb.at_ 3 rfl
          have HS1 := Lib.hid hS
          clear hS hb HC a1 a2 a3
          by_cases hz : z = 0
          · subst hz
            have HI' := Lib.hid (show Inv vs' (outG wr_ xa ++ ([⟨xa, xn, true⟩] : Gs)) gt ∧ vs'.length ≤ j + 1 + 1 ∧ (outG wr_ xa ++ ([⟨xa, xn, true⟩] : Gs)).length ≤ j + 1 ∧ gt.length ≤ j + 1 from ⟨HiW.out rfl, by omega, by have := HI.out.2; have h9 : (outG wr_ xa).length ≤ wr_.length := List.length_filter_le _ _; rw [List.length_append]; simp only [List.length_singleton]; omega, by have := HI.out.2; omega⟩)
            have hwl : wr_.length ≤ 1000 := by have := HI.out.2; omega
            have HBig := Lib.hid (show ((rwG (outG wr_ xa)).length + 1) * 24 ≤ 140737488355328 from by rw [rwG_len]; have h9 : (outG wr_ xa).length ≤ wr_.length := List.length_filter_le _ _; omega)
            have k3n := up1 k3 (.cells #[.int .i64 xa, .int .i64 xn, .bool true] 32)
            clear HiW HbW HI
            go_wp2_with fail
            have hSz := (HS1.out.alloc #[.int .i64 xa, .int .i64 xn, .bool true] 32).s3
            have hBz := HS1.out.s5.blk_.alloc (.cells #[.int .i64 xa, .int .i64 xn, .bool true] 32)
            have hWz := Blk.new w1 #[.int .i64 xa, .int .i64 xn, .bool true] 32
            have HSz := Lib.hid hSz
            clear hSz k1 k2 k3 k3n HS1
            generalize w1.alloc (.cells #[.int .i64 xa, .int .i64 xn, .bool true] 32) = wz at HSz hBz hWz ⊢
            have q0 : wz.cell? ⟨w1.heap.size, 0, none⟩ = some (.int .i64 xa) := hWz.at_ 0 rfl
            have q1 : wz.cell? ⟨w1.heap.size, 1, none⟩ = some (.int .i64 xn) := hWz.at_ 1 rfl
            have q2 : wz.cell? ⟨w1.heap.size, 2, none⟩ = some (.bool true) := hWz.at_ 2 rfl
            have q3 : wz.cell? ⟨wr.heap.size, 1, none⟩ = some (.int .i64 xa) := hBz.at_ 1 rfl
            clear hBz hWz
            have hL : ∀ m, Calls Tryd.prog 11 #[.slice A8 wr_.length c8, .int .i64 xa] (wz.drewN m) (fun e x => ∃ v1, e = .returned v1 ∧ (x.cell? ⟨w1.heap.size, 0, none⟩ = some (.int .i64 xa) ∧ x.cell? ⟨w1.heap.size, 1, none⟩ = some (.int .i64 xn) ∧ x.cell? ⟨w1.heap.size, 2, none⟩ = some (.bool true) ∧ x.cell? ⟨wr.heap.size, 1, none⟩ = some (.int .i64 xa)) ∧ Hid (Sat (ownR v1 32 3 (rwG (outG wr_ xa)) :: [ownR (.slice A8 wr_.length c8) 32 3 (rwG wr_), blk w1.heap.size #[.int .i64 xa, .int .i64 xn, .bool true] 32, chP p vs', errP, ownR u9 32 3 (rwG gt), old w, blk wr.heap.size #[.int .i64 2, .int .i64 xa, .int .i64 xn, .bool true] 27]) x)) := fun m => (lout wr_ (.slice A8 wr_.length c8) xa _ _ (HSz.out.drewN m) hwl).mono fun e x ⟨v1, h1, h2⟩ => by
              have b1 := h2.s2.blk_
              have b2 := h2.drop.drop.s5.blk_
              exact ⟨v1, h1, ⟨b1.at_ 0 rfl, b1.at_ 1 rfl, b1.at_ 2 rfl, b2.at_ 1 rfl⟩, Lib.hid h2⟩
            have HL := Lib.hid hL
            have hG : ∀ v x rows, Sat (ownR v 32 3 rows :: [ownR (.slice A8 wr_.length c8) 32 3 (rwG wr_), blk w1.heap.size #[.int .i64 xa, .int .i64 xn, .bool true] 32, chP p vs', errP, ownR u9 32 3 (rwG gt), old w, blk wr.heap.size #[.int .i64 2, .int .i64 xa, .int .i64 xn, .bool true] 27]) x → (x.cell? ⟨w1.heap.size, 0, none⟩ = some (.int .i64 xa) ∧ x.cell? ⟨w1.heap.size, 1, none⟩ = some (.int .i64 xn) ∧ x.cell? ⟨w1.heap.size, 2, none⟩ = some (.bool true) ∧ x.cell? ⟨wr.heap.size, 1, none⟩ = some (.int .i64 xa)) := fun v x rows h2 => by
              have b1 := h2.s2.blk_
              have b2 := h2.drop.drop.s5.blk_
              exact ⟨b1.at_ 0 rfl, b1.at_ 1 rfl, b1.at_ 2 rfl, b2.at_ 1 rfl⟩
            have HG := Lib.hid hG
            clear hG
            clear hL
            have hL2 : Calls Tryd.prog 11 #[.slice A8 wr_.length c8, .int .i64 xa] ((wz.drewN 1).alloc (.cells #[.int .i64 xa, .int .i64 xn, .bool true] 32)) (fun e x => ∃ v1, e = .returned v1 ∧ (x.cell? ⟨w1.heap.size, 0, none⟩ = some (.int .i64 xa) ∧ x.cell? ⟨w1.heap.size, 1, none⟩ = some (.int .i64 xn) ∧ x.cell? ⟨w1.heap.size, 2, none⟩ = some (.bool true) ∧ x.cell? ⟨wr.heap.size, 1, none⟩ = some (.int .i64 xa)) ∧ Hid (Sat (ownR v1 32 3 (rwG (outG wr_ xa)) :: [ownR (.slice A8 wr_.length c8) 32 3 (rwG wr_), blk w1.heap.size #[.int .i64 xa, .int .i64 xn, .bool true] 32, blk wz.heap.size #[.int .i64 xa, .int .i64 xn, .bool true] 32, chP p vs', errP, ownR u9 32 3 (rwG gt), old w, blk wr.heap.size #[.int .i64 2, .int .i64 xa, .int .i64 xn, .bool true] 27]) x)) := (lout wr_ (.slice A8 wr_.length c8) xa _ _ (((HSz.out.drewN 1).alloc #[.int .i64 xa, .int .i64 xn, .bool true] 32).t2) hwl).mono fun e x ⟨v1, h1, h2⟩ => by
              have b1 := h2.s2.blk_
              have b2 := h2.drop.drop.drop.s5.blk_
              exact ⟨v1, h1, ⟨b1.at_ 0 rfl, b1.at_ 1 rfl, b1.at_ 2 rfl, b2.at_ 1 rfl⟩, Lib.hid h2⟩
            have HL2 := Lib.hid hL2
            clear hL2
            have hG2 : ∀ v x rows, Sat (ownR v 32 3 rows :: [ownR (.slice A8 wr_.length c8) 32 3 (rwG wr_), blk w1.heap.size #[.int .i64 xa, .int .i64 xn, .bool true] 32, blk wz.heap.size #[.int .i64 xa, .int .i64 xn, .bool true] 32, chP p vs', errP, ownR u9 32 3 (rwG gt), old w, blk wr.heap.size #[.int .i64 2, .int .i64 xa, .int .i64 xn, .bool true] 27]) x → (x.cell? ⟨w1.heap.size, 0, none⟩ = some (.int .i64 xa) ∧ x.cell? ⟨w1.heap.size, 1, none⟩ = some (.int .i64 xn) ∧ x.cell? ⟨w1.heap.size, 2, none⟩ = some (.bool true) ∧ x.cell? ⟨wr.heap.size, 1, none⟩ = some (.int .i64 xa)) := fun v x rows h2 => by
              have b1 := h2.s2.blk_
              have b2 := h2.drop.drop.drop.s5.blk_
              exact ⟨b1.at_ 0 rfl, b1.at_ 1 rfl, b1.at_ 2 rfl, b2.at_ 1 rfl⟩
            have HG2 := Lib.hid hG2
            clear hG2
            have k0 : (wz.drewN 1).cell? ⟨w1.heap.size, 0, none⟩ = some (.int .i64 xa) ∧ (wz.drewN 1).cell? ⟨w1.heap.size, 1, none⟩ = some (.int .i64 xn) ∧ (wz.drewN 1).cell? ⟨w1.heap.size, 2, none⟩ = some (.bool true) ∧ (wz.drewN 1).cell? ⟨wr.heap.size, 1, none⟩ = some (.int .i64 xa) := ⟨q0, q1, q2, q3⟩
            clear q0 q1 q2 q3
            go_region_held3 (fun x => x.cell? ⟨w1.heap.size, 0, none⟩ = some (.int .i64 xa) ∧ x.cell? ⟨w1.heap.size, 1, none⟩ = some (.int .i64 xn) ∧ x.cell? ⟨w1.heap.size, 2, none⟩ = some (.bool true) ∧ x.cell? ⟨wr.heap.size, 1, none⟩ = some (.int .i64 xa)) ((first | assumption | exact k0 | exact ⟨up1 hx1.1 _, up1 hx1.2.1 _, up1 hx1.2.2.1 _, up1 hx1.2.2.2 _⟩ | exact ⟨up1 k0.1 _, up1 k0.2.1 _, up1 k0.2.2.1 _, up1 k0.2.2.2 _⟩)) ((first | (go_at_call 11; refine HL2.out.mono ?_; rintro e x1 ⟨v1, rfl, hx1, hSa⟩) | (go_at_call 11; refine (HL.out _).mono ?_; rintro e x1 ⟨v1, rfl, hx1, hSa⟩) | (refine step_append1 0 32 3 24 (.agg #[.int .i64 0, .int .i64 0, .bool false]) (by rfl) _ _ _ (by rfl) Tryd.underlying25 infoG zeroG (by decide) (by decide) v1 (rwG (outG wr_ xa)) [.int .i64 xa, .int .i64 xn, .bool true] (by rfl) x1.heap.size (by rfl) (heap_alloc_new x1 _) rfl (enG_one ⟨xa, xn, true⟩) (hSa.out.below ((Below.refl x1.heap.size x1).alloc (Nat.le_refl _) _)).own_ (Nat.zero_le _) HBig.out ?_; intro v2 x2 ho2 hf2 hl2; have hS2 := Lib.hid ((hSa.out.below ((Below.refl x1.heap.size x1).alloc (Nat.le_refl _) _)).grown ho2 hf2 hl2); have hx2 := HG.out _ _ _ hS2.out) | (refine step_append1 0 32 3 24 (.agg #[.int .i64 0, .int .i64 0, .bool false]) (by rfl) _ _ _ (by rfl) Tryd.underlying25 infoG zeroG (by decide) (by decide) v1 (rwG (outG wr_ xa)) [.int .i64 xa, .int .i64 xn, .bool true] (by rfl) wz.heap.size (by rfl) hSa.out.s3.blk_ rfl (enG_one ⟨xa, xn, true⟩) hSa.out.own_ (Nat.zero_le _) HBig.out ?_; intro v2 x2 ho2 hf2 hl2; have hx2 := HG2.out _ _ _ (hSa.out.grown ho2 hf2 hl2); have hS2 := Lib.hid (hSa.out.grown ho2 hf2 hl2).s3.drop)))
            all_goals
              have hS3 := hS2.out.s1.drop.s1.drop.t2.s5.drop
              rw [show rwG (outG wr_ xa) ++ [[.int .i64 xa, .int .i64 xn, .bool true]] = rwG (outG wr_ xa ++ ([⟨xa, xn, true⟩] : Gs)) from by simp [rwG, enG]] at hS3
              have HS3 := Lib.hid hS3
              clear hS3 hS2 hSa hx1 hx2 ho2 hf2 hl2 HL HG k0 HL2 HG2
              go_wp2_with fail
              go_roundg (os.length - (j + 1))
              case measure => omega
              case rel => exact ⟨j + 1, vs', outG wr_ xa ++ ([⟨xa, xn, true⟩] : Gs), gt, hlt, rfl, by go_num, h50, HI', HS3⟩

          · have hv : vs' = vs := HbW.out hz
            subst hv
            have hzb : (z == 0) = false := by simpa using hz
            have HI' := Lib.hid (show Inv vs' wr_ gt ∧ vs'.length ≤ j + 1 + 1 ∧ wr_.length ≤ j + 1 ∧ gt.length ≤ j + 1 from ⟨HI.out.1, by have := HI.out.2; omega⟩)
            have HS2 := Lib.hid HS1.out.s5.drop
            clear hz HiW HbW HI HS1
            go_wp2_with fail
            go_roundg (os.length - (j + 1))
            case measure => omega
            case rel => exact ⟨j + 1, vs', wr_, gt, hlt, rfl, by go_num, h50, HI', HS2⟩


        | false =>
          have hiW := fun hz => inv_write HI.out.1 xa xn false hz
          have hbW := fun hz => wr_bad (vs := vs) (a := xa) (n := xn) (th := false) hz
          have hlW := len_wr vs xa xn false
          have hC := cWrite p vs xa xn false _ _ HSx.out HI.out.1.ok (by have := HI.out.2; omega)
          generalize wrV vs xa xn false = r at hiW hbW hlW hC
          obtain ⟨vs', z⟩ := r
          have hlW' : vs'.length ≤ vs.length + 1 := hlW
          have HC := Lib.hid hC
          have HiW := Lib.hid hiW
          have HbW := Lib.hid hbW
          have hb0 := HSx.out.s5.blk_
          have a1 := hb0.at_ 1 rfl
          have a2 := hb0.at_ 2 rfl
          have a3 := hb0.at_ 3 rfl
          clear hC hiW hbW hlW HSx hb0
          go_wp2_with fail
          refine HC.out.mono ?_
          rintro e w1 ⟨rfl, hS⟩
          have hb := hS.s5.blk_
          have k1 := hb.at_ 1 rfl
          have k2 := hb.at_ 2 rfl
          have k3 := hb.at_ 3 rfl
          have HS1 := Lib.hid hS
          clear hS hb HC a1 a2 a3
          by_cases hz : z = 0
          · subst hz
            have HI' := Lib.hid (show Inv vs' (outG wr_ xa ++ ([⟨xa, 0, false⟩] : Gs)) gt ∧ vs'.length ≤ j + 1 + 1 ∧ (outG wr_ xa ++ ([⟨xa, 0, false⟩] : Gs)).length ≤ j + 1 ∧ gt.length ≤ j + 1 from ⟨HiW.out rfl, by omega, by have := HI.out.2; have h9 : (outG wr_ xa).length ≤ wr_.length := List.length_filter_le _ _; rw [List.length_append]; simp only [List.length_singleton]; omega, by have := HI.out.2; omega⟩)
            have hwl : wr_.length ≤ 1000 := by have := HI.out.2; omega
            have HBig := Lib.hid (show ((rwG (outG wr_ xa)).length + 1) * 24 ≤ 140737488355328 from by rw [rwG_len]; have h9 : (outG wr_ xa).length ≤ wr_.length := List.length_filter_le _ _; omega)
            have k3n := up1 k3 (.cells #[.int .i64 xa, .int .i64 xn, .bool false] 32)
            clear HiW HbW HI
            go_wp2_with fail
            have hSz := (HS1.out.alloc #[.int .i64 xa, .int .i64 0, .bool false] 32).s3
            have hBz := HS1.out.s5.blk_.alloc (.cells #[.int .i64 xa, .int .i64 0, .bool false] 32)
            have hWz := Blk.new w1 #[.int .i64 xa, .int .i64 0, .bool false] 32
            have HSz := Lib.hid hSz
            clear hSz k1 k2 k3 k3n HS1
            generalize w1.alloc (.cells #[.int .i64 xa, .int .i64 0, .bool false] 32) = wz at HSz hBz hWz ⊢
            have q0 : wz.cell? ⟨w1.heap.size, 0, none⟩ = some (.int .i64 xa) := hWz.at_ 0 rfl
            have q1 : wz.cell? ⟨w1.heap.size, 1, none⟩ = some (.int .i64 0) := hWz.at_ 1 rfl
            have q2 : wz.cell? ⟨w1.heap.size, 2, none⟩ = some (.bool false) := hWz.at_ 2 rfl
            have q3 : wz.cell? ⟨wr.heap.size, 1, none⟩ = some (.int .i64 xa) := hBz.at_ 1 rfl
            clear hBz hWz
            have hL : ∀ m, Calls Tryd.prog 11 #[.slice A8 wr_.length c8, .int .i64 xa] (wz.drewN m) (fun e x => ∃ v1, e = .returned v1 ∧ (x.cell? ⟨w1.heap.size, 0, none⟩ = some (.int .i64 xa) ∧ x.cell? ⟨w1.heap.size, 1, none⟩ = some (.int .i64 0) ∧ x.cell? ⟨w1.heap.size, 2, none⟩ = some (.bool false) ∧ x.cell? ⟨wr.heap.size, 1, none⟩ = some (.int .i64 xa)) ∧ Hid (Sat (ownR v1 32 3 (rwG (outG wr_ xa)) :: [ownR (.slice A8 wr_.length c8) 32 3 (rwG wr_), blk w1.heap.size #[.int .i64 xa, .int .i64 0, .bool false] 32, chP p vs', errP, ownR u9 32 3 (rwG gt), old w, blk wr.heap.size #[.int .i64 2, .int .i64 xa, .int .i64 xn, .bool false] 27]) x)) := fun m => (lout wr_ (.slice A8 wr_.length c8) xa _ _ (HSz.out.drewN m) hwl).mono fun e x ⟨v1, h1, h2⟩ => by
              have b1 := h2.s2.blk_
              have b2 := h2.drop.drop.s5.blk_
              exact ⟨v1, h1, ⟨b1.at_ 0 rfl, b1.at_ 1 rfl, b1.at_ 2 rfl, b2.at_ 1 rfl⟩, Lib.hid h2⟩
            have HL := Lib.hid hL
            have hG : ∀ v x rows, Sat (ownR v 32 3 rows :: [ownR (.slice A8 wr_.length c8) 32 3 (rwG wr_), blk w1.heap.size #[.int .i64 xa, .int .i64 0, .bool false] 32, chP p vs', errP, ownR u9 32 3 (rwG gt), old w, blk wr.heap.size #[.int .i64 2, .int .i64 xa, .int .i64 xn, .bool false] 27]) x → (x.cell? ⟨w1.heap.size, 0, none⟩ = some (.int .i64 xa) ∧ x.cell? ⟨w1.heap.size, 1, none⟩ = some (.int .i64 0) ∧ x.cell? ⟨w1.heap.size, 2, none⟩ = some (.bool false) ∧ x.cell? ⟨wr.heap.size, 1, none⟩ = some (.int .i64 xa)) := fun v x rows h2 => by
              have b1 := h2.s2.blk_
              have b2 := h2.drop.drop.s5.blk_
              exact ⟨b1.at_ 0 rfl, b1.at_ 1 rfl, b1.at_ 2 rfl, b2.at_ 1 rfl⟩
            have HG := Lib.hid hG
            clear hG
            clear hL
            have hL2 : Calls Tryd.prog 11 #[.slice A8 wr_.length c8, .int .i64 xa] ((wz.drewN 1).alloc (.cells #[.int .i64 xa, .int .i64 0, .bool false] 32)) (fun e x => ∃ v1, e = .returned v1 ∧ (x.cell? ⟨w1.heap.size, 0, none⟩ = some (.int .i64 xa) ∧ x.cell? ⟨w1.heap.size, 1, none⟩ = some (.int .i64 0) ∧ x.cell? ⟨w1.heap.size, 2, none⟩ = some (.bool false) ∧ x.cell? ⟨wr.heap.size, 1, none⟩ = some (.int .i64 xa)) ∧ Hid (Sat (ownR v1 32 3 (rwG (outG wr_ xa)) :: [ownR (.slice A8 wr_.length c8) 32 3 (rwG wr_), blk w1.heap.size #[.int .i64 xa, .int .i64 0, .bool false] 32, blk wz.heap.size #[.int .i64 xa, .int .i64 0, .bool false] 32, chP p vs', errP, ownR u9 32 3 (rwG gt), old w, blk wr.heap.size #[.int .i64 2, .int .i64 xa, .int .i64 xn, .bool false] 27]) x)) := (lout wr_ (.slice A8 wr_.length c8) xa _ _ (((HSz.out.drewN 1).alloc #[.int .i64 xa, .int .i64 0, .bool false] 32).t2) hwl).mono fun e x ⟨v1, h1, h2⟩ => by
              have b1 := h2.s2.blk_
              have b2 := h2.drop.drop.drop.s5.blk_
              exact ⟨v1, h1, ⟨b1.at_ 0 rfl, b1.at_ 1 rfl, b1.at_ 2 rfl, b2.at_ 1 rfl⟩, Lib.hid h2⟩
            have HL2 := Lib.hid hL2
            clear hL2
            have hG2 : ∀ v x rows, Sat (ownR v 32 3 rows :: [ownR (.slice A8 wr_.length c8) 32 3 (rwG wr_), blk w1.heap.size #[.int .i64 xa, .int .i64 0, .bool false] 32, blk wz.heap.size #[.int .i64 xa, .int .i64 0, .bool false] 32, chP p vs', errP, ownR u9 32 3 (rwG gt), old w, blk wr.heap.size #[.int .i64 2, .int .i64 xa, .int .i64 xn, .bool false] 27]) x → (x.cell? ⟨w1.heap.size, 0, none⟩ = some (.int .i64 xa) ∧ x.cell? ⟨w1.heap.size, 1, none⟩ = some (.int .i64 0) ∧ x.cell? ⟨w1.heap.size, 2, none⟩ = some (.bool false) ∧ x.cell? ⟨wr.heap.size, 1, none⟩ = some (.int .i64 xa)) := fun v x rows h2 => by
              have b1 := h2.s2.blk_
              have b2 := h2.drop.drop.drop.s5.blk_
              exact ⟨b1.at_ 0 rfl, b1.at_ 1 rfl, b1.at_ 2 rfl, b2.at_ 1 rfl⟩
            have HG2 := Lib.hid hG2
            clear hG2
            have k0 : (wz.drewN 1).cell? ⟨w1.heap.size, 0, none⟩ = some (.int .i64 xa) ∧ (wz.drewN 1).cell? ⟨w1.heap.size, 1, none⟩ = some (.int .i64 0) ∧ (wz.drewN 1).cell? ⟨w1.heap.size, 2, none⟩ = some (.bool false) ∧ (wz.drewN 1).cell? ⟨wr.heap.size, 1, none⟩ = some (.int .i64 xa) := ⟨q0, q1, q2, q3⟩
            clear q0 q1 q2 q3
            go_region_held3 (fun x => x.cell? ⟨w1.heap.size, 0, none⟩ = some (.int .i64 xa) ∧ x.cell? ⟨w1.heap.size, 1, none⟩ = some (.int .i64 0) ∧ x.cell? ⟨w1.heap.size, 2, none⟩ = some (.bool false) ∧ x.cell? ⟨wr.heap.size, 1, none⟩ = some (.int .i64 xa)) ((first | assumption | exact k0 | exact ⟨up1 hx1.1 _, up1 hx1.2.1 _, up1 hx1.2.2.1 _, up1 hx1.2.2.2 _⟩ | exact ⟨up1 k0.1 _, up1 k0.2.1 _, up1 k0.2.2.1 _, up1 k0.2.2.2 _⟩)) ((first | (go_at_call 11; refine HL2.out.mono ?_; rintro e x1 ⟨v1, rfl, hx1, hSa⟩) | (go_at_call 11; refine (HL.out _).mono ?_; rintro e x1 ⟨v1, rfl, hx1, hSa⟩) | (refine step_append1 0 32 3 24 (.agg #[.int .i64 0, .int .i64 0, .bool false]) (by rfl) _ _ _ (by rfl) Tryd.underlying25 infoG zeroG (by decide) (by decide) v1 (rwG (outG wr_ xa)) [.int .i64 xa, .int .i64 0, .bool false] (by rfl) x1.heap.size (by rfl) (heap_alloc_new x1 _) rfl (enG_one ⟨xa, 0, false⟩) (hSa.out.below ((Below.refl x1.heap.size x1).alloc (Nat.le_refl _) _)).own_ (Nat.zero_le _) HBig.out ?_; intro v2 x2 ho2 hf2 hl2; have hS2 := Lib.hid ((hSa.out.below ((Below.refl x1.heap.size x1).alloc (Nat.le_refl _) _)).grown ho2 hf2 hl2); have hx2 := HG.out _ _ _ hS2.out) | (refine step_append1 0 32 3 24 (.agg #[.int .i64 0, .int .i64 0, .bool false]) (by rfl) _ _ _ (by rfl) Tryd.underlying25 infoG zeroG (by decide) (by decide) v1 (rwG (outG wr_ xa)) [.int .i64 xa, .int .i64 0, .bool false] (by rfl) wz.heap.size (by rfl) hSa.out.s3.blk_ rfl (enG_one ⟨xa, 0, false⟩) hSa.out.own_ (Nat.zero_le _) HBig.out ?_; intro v2 x2 ho2 hf2 hl2; have hx2 := HG2.out _ _ _ (hSa.out.grown ho2 hf2 hl2); have hS2 := Lib.hid (hSa.out.grown ho2 hf2 hl2).s3.drop)))
            all_goals
              have hS3 := hS2.out.s1.drop.s1.drop.t2.s5.drop
              rw [show rwG (outG wr_ xa) ++ [[.int .i64 xa, .int .i64 0, .bool false]] = rwG (outG wr_ xa ++ ([⟨xa, 0, false⟩] : Gs)) from by simp [rwG, enG]] at hS3
              have HS3 := Lib.hid hS3
              clear hS3 hS2 hSa hx1 hx2 ho2 hf2 hl2 HL HG k0 HL2 HG2
              go_wp2_with fail
              go_roundg (os.length - (j + 1))
              case measure => omega
              case rel => exact ⟨j + 1, vs', outG wr_ xa ++ ([⟨xa, 0, false⟩] : Gs), gt, hlt, rfl, by go_num, h50, HI', HS3⟩

          · have hv : vs' = vs := HbW.out hz
            subst hv
            have hzb : (z == 0) = false := by simpa using hz
            have HI' := Lib.hid (show Inv vs' wr_ gt ∧ vs'.length ≤ j + 1 + 1 ∧ wr_.length ≤ j + 1 ∧ gt.length ≤ j + 1 from ⟨HI.out.1, by have := HI.out.2; omega⟩)
            have HS2 := Lib.hid HS1.out.s5.drop
            clear hz HiW HbW HI HS1
            go_wp2_with fail
            go_roundg (os.length - (j + 1))
            case measure => omega
            case rel => exact ⟨j + 1, vs', wr_, gt, hlt, rfl, by go_num, h50, HI', HS2⟩


      by_cases hk3 : xk = 3
      · subst hk3
        cases xt with
        | true =>
          have hiW := fun hz => inv_write HI.out.1 xa xn true hz
          have hbW := fun hz => wr_bad (vs := vs) (a := xa) (n := xn) (th := true) hz
          have hlW := len_wr vs xa xn true
          have hC := cWrite p vs xa xn true _ _ HSx.out HI.out.1.ok (by have := HI.out.2; omega)
          generalize wrV vs xa xn true = r at hiW hbW hlW hC
          obtain ⟨vs', z⟩ := r
          have hlW' : vs'.length ≤ vs.length + 1 := hlW
          have HC := Lib.hid hC
          have HiW := Lib.hid hiW
          have HbW := Lib.hid hbW
          have hb0 := HSx.out.s5.blk_
          have a1 := hb0.at_ 1 rfl
          have a2 := hb0.at_ 2 rfl
          have a3 := hb0.at_ 3 rfl
          clear hC hiW hbW hlW HSx hb0
          go_wp2_with fail
          refine HC.out.mono ?_
          rintro e w1 ⟨rfl, hS⟩
          have hb := hS.s5.blk_
          have k1 := hb.at_ 1 rfl
          have k2 := hb.at_ 2 rfl
          have k3 := hb.at_ 3 rfl
          have HS1 := Lib.hid hS
          clear hS hb HC a1 a2 a3
          by_cases hz : z = 0
          · subst hz
            have HI' := Lib.hid (show Inv vs' (outG wr_ xa ++ ([⟨xa, xn, true⟩] : Gs)) gt ∧ vs'.length ≤ j + 1 + 1 ∧ (outG wr_ xa ++ ([⟨xa, xn, true⟩] : Gs)).length ≤ j + 1 ∧ gt.length ≤ j + 1 from ⟨HiW.out rfl, by omega, by have := HI.out.2; have h9 : (outG wr_ xa).length ≤ wr_.length := List.length_filter_le _ _; rw [List.length_append]; simp only [List.length_singleton]; omega, by have := HI.out.2; omega⟩)
            have hwl : wr_.length ≤ 1000 := by have := HI.out.2; omega
            have HBig := Lib.hid (show ((rwG (outG wr_ xa)).length + 1) * 24 ≤ 140737488355328 from by rw [rwG_len]; have h9 : (outG wr_ xa).length ≤ wr_.length := List.length_filter_le _ _; omega)
            have k3n := up1 k3 (.cells #[.int .i64 xa, .int .i64 xn, .bool true] 32)
            clear HiW HbW HI
            go_wp2_with fail
            have hSz := (HS1.out.alloc #[.int .i64 xa, .int .i64 xn, .bool true] 32).s3
            have hBz := HS1.out.s5.blk_.alloc (.cells #[.int .i64 xa, .int .i64 xn, .bool true] 32)
            have hWz := Blk.new w1 #[.int .i64 xa, .int .i64 xn, .bool true] 32
            have HSz := Lib.hid hSz
            clear hSz k1 k2 k3 k3n HS1
            generalize w1.alloc (.cells #[.int .i64 xa, .int .i64 xn, .bool true] 32) = wz at HSz hBz hWz ⊢
            have q0 : wz.cell? ⟨w1.heap.size, 0, none⟩ = some (.int .i64 xa) := hWz.at_ 0 rfl
            have q1 : wz.cell? ⟨w1.heap.size, 1, none⟩ = some (.int .i64 xn) := hWz.at_ 1 rfl
            have q2 : wz.cell? ⟨w1.heap.size, 2, none⟩ = some (.bool true) := hWz.at_ 2 rfl
            have q3 : wz.cell? ⟨wr.heap.size, 1, none⟩ = some (.int .i64 xa) := hBz.at_ 1 rfl
            clear hBz hWz
            have hL : ∀ m, Calls Tryd.prog 11 #[.slice A8 wr_.length c8, .int .i64 xa] (wz.drewN m) (fun e x => ∃ v1, e = .returned v1 ∧ (x.cell? ⟨w1.heap.size, 0, none⟩ = some (.int .i64 xa) ∧ x.cell? ⟨w1.heap.size, 1, none⟩ = some (.int .i64 xn) ∧ x.cell? ⟨w1.heap.size, 2, none⟩ = some (.bool true) ∧ x.cell? ⟨wr.heap.size, 1, none⟩ = some (.int .i64 xa)) ∧ Hid (Sat (ownR v1 32 3 (rwG (outG wr_ xa)) :: [ownR (.slice A8 wr_.length c8) 32 3 (rwG wr_), blk w1.heap.size #[.int .i64 xa, .int .i64 xn, .bool true] 32, chP p vs', errP, ownR u9 32 3 (rwG gt), old w, blk wr.heap.size #[.int .i64 3, .int .i64 xa, .int .i64 xn, .bool true] 27]) x)) := fun m => (lout wr_ (.slice A8 wr_.length c8) xa _ _ (HSz.out.drewN m) hwl).mono fun e x ⟨v1, h1, h2⟩ => by
              have b1 := h2.s2.blk_
              have b2 := h2.drop.drop.s5.blk_
              exact ⟨v1, h1, ⟨b1.at_ 0 rfl, b1.at_ 1 rfl, b1.at_ 2 rfl, b2.at_ 1 rfl⟩, Lib.hid h2⟩
            have HL := Lib.hid hL
            have hG : ∀ v x rows, Sat (ownR v 32 3 rows :: [ownR (.slice A8 wr_.length c8) 32 3 (rwG wr_), blk w1.heap.size #[.int .i64 xa, .int .i64 xn, .bool true] 32, chP p vs', errP, ownR u9 32 3 (rwG gt), old w, blk wr.heap.size #[.int .i64 3, .int .i64 xa, .int .i64 xn, .bool true] 27]) x → (x.cell? ⟨w1.heap.size, 0, none⟩ = some (.int .i64 xa) ∧ x.cell? ⟨w1.heap.size, 1, none⟩ = some (.int .i64 xn) ∧ x.cell? ⟨w1.heap.size, 2, none⟩ = some (.bool true) ∧ x.cell? ⟨wr.heap.size, 1, none⟩ = some (.int .i64 xa)) := fun v x rows h2 => by
              have b1 := h2.s2.blk_
              have b2 := h2.drop.drop.s5.blk_
              exact ⟨b1.at_ 0 rfl, b1.at_ 1 rfl, b1.at_ 2 rfl, b2.at_ 1 rfl⟩
            have HG := Lib.hid hG
            clear hG
            clear hL
            have hL2 : Calls Tryd.prog 11 #[.slice A8 wr_.length c8, .int .i64 xa] ((wz.drewN 1).alloc (.cells #[.int .i64 xa, .int .i64 xn, .bool true] 32)) (fun e x => ∃ v1, e = .returned v1 ∧ (x.cell? ⟨w1.heap.size, 0, none⟩ = some (.int .i64 xa) ∧ x.cell? ⟨w1.heap.size, 1, none⟩ = some (.int .i64 xn) ∧ x.cell? ⟨w1.heap.size, 2, none⟩ = some (.bool true) ∧ x.cell? ⟨wr.heap.size, 1, none⟩ = some (.int .i64 xa)) ∧ Hid (Sat (ownR v1 32 3 (rwG (outG wr_ xa)) :: [ownR (.slice A8 wr_.length c8) 32 3 (rwG wr_), blk w1.heap.size #[.int .i64 xa, .int .i64 xn, .bool true] 32, blk wz.heap.size #[.int .i64 xa, .int .i64 xn, .bool true] 32, chP p vs', errP, ownR u9 32 3 (rwG gt), old w, blk wr.heap.size #[.int .i64 3, .int .i64 xa, .int .i64 xn, .bool true] 27]) x)) := (lout wr_ (.slice A8 wr_.length c8) xa _ _ (((HSz.out.drewN 1).alloc #[.int .i64 xa, .int .i64 xn, .bool true] 32).t2) hwl).mono fun e x ⟨v1, h1, h2⟩ => by
              have b1 := h2.s2.blk_
              have b2 := h2.drop.drop.drop.s5.blk_
              exact ⟨v1, h1, ⟨b1.at_ 0 rfl, b1.at_ 1 rfl, b1.at_ 2 rfl, b2.at_ 1 rfl⟩, Lib.hid h2⟩
            have HL2 := Lib.hid hL2
            clear hL2
            have hG2 : ∀ v x rows, Sat (ownR v 32 3 rows :: [ownR (.slice A8 wr_.length c8) 32 3 (rwG wr_), blk w1.heap.size #[.int .i64 xa, .int .i64 xn, .bool true] 32, blk wz.heap.size #[.int .i64 xa, .int .i64 xn, .bool true] 32, chP p vs', errP, ownR u9 32 3 (rwG gt), old w, blk wr.heap.size #[.int .i64 3, .int .i64 xa, .int .i64 xn, .bool true] 27]) x → (x.cell? ⟨w1.heap.size, 0, none⟩ = some (.int .i64 xa) ∧ x.cell? ⟨w1.heap.size, 1, none⟩ = some (.int .i64 xn) ∧ x.cell? ⟨w1.heap.size, 2, none⟩ = some (.bool true) ∧ x.cell? ⟨wr.heap.size, 1, none⟩ = some (.int .i64 xa)) := fun v x rows h2 => by
              have b1 := h2.s2.blk_
              have b2 := h2.drop.drop.drop.s5.blk_
              exact ⟨b1.at_ 0 rfl, b1.at_ 1 rfl, b1.at_ 2 rfl, b2.at_ 1 rfl⟩
            have HG2 := Lib.hid hG2
            clear hG2
            have k0 : (wz.drewN 1).cell? ⟨w1.heap.size, 0, none⟩ = some (.int .i64 xa) ∧ (wz.drewN 1).cell? ⟨w1.heap.size, 1, none⟩ = some (.int .i64 xn) ∧ (wz.drewN 1).cell? ⟨w1.heap.size, 2, none⟩ = some (.bool true) ∧ (wz.drewN 1).cell? ⟨wr.heap.size, 1, none⟩ = some (.int .i64 xa) := ⟨q0, q1, q2, q3⟩
            clear q0 q1 q2 q3
            go_region_held3 (fun x => x.cell? ⟨w1.heap.size, 0, none⟩ = some (.int .i64 xa) ∧ x.cell? ⟨w1.heap.size, 1, none⟩ = some (.int .i64 xn) ∧ x.cell? ⟨w1.heap.size, 2, none⟩ = some (.bool true) ∧ x.cell? ⟨wr.heap.size, 1, none⟩ = some (.int .i64 xa)) ((first | assumption | exact k0 | exact ⟨up1 hx1.1 _, up1 hx1.2.1 _, up1 hx1.2.2.1 _, up1 hx1.2.2.2 _⟩ | exact ⟨up1 k0.1 _, up1 k0.2.1 _, up1 k0.2.2.1 _, up1 k0.2.2.2 _⟩)) ((first | (go_at_call 11; refine HL2.out.mono ?_; rintro e x1 ⟨v1, rfl, hx1, hSa⟩) | (go_at_call 11; refine (HL.out _).mono ?_; rintro e x1 ⟨v1, rfl, hx1, hSa⟩) | (refine step_append1 0 32 3 24 (.agg #[.int .i64 0, .int .i64 0, .bool false]) (by rfl) _ _ _ (by rfl) Tryd.underlying25 infoG zeroG (by decide) (by decide) v1 (rwG (outG wr_ xa)) [.int .i64 xa, .int .i64 xn, .bool true] (by rfl) x1.heap.size (by rfl) (heap_alloc_new x1 _) rfl (enG_one ⟨xa, xn, true⟩) (hSa.out.below ((Below.refl x1.heap.size x1).alloc (Nat.le_refl _) _)).own_ (Nat.zero_le _) HBig.out ?_; intro v2 x2 ho2 hf2 hl2; have hS2 := Lib.hid ((hSa.out.below ((Below.refl x1.heap.size x1).alloc (Nat.le_refl _) _)).grown ho2 hf2 hl2); have hx2 := HG.out _ _ _ hS2.out) | (refine step_append1 0 32 3 24 (.agg #[.int .i64 0, .int .i64 0, .bool false]) (by rfl) _ _ _ (by rfl) Tryd.underlying25 infoG zeroG (by decide) (by decide) v1 (rwG (outG wr_ xa)) [.int .i64 xa, .int .i64 xn, .bool true] (by rfl) wz.heap.size (by rfl) hSa.out.s3.blk_ rfl (enG_one ⟨xa, xn, true⟩) hSa.out.own_ (Nat.zero_le _) HBig.out ?_; intro v2 x2 ho2 hf2 hl2; have hx2 := HG2.out _ _ _ (hSa.out.grown ho2 hf2 hl2); have hS2 := Lib.hid (hSa.out.grown ho2 hf2 hl2).s3.drop)))
            all_goals
              have hS3 := hS2.out.s1.drop.s1.drop.t2.s5.drop
              rw [show rwG (outG wr_ xa) ++ [[.int .i64 xa, .int .i64 xn, .bool true]] = rwG (outG wr_ xa ++ ([⟨xa, xn, true⟩] : Gs)) from by simp [rwG, enG]] at hS3
              have HS3 := Lib.hid hS3
              clear hS3 hS2 hSa hx1 hx2 ho2 hf2 hl2 HL HG k0 HL2 HG2
              go_wp2_with fail
              go_roundg (os.length - (j + 1))
              case measure => omega
              case rel => exact ⟨j + 1, vs', outG wr_ xa ++ ([⟨xa, xn, true⟩] : Gs), gt, hlt, rfl, by go_num, h50, HI', HS3⟩

          · have hv : vs' = vs := HbW.out hz
            subst hv
            have hzb : (z == 0) = false := by simpa using hz
            have HI' := Lib.hid (show Inv vs' wr_ gt ∧ vs'.length ≤ j + 1 + 1 ∧ wr_.length ≤ j + 1 ∧ gt.length ≤ j + 1 from ⟨HI.out.1, by have := HI.out.2; omega⟩)
            have HS2 := Lib.hid HS1.out.s5.drop
            clear hz HiW HbW HI HS1
            go_wp2_with fail
            go_roundg (os.length - (j + 1))
            case measure => omega
            case rel => exact ⟨j + 1, vs', wr_, gt, hlt, rfl, by go_num, h50, HI', HS2⟩


        | false =>
          have hiW := fun hz => inv_write HI.out.1 xa xn false hz
          have hbW := fun hz => wr_bad (vs := vs) (a := xa) (n := xn) (th := false) hz
          have hlW := len_wr vs xa xn false
          have hC := cWrite p vs xa xn false _ _ HSx.out HI.out.1.ok (by have := HI.out.2; omega)
          generalize wrV vs xa xn false = r at hiW hbW hlW hC
          obtain ⟨vs', z⟩ := r
          have hlW' : vs'.length ≤ vs.length + 1 := hlW
          have HC := Lib.hid hC
          have HiW := Lib.hid hiW
          have HbW := Lib.hid hbW
          have hb0 := HSx.out.s5.blk_
          have a1 := hb0.at_ 1 rfl
          have a2 := hb0.at_ 2 rfl
          have a3 := hb0.at_ 3 rfl
          clear hC hiW hbW hlW HSx hb0
          go_wp2_with fail
          refine HC.out.mono ?_
          rintro e w1 ⟨rfl, hS⟩
          have hb := hS.s5.blk_
          have k1 := hb.at_ 1 rfl
          have k2 := hb.at_ 2 rfl
          have k3 := hb.at_ 3 rfl
          have HS1 := Lib.hid hS
          clear hS hb HC a1 a2 a3
          by_cases hz : z = 0
          · subst hz
            have HI' := Lib.hid (show Inv vs' (outG wr_ xa ++ ([⟨xa, 0, false⟩] : Gs)) gt ∧ vs'.length ≤ j + 1 + 1 ∧ (outG wr_ xa ++ ([⟨xa, 0, false⟩] : Gs)).length ≤ j + 1 ∧ gt.length ≤ j + 1 from ⟨HiW.out rfl, by omega, by have := HI.out.2; have h9 : (outG wr_ xa).length ≤ wr_.length := List.length_filter_le _ _; rw [List.length_append]; simp only [List.length_singleton]; omega, by have := HI.out.2; omega⟩)
            have hwl : wr_.length ≤ 1000 := by have := HI.out.2; omega
            have HBig := Lib.hid (show ((rwG (outG wr_ xa)).length + 1) * 24 ≤ 140737488355328 from by rw [rwG_len]; have h9 : (outG wr_ xa).length ≤ wr_.length := List.length_filter_le _ _; omega)
            have k3n := up1 k3 (.cells #[.int .i64 xa, .int .i64 xn, .bool false] 32)
            clear HiW HbW HI
            go_wp2_with fail
            have hSz := (HS1.out.alloc #[.int .i64 xa, .int .i64 0, .bool false] 32).s3
            have hBz := HS1.out.s5.blk_.alloc (.cells #[.int .i64 xa, .int .i64 0, .bool false] 32)
            have hWz := Blk.new w1 #[.int .i64 xa, .int .i64 0, .bool false] 32
            have HSz := Lib.hid hSz
            clear hSz k1 k2 k3 k3n HS1
            generalize w1.alloc (.cells #[.int .i64 xa, .int .i64 0, .bool false] 32) = wz at HSz hBz hWz ⊢
            have q0 : wz.cell? ⟨w1.heap.size, 0, none⟩ = some (.int .i64 xa) := hWz.at_ 0 rfl
            have q1 : wz.cell? ⟨w1.heap.size, 1, none⟩ = some (.int .i64 0) := hWz.at_ 1 rfl
            have q2 : wz.cell? ⟨w1.heap.size, 2, none⟩ = some (.bool false) := hWz.at_ 2 rfl
            have q3 : wz.cell? ⟨wr.heap.size, 1, none⟩ = some (.int .i64 xa) := hBz.at_ 1 rfl
            clear hBz hWz
            have hL : ∀ m, Calls Tryd.prog 11 #[.slice A8 wr_.length c8, .int .i64 xa] (wz.drewN m) (fun e x => ∃ v1, e = .returned v1 ∧ (x.cell? ⟨w1.heap.size, 0, none⟩ = some (.int .i64 xa) ∧ x.cell? ⟨w1.heap.size, 1, none⟩ = some (.int .i64 0) ∧ x.cell? ⟨w1.heap.size, 2, none⟩ = some (.bool false) ∧ x.cell? ⟨wr.heap.size, 1, none⟩ = some (.int .i64 xa)) ∧ Hid (Sat (ownR v1 32 3 (rwG (outG wr_ xa)) :: [ownR (.slice A8 wr_.length c8) 32 3 (rwG wr_), blk w1.heap.size #[.int .i64 xa, .int .i64 0, .bool false] 32, chP p vs', errP, ownR u9 32 3 (rwG gt), old w, blk wr.heap.size #[.int .i64 3, .int .i64 xa, .int .i64 xn, .bool false] 27]) x)) := fun m => (lout wr_ (.slice A8 wr_.length c8) xa _ _ (HSz.out.drewN m) hwl).mono fun e x ⟨v1, h1, h2⟩ => by
              have b1 := h2.s2.blk_
              have b2 := h2.drop.drop.s5.blk_
              exact ⟨v1, h1, ⟨b1.at_ 0 rfl, b1.at_ 1 rfl, b1.at_ 2 rfl, b2.at_ 1 rfl⟩, Lib.hid h2⟩
            have HL := Lib.hid hL
            have hG : ∀ v x rows, Sat (ownR v 32 3 rows :: [ownR (.slice A8 wr_.length c8) 32 3 (rwG wr_), blk w1.heap.size #[.int .i64 xa, .int .i64 0, .bool false] 32, chP p vs', errP, ownR u9 32 3 (rwG gt), old w, blk wr.heap.size #[.int .i64 3, .int .i64 xa, .int .i64 xn, .bool false] 27]) x → (x.cell? ⟨w1.heap.size, 0, none⟩ = some (.int .i64 xa) ∧ x.cell? ⟨w1.heap.size, 1, none⟩ = some (.int .i64 0) ∧ x.cell? ⟨w1.heap.size, 2, none⟩ = some (.bool false) ∧ x.cell? ⟨wr.heap.size, 1, none⟩ = some (.int .i64 xa)) := fun v x rows h2 => by
              have b1 := h2.s2.blk_
              have b2 := h2.drop.drop.s5.blk_
              exact ⟨b1.at_ 0 rfl, b1.at_ 1 rfl, b1.at_ 2 rfl, b2.at_ 1 rfl⟩
            have HG := Lib.hid hG
            clear hG
            clear hL
            have hL2 : Calls Tryd.prog 11 #[.slice A8 wr_.length c8, .int .i64 xa] ((wz.drewN 1).alloc (.cells #[.int .i64 xa, .int .i64 0, .bool false] 32)) (fun e x => ∃ v1, e = .returned v1 ∧ (x.cell? ⟨w1.heap.size, 0, none⟩ = some (.int .i64 xa) ∧ x.cell? ⟨w1.heap.size, 1, none⟩ = some (.int .i64 0) ∧ x.cell? ⟨w1.heap.size, 2, none⟩ = some (.bool false) ∧ x.cell? ⟨wr.heap.size, 1, none⟩ = some (.int .i64 xa)) ∧ Hid (Sat (ownR v1 32 3 (rwG (outG wr_ xa)) :: [ownR (.slice A8 wr_.length c8) 32 3 (rwG wr_), blk w1.heap.size #[.int .i64 xa, .int .i64 0, .bool false] 32, blk wz.heap.size #[.int .i64 xa, .int .i64 0, .bool false] 32, chP p vs', errP, ownR u9 32 3 (rwG gt), old w, blk wr.heap.size #[.int .i64 3, .int .i64 xa, .int .i64 xn, .bool false] 27]) x)) := (lout wr_ (.slice A8 wr_.length c8) xa _ _ (((HSz.out.drewN 1).alloc #[.int .i64 xa, .int .i64 0, .bool false] 32).t2) hwl).mono fun e x ⟨v1, h1, h2⟩ => by
              have b1 := h2.s2.blk_
              have b2 := h2.drop.drop.drop.s5.blk_
              exact ⟨v1, h1, ⟨b1.at_ 0 rfl, b1.at_ 1 rfl, b1.at_ 2 rfl, b2.at_ 1 rfl⟩, Lib.hid h2⟩
            have HL2 := Lib.hid hL2
            clear hL2
            have hG2 : ∀ v x rows, Sat (ownR v 32 3 rows :: [ownR (.slice A8 wr_.length c8) 32 3 (rwG wr_), blk w1.heap.size #[.int .i64 xa, .int .i64 0, .bool false] 32, blk wz.heap.size #[.int .i64 xa, .int .i64 0, .bool false] 32, chP p vs', errP, ownR u9 32 3 (rwG gt), old w, blk wr.heap.size #[.int .i64 3, .int .i64 xa, .int .i64 xn, .bool false] 27]) x → (x.cell? ⟨w1.heap.size, 0, none⟩ = some (.int .i64 xa) ∧ x.cell? ⟨w1.heap.size, 1, none⟩ = some (.int .i64 0) ∧ x.cell? ⟨w1.heap.size, 2, none⟩ = some (.bool false) ∧ x.cell? ⟨wr.heap.size, 1, none⟩ = some (.int .i64 xa)) := fun v x rows h2 => by
              have b1 := h2.s2.blk_
              have b2 := h2.drop.drop.drop.s5.blk_
              exact ⟨b1.at_ 0 rfl, b1.at_ 1 rfl, b1.at_ 2 rfl, b2.at_ 1 rfl⟩
            have HG2 := Lib.hid hG2
            clear hG2
            have k0 : (wz.drewN 1).cell? ⟨w1.heap.size, 0, none⟩ = some (.int .i64 xa) ∧ (wz.drewN 1).cell? ⟨w1.heap.size, 1, none⟩ = some (.int .i64 0) ∧ (wz.drewN 1).cell? ⟨w1.heap.size, 2, none⟩ = some (.bool false) ∧ (wz.drewN 1).cell? ⟨wr.heap.size, 1, none⟩ = some (.int .i64 xa) := ⟨q0, q1, q2, q3⟩
            clear q0 q1 q2 q3
            go_region_held3 (fun x => x.cell? ⟨w1.heap.size, 0, none⟩ = some (.int .i64 xa) ∧ x.cell? ⟨w1.heap.size, 1, none⟩ = some (.int .i64 0) ∧ x.cell? ⟨w1.heap.size, 2, none⟩ = some (.bool false) ∧ x.cell? ⟨wr.heap.size, 1, none⟩ = some (.int .i64 xa)) ((first | assumption | exact k0 | exact ⟨up1 hx1.1 _, up1 hx1.2.1 _, up1 hx1.2.2.1 _, up1 hx1.2.2.2 _⟩ | exact ⟨up1 k0.1 _, up1 k0.2.1 _, up1 k0.2.2.1 _, up1 k0.2.2.2 _⟩)) ((first | (go_at_call 11; refine HL2.out.mono ?_; rintro e x1 ⟨v1, rfl, hx1, hSa⟩) | (go_at_call 11; refine (HL.out _).mono ?_; rintro e x1 ⟨v1, rfl, hx1, hSa⟩) | (refine step_append1 0 32 3 24 (.agg #[.int .i64 0, .int .i64 0, .bool false]) (by rfl) _ _ _ (by rfl) Tryd.underlying25 infoG zeroG (by decide) (by decide) v1 (rwG (outG wr_ xa)) [.int .i64 xa, .int .i64 0, .bool false] (by rfl) x1.heap.size (by rfl) (heap_alloc_new x1 _) rfl (enG_one ⟨xa, 0, false⟩) (hSa.out.below ((Below.refl x1.heap.size x1).alloc (Nat.le_refl _) _)).own_ (Nat.zero_le _) HBig.out ?_; intro v2 x2 ho2 hf2 hl2; have hS2 := Lib.hid ((hSa.out.below ((Below.refl x1.heap.size x1).alloc (Nat.le_refl _) _)).grown ho2 hf2 hl2); have hx2 := HG.out _ _ _ hS2.out) | (refine step_append1 0 32 3 24 (.agg #[.int .i64 0, .int .i64 0, .bool false]) (by rfl) _ _ _ (by rfl) Tryd.underlying25 infoG zeroG (by decide) (by decide) v1 (rwG (outG wr_ xa)) [.int .i64 xa, .int .i64 0, .bool false] (by rfl) wz.heap.size (by rfl) hSa.out.s3.blk_ rfl (enG_one ⟨xa, 0, false⟩) hSa.out.own_ (Nat.zero_le _) HBig.out ?_; intro v2 x2 ho2 hf2 hl2; have hx2 := HG2.out _ _ _ (hSa.out.grown ho2 hf2 hl2); have hS2 := Lib.hid (hSa.out.grown ho2 hf2 hl2).s3.drop)))
            all_goals
              have hS3 := hS2.out.s1.drop.s1.drop.t2.s5.drop
              rw [show rwG (outG wr_ xa) ++ [[.int .i64 xa, .int .i64 0, .bool false]] = rwG (outG wr_ xa ++ ([⟨xa, 0, false⟩] : Gs)) from by simp [rwG, enG]] at hS3
              have HS3 := Lib.hid hS3
              clear hS3 hS2 hSa hx1 hx2 ho2 hf2 hl2 HL HG k0 HL2 HG2
              go_wp2_with fail
              go_roundg (os.length - (j + 1))
              case measure => omega
              case rel => exact ⟨j + 1, vs', outG wr_ xa ++ ([⟨xa, 0, false⟩] : Gs), gt, hlt, rfl, by go_num, h50, HI', HS3⟩

          · have hv : vs' = vs := HbW.out hz
            subst hv
            have hzb : (z == 0) = false := by simpa using hz
            have HI' := Lib.hid (show Inv vs' wr_ gt ∧ vs'.length ≤ j + 1 + 1 ∧ wr_.length ≤ j + 1 ∧ gt.length ≤ j + 1 from ⟨HI.out.1, by have := HI.out.2; omega⟩)
            have HS2 := Lib.hid HS1.out.s5.drop
            clear hz HiW HbW HI HS1
            go_wp2_with fail
            go_roundg (os.length - (j + 1))
            case measure => omega
            case rel => exact ⟨j + 1, vs', wr_, gt, hlt, rfl, by go_num, h50, HI', HS2⟩


      by_cases hk4 : xk = 4
      · subst hk4
        have hI' := inv_commit HI.out.1 xa
        have hl' := len_cm vs xa
        have hC := cCommit p vs xa _ _ HSx.out (by have := HI.out.2; omega)
        generalize cmV vs xa = r at hI' hl' hC
        obtain ⟨vs', z⟩ := r
        have HI' := Lib.hid (show Inv vs' wr_ gt ∧ vs'.length ≤ j + 1 + 1 ∧ wr_.length ≤ j + 1 ∧ gt.length ≤ j + 1 from ⟨hI', by have hl2 : vs'.length = vs.length := hl'; have := HI.out.2; omega⟩)
        have HC := Lib.hid hC
        clear hI' hl' hC HSx HI
        go_wp2_with fail
        refine HC.out.mono ?_
        rintro e w1 ⟨rfl, hS⟩
        have HS2 := Lib.hid hS.s5.drop
        clear hS HC
        go_wp2_with fail
        go_roundg (os.length - (j + 1))
        case measure => omega
        case rel => exact ⟨j + 1, vs', wr_, gt, hlt, rfl, by go_num, h50, HI', HS2⟩

      by_cases hk5 : xk = 5
      · subst hk5
        have hI' := inv_abort HI.out.1 xa
        have hl' := len_ab vs xa
        have hC := cAbort p vs xa _ _ HSx.out (by have := HI.out.2; omega)
        generalize abV vs xa = r at hI' hl' hC
        obtain ⟨vs', z⟩ := r
        have hl2 : vs'.length ≤ vs.length := hl'
        have HC := Lib.hid hC
        clear hC HSx hl'
        cases z with
        | false =>
          have HI' := Lib.hid (show Inv vs' wr_ gt ∧ vs'.length ≤ j + 1 + 1 ∧ wr_.length ≤ j + 1 ∧ gt.length ≤ j + 1 from ⟨hI', by have := HI.out.2; omega⟩)
          clear hI' HI
          go_wp2_with fail
          refine HC.out.mono ?_
          rintro e w1 ⟨rfl, hS⟩
          have HS2 := Lib.hid hS.s5.drop
          clear hS HC
          go_wp2_with fail
          go_roundg (os.length - (j + 1))
          case measure => omega
          case rel => exact ⟨j + 1, vs', wr_, gt, hlt, rfl, by go_num, h50, HI', HS2⟩

        | true =>
          have HI' := Lib.hid (show Inv vs' (outG wr_ xa) gt ∧ vs'.length ≤ j + 1 + 1 ∧ (outG wr_ xa).length ≤ j + 1 ∧ gt.length ≤ j + 1 from ⟨hI', by have := HI.out.2; have h9 : (outG wr_ xa).length ≤ wr_.length := List.length_filter_le _ _; omega⟩)
          have hwl : wr_.length ≤ 1000 := by have := HI.out.2; omega
          clear hI' HI
          go_wp2_with fail
          refine HC.out.mono ?_
          rintro e w1 ⟨rfl, hS⟩
          have hb := hS.s5.blk_
          have k1 := hb.at_ 1 rfl
          have HO := Lib.hid (lout wr_ (.slice A8 wr_.length c8) xa _ _ hS.s2 hwl)
          clear hS HC hb
          go_wp2_with fail
          refine HO.out.mono ?_
          rintro e w2 ⟨v8, rfl, hS⟩
          have HS2 := Lib.hid hS.s1.drop.t2.s5.drop
          clear hS HO k1
          go_wp2_with fail
          go_roundg (os.length - (j + 1))
          case measure => omega
          case rel => exact ⟨j + 1, vs', outG wr_ xa, gt, hlt, rfl, by go_num, h50, HI', HS2⟩

      have t0 : (xk == 0) = false := by simpa using hk0
      have t1 : (xk == 1) = false := by simpa using hk1
      have t2 : (xk == 2) = false := by simpa using hk2
      have t3 : (xk == 3) = false := by simpa using hk3
      have t4 : (xk == 4) = false := by simpa using hk4
      have t5 : (xk == 5) = false := by simpa using hk5
      have HI' := Lib.hid (show Inv vs wr_ gt ∧ vs.length ≤ j + 1 + 1 ∧ wr_.length ≤ j + 1 ∧ gt.length ≤ j + 1 from ⟨HI.out.1, by have := HI.out.2; omega⟩)
      have HS2 := Lib.hid HSx.out.s5.drop
      clear hk0 hk1 hk2 hk3 hk4 hk5 HSx HI
      go_wp2_with fail
      go_roundg (os.length - (j + 1))
      case measure => omega
      case rel => exact ⟨j + 1, vs, wr_, gt, hlt, rfl, by go_num, h50, HI', HS2⟩

    · by_cases hlt : j < os.length
      · have h50 : j = 40 := by omega
        subst h50
        obtain ⟨bb, o, rfl, d1, d2, d3, d4⟩ := rows_op (HRo.out.below HP.out.s4.old_) hlt
        generalize os[40] = x at d1 d2 d3 d4
        obtain ⟨xk, xa, xn, xt⟩ := x
        have HS2 := Lib.hid (HP.out.below ((Below.refl wr.heap.size wr).alloc (Nat.le_refl _) (.cells #[.int .i64 xk, .int .i64 xa, .int .i64 xn, .bool xt] 27)))
        clear HP
        obtain ⟨A9, c9, rfl, hc9, _, _⟩ := HS2.out.s3.own_.slv'
        rw [rwG_len] at hc9 HS2 ⊢
        have hInv := HI.out.1
        have hvl : vs.length ≤ 1000 := by have := HI.out.2; omega
        have hgl : gt.length ≤ 1000 := by have := HI.out.2; omega
        have hvp := inv_pos hInv
        have HV0 := Lib.hid hInv
        clear HI hInv
        go_wp2_with fail
        go_loopg [135] gt.length (fun g x135 ws => ∃ j2 : Nat, j2 ≤ gt.length ∧ g = gt.length - j2 ∧ x135 = .int .i64 j2 ∧ Hid (Sat [chP p vs, errP, ownR u8 32 3 (rwG wr_), ownR (.slice A9 gt.length c9) 32 3 (rwG gt), old w] ws))
        case atStart => exact ⟨0, Nat.zero_le _, rfl, rfl, HS2⟩
        case round =>
          clear HS2
          obtain ⟨j2, hj2, rfl, rfl, HS⟩ := hrel
          rename World => wo
          by_cases hl2 : j2 < gt.length
          · have hrA : RowsAt wo 3 A9 (rwG gt) := by
              obtain ⟨A', c', e, _, _, hr⟩ := HS.out.s3.own_.slv'
              injection e with e _ _
              rw [e]
              exact hr
            obtain ⟨bb, o, rfl, d1, d2, d3⟩ := rows_got hrA hl2
            have hgot := fun acc => inv_got HV0.out (List.getElem_mem hl2) acc
            generalize gt[j2] = y at d1 d2 d3 hgot
            obtain ⟨ya, yn, yt⟩ := y
            have HG := Lib.hid hgot
            have hSx := (HS.out.alloc #[.int .i64 ya, .int .i64 yn, .bool yt] 32).alloc #[.int .i64 0, .int .i64 0, .bool false, .int .i64 0, .bool false] 39
            rw [alloc_sz] at hSx
            have HV := Lib.hid (cVersions p vs _ _ hSx.s2 (by omega))
            clear hrA hgot hSx HS
            go_wp2_with fail
            refine HV.out.mono ?_
            rintro e w5 ⟨v5, rfl, hS⟩
            obtain ⟨A7, c7, rfl, hc7, _, _⟩ := hS.own_.slv'
            rw [rwV_len] at hS hc7 ⊢
            have HS5 := Lib.hid hS
            clear hS HV d1 d2 d3
            go_wp2_with fail
            go_loopg [142] vs.length (fun g x142 ws => ∃ i : Nat, i ≤ vs.length ∧ g = vs.length - i ∧ x142 = .int .i64 i ∧ Hid (Sat [ownR (.slice A7 vs.length c7) 39 5 (rwV vs), chP p vs, blk (wo.heap.size + 1) (enV (lastB ya ⟨0, 0, false, 0, false⟩ (vs.take i))).toArray 39, blk wo.heap.size #[.int .i64 ya, .int .i64 yn, .bool yt] 32, errP, ownR u8 32 3 (rwG wr_), ownR (.slice (some ⟨bb, o, none⟩) gt.length c9) 32 3 (rwG gt), old w] ws))
            case atStart => exact ⟨0, Nat.zero_le _, rfl, rfl, HS5⟩
            case round =>
              clear HS5
              obtain ⟨i, hi, rfl, rfl, HS⟩ := hrel
              by_cases hil : i < vs.length
              · have hrV : RowsAt wr 5 A7 (rwV vs) := by
                  obtain ⟨A', c', e, _, _, hr⟩ := HS.out.own_.slv'
                  injection e with e _ _
                  rw [e]
                  exact hr
                obtain ⟨b2, o2, rfl, f1, f2, f3, f4, f5⟩ := rows_ver hrV hil
                have hst : lastB ya ⟨0, 0, false, 0, false⟩ (vs.take (i + 1)) = if vs[i].at_ < ya then vs[i] else lastB ya ⟨0, 0, false, 0, false⟩ (vs.take i) := by
                  rw [List.take_add_one, List.getElem?_eq_getElem hil, Option.toList_some, lastB_snoc]
                generalize vs[i] = x at f1 f2 f3 f4 f5 hst
                generalize lastB ya ⟨0, 0, false, 0, false⟩ (vs.take i) = q at HS hst
                obtain ⟨xa, xn, xt, xr, xo⟩ := x
                obtain ⟨qa, qn, qt, qr, qo⟩ := q
                have HST := Lib.hid hst
                have hS2 := HS.out.below ((Below.refl wr.heap.size wr).alloc (Nat.le_refl _) (.cells #[.int .i64 xa, .int .i64 xn, .bool xt, .int .i64 xr, .bool xo] 39))
                have g0 := hS2.s3.blk_.at_ 0 rfl
                have hL := hS2.s2.blk_
                have l0 := hL.at_ 0 rfl
                have l1 := hL.at_ 1 rfl
                have l2 := hL.at_ 2 rfl
                have l3 := hL.at_ 3 rfl
                have l4 := hL.at_ 4 rfl
                have m0 := hL.free 0
                have m1 := hL.free 1
                have m2 := hL.free 2
                have m3 := hL.free 3
                have m4 := hL.free 4
                have HS2 := Lib.hid hS2
                clear hst hrV HS hS2 hL
                by_cases hlt2 : xa < ya
                · have HST2 := Lib.hid (HST.out.trans (if_pos hlt2))
                  have hS3 := (((((HS2.out.s2.set 0 (.int .i64 xa)).set 1 (.int .i64 xn)).set 2 (.bool xt)).set 3 (.int .i64 xr)).set 4 (.bool xo)).t2
                  have HS3 := Lib.hid hS3
                  clear hS3 HST HS2
                  go_wp2_with fail
                  go_roundg (vs.length - (i + 1))
                  case measure => omega
                  case rel => exact ⟨i + 1, hil, rfl, by go_num, by rw [HST2.out]; exact HS3⟩
                · have HST2 := Lib.hid (HST.out.trans (if_neg hlt2))
                  clear HST
                  go_wp2_with fail
                  go_roundg (vs.length - (i + 1))
                  case measure => omega
                  case rel => exact ⟨i + 1, hil, rfl, by go_num, by rw [HST2.out]; exact HS2⟩
              · obtain rfl : i = vs.length := by omega
                rw [List.take_length] at HS
                have hq := HG.out ⟨0, 0, false, 0, false⟩
                generalize lastB ya ⟨0, 0, false, 0, false⟩ vs = q at HS hq
                obtain ⟨qa, qn, qt, qr, qo⟩ := q
                obtain ⟨e1, e2⟩ := hq
                simp only at e1 e2
                subst e1 e2
                have hL := HS.out.s2.blk_
                have hGc := HS.out.s3.blk_
                have l1 : wr.cell? ⟨wo.heap.size + 1, 1, none⟩ = some (.int .i64 qn) := hL.at_ 1 rfl
                have l2 : wr.cell? ⟨wo.heap.size + 1, 2, none⟩ = some (.bool qt) := hL.at_ 2 rfl
                have g1 : wr.cell? ⟨wo.heap.size, 1, none⟩ = some (.int .i64 qn) := hGc.at_ 1 rfl
                have g2 : wr.cell? ⟨wo.heap.size, 2, none⟩ = some (.bool qt) := hGc.at_ 2 rfl
                have HS6 := Lib.hid HS.out.drop.s1.drop.s1.drop
                clear hL hGc HS HG
                go_wp2_with fail
                go_roundg (gt.length - (j2 + 1))
                case measure => omega
                case rel => exact ⟨j2 + 1, hl2, rfl, by go_num, HS6⟩
          · obtain rfl : j2 = gt.length := by omega
            have HV := Lib.hid (cVersions p vs _ _ HS.out (by omega))
            have hvp2 : (0 : Int) < (vs.length : Int) := by omega
            clear HS HV0
            go_wp2_with fail
            refine HV.out.mono ?_
            rintro e w7 ⟨v7, rfl, hS⟩
            obtain ⟨A7, c7, rfl, _, _, _⟩ := hS.own_.slv'
            rw [rwV_len] at hS ⊢
            have HK := Lib.hid (lawake _ hS.s2.err_)
            have HB := Lib.hid hS.s5.old_
            clear hS HV
            go_wp2_with fail
            refine HK.out.mono ?_
            rintro e w10 ⟨rfl, hb9⟩
            have HB9 := Lib.hid (below_then HB.out hb9)
            clear hb9 HK
            go_wp2_with fail
            exact ⟨rfl, HB9.out⟩

      · obtain rfl : j = os.length := by omega
        obtain ⟨A9, c9, rfl, hc9, _, _⟩ := HP.out.s3.own_.slv'
        rw [rwG_len] at hc9 HP ⊢
        have hInv := HI.out.1
        have hvl : vs.length ≤ 1000 := by have := HI.out.2; omega
        have hgl : gt.length ≤ 1000 := by have := HI.out.2; omega
        have hvp := inv_pos hInv
        have HV0 := Lib.hid hInv
        clear HI hInv
        go_wp2_with fail
        go_loopg [135] gt.length (fun g x135 ws => ∃ j2 : Nat, j2 ≤ gt.length ∧ g = gt.length - j2 ∧ x135 = .int .i64 j2 ∧ Hid (Sat [chP p vs, errP, ownR u8 32 3 (rwG wr_), ownR (.slice A9 gt.length c9) 32 3 (rwG gt), old w] ws))
        case atStart => exact ⟨0, Nat.zero_le _, rfl, rfl, HP⟩
        case round =>
          clear HP
          obtain ⟨j2, hj2, rfl, rfl, HS⟩ := hrel
          rename World => wo
          by_cases hl2 : j2 < gt.length
          · have hrA : RowsAt wo 3 A9 (rwG gt) := by
              obtain ⟨A', c', e, _, _, hr⟩ := HS.out.s3.own_.slv'
              injection e with e _ _
              rw [e]
              exact hr
            obtain ⟨bb, o, rfl, d1, d2, d3⟩ := rows_got hrA hl2
            have hgot := fun acc => inv_got HV0.out (List.getElem_mem hl2) acc
            generalize gt[j2] = y at d1 d2 d3 hgot
            obtain ⟨ya, yn, yt⟩ := y
            have HG := Lib.hid hgot
            have hSx := (HS.out.alloc #[.int .i64 ya, .int .i64 yn, .bool yt] 32).alloc #[.int .i64 0, .int .i64 0, .bool false, .int .i64 0, .bool false] 39
            rw [alloc_sz] at hSx
            have HV := Lib.hid (cVersions p vs _ _ hSx.s2 (by omega))
            clear hrA hgot hSx HS
            go_wp2_with fail
            refine HV.out.mono ?_
            rintro e w5 ⟨v5, rfl, hS⟩
            obtain ⟨A7, c7, rfl, hc7, _, _⟩ := hS.own_.slv'
            rw [rwV_len] at hS hc7 ⊢
            have HS5 := Lib.hid hS
            clear hS HV d1 d2 d3
            go_wp2_with fail
            go_loopg [142] vs.length (fun g x142 ws => ∃ i : Nat, i ≤ vs.length ∧ g = vs.length - i ∧ x142 = .int .i64 i ∧ Hid (Sat [ownR (.slice A7 vs.length c7) 39 5 (rwV vs), chP p vs, blk (wo.heap.size + 1) (enV (lastB ya ⟨0, 0, false, 0, false⟩ (vs.take i))).toArray 39, blk wo.heap.size #[.int .i64 ya, .int .i64 yn, .bool yt] 32, errP, ownR u8 32 3 (rwG wr_), ownR (.slice (some ⟨bb, o, none⟩) gt.length c9) 32 3 (rwG gt), old w] ws))
            case atStart => exact ⟨0, Nat.zero_le _, rfl, rfl, HS5⟩
            case round =>
              clear HS5
              obtain ⟨i, hi, rfl, rfl, HS⟩ := hrel
              by_cases hil : i < vs.length
              · have hrV : RowsAt wr 5 A7 (rwV vs) := by
                  obtain ⟨A', c', e, _, _, hr⟩ := HS.out.own_.slv'
                  injection e with e _ _
                  rw [e]
                  exact hr
                obtain ⟨b2, o2, rfl, f1, f2, f3, f4, f5⟩ := rows_ver hrV hil
                have hst : lastB ya ⟨0, 0, false, 0, false⟩ (vs.take (i + 1)) = if vs[i].at_ < ya then vs[i] else lastB ya ⟨0, 0, false, 0, false⟩ (vs.take i) := by
                  rw [List.take_add_one, List.getElem?_eq_getElem hil, Option.toList_some, lastB_snoc]
                generalize vs[i] = x at f1 f2 f3 f4 f5 hst
                generalize lastB ya ⟨0, 0, false, 0, false⟩ (vs.take i) = q at HS hst
                obtain ⟨xa, xn, xt, xr, xo⟩ := x
                obtain ⟨qa, qn, qt, qr, qo⟩ := q
                have HST := Lib.hid hst
                have hS2 := HS.out.below ((Below.refl wr.heap.size wr).alloc (Nat.le_refl _) (.cells #[.int .i64 xa, .int .i64 xn, .bool xt, .int .i64 xr, .bool xo] 39))
                have g0 := hS2.s3.blk_.at_ 0 rfl
                have hL := hS2.s2.blk_
                have l0 := hL.at_ 0 rfl
                have l1 := hL.at_ 1 rfl
                have l2 := hL.at_ 2 rfl
                have l3 := hL.at_ 3 rfl
                have l4 := hL.at_ 4 rfl
                have m0 := hL.free 0
                have m1 := hL.free 1
                have m2 := hL.free 2
                have m3 := hL.free 3
                have m4 := hL.free 4
                have HS2 := Lib.hid hS2
                clear hst hrV HS hS2 hL
                by_cases hlt2 : xa < ya
                · have HST2 := Lib.hid (HST.out.trans (if_pos hlt2))
                  have hS3 := (((((HS2.out.s2.set 0 (.int .i64 xa)).set 1 (.int .i64 xn)).set 2 (.bool xt)).set 3 (.int .i64 xr)).set 4 (.bool xo)).t2
                  have HS3 := Lib.hid hS3
                  clear hS3 HST HS2
                  go_wp2_with fail
                  go_roundg (vs.length - (i + 1))
                  case measure => omega
                  case rel => exact ⟨i + 1, hil, rfl, by go_num, by rw [HST2.out]; exact HS3⟩
                · have HST2 := Lib.hid (HST.out.trans (if_neg hlt2))
                  clear HST
                  go_wp2_with fail
                  go_roundg (vs.length - (i + 1))
                  case measure => omega
                  case rel => exact ⟨i + 1, hil, rfl, by go_num, by rw [HST2.out]; exact HS2⟩
              · obtain rfl : i = vs.length := by omega
                rw [List.take_length] at HS
                have hq := HG.out ⟨0, 0, false, 0, false⟩
                generalize lastB ya ⟨0, 0, false, 0, false⟩ vs = q at HS hq
                obtain ⟨qa, qn, qt, qr, qo⟩ := q
                obtain ⟨e1, e2⟩ := hq
                simp only at e1 e2
                subst e1 e2
                have hL := HS.out.s2.blk_
                have hGc := HS.out.s3.blk_
                have l1 : wr.cell? ⟨wo.heap.size + 1, 1, none⟩ = some (.int .i64 qn) := hL.at_ 1 rfl
                have l2 : wr.cell? ⟨wo.heap.size + 1, 2, none⟩ = some (.bool qt) := hL.at_ 2 rfl
                have g1 : wr.cell? ⟨wo.heap.size, 1, none⟩ = some (.int .i64 qn) := hGc.at_ 1 rfl
                have g2 : wr.cell? ⟨wo.heap.size, 2, none⟩ = some (.bool qt) := hGc.at_ 2 rfl
                have HS6 := Lib.hid HS.out.drop.s1.drop.s1.drop
                clear hL hGc HS HG
                go_wp2_with fail
                go_roundg (gt.length - (j2 + 1))
                case measure => omega
                case rel => exact ⟨j2 + 1, hl2, rfl, by go_num, HS6⟩
          · obtain rfl : j2 = gt.length := by omega
            have HV := Lib.hid (cVersions p vs _ _ HS.out (by omega))
            have hvp2 : (0 : Int) < (vs.length : Int) := by omega
            clear HS HV0
            go_wp2_with fail
            refine HV.out.mono ?_
            rintro e w7 ⟨v7, rfl, hS⟩
            obtain ⟨A7, c7, rfl, _, _, _⟩ := hS.own_.slv'
            rw [rwV_len] at hS ⊢
            have HK := Lib.hid (lawake _ hS.s2.err_)
            have HB := Lib.hid hS.s5.old_
            clear hS HV
            go_wp2_with fail
            refine HK.out.mono ?_
            rintro e w10 ⟨rfl, hb9⟩
            have HB9 := Lib.hid (below_then HB.out hb9)
            clear hb9 HK
            go_wp2_with fail
            exact ⟨rfl, HB9.out⟩

end Go.Proofs.YtaaijjgaeppmkaaDoor
