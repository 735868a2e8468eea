/- The document's chain: Read, Write, Ends. -/
import Derived.Test.YtaaijjgaeppmkaaDoorCj
set_option linter.unusedVariables false
set_option maxRecDepth 100000
namespace Go.Proofs.YtaaijjgaeppmkaaDoor
open Go.Proofs.BL Go.Proofs.Peel Go.RowKit Go.Proofs.Cn

theorem set_mid {vs : Vs} {k : Nat} (hk : k < vs.length) (x : Ver) : vs.take k ++ [x] ++ vs.drop (k + 1) = vs.set k x := by
  rw [List.set_eq_take_append_cons_drop, if_pos hk]; simp
theorem erase_mid (vs : Vs) (k : Nat) : vs.take k ++ ([] : Vs) ++ vs.drop (k + 1) = vs.eraseIdx k := by
  rw [List.eraseIdx_eq_take_drop_succ]; simp
theorem ins_mid (vs : Vs) (k : Nat) (x : Ver) : vs.take (k + 1) ++ [x] ++ vs.drop (k + 1) = vs.take (k + 1) ++ x :: vs.drop (k + 1) := by simp
/-- A literal of one version, read. -/
theorem lit_rows (w : World) (x : Ver) : RowsAt (w.alloc (.cells (enV x).toArray 68)) 5 (some ⟨w.heap.size, 0, none⟩) (rwV [x]) := fun i r hi => by
  cases i with
  | succ i => simp at hi
  | zero =>
    simp at hi
    subst hi
    refine ⟨_, _, rfl, fun j u hj => ?_⟩
    rw [show 0 + 0 * 5 + j = j from by omega]
    have := (Blk.new w (enV x).toArray 68).cell j
    rw [this]
    simpa using hj
/-- put of one version, laid just ahead. -/
theorem rput1 (p a b : Nat) (x : Ver) (vs : Vs) (l : List Part) (w : World) (h : Sat (rcP p vs :: l) w) (hl : vs.length ≤ 1000000) (hab : a ≤ vs.length) (hb : b ≤ vs.length) :
    Calls Tryd.prog 47 #[.pointer (some ⟨p, 0, none⟩), .int .i64 a, .int .i64 b, .slice (some ⟨w.heap.size, 0, none⟩) 1 1] (w.alloc (.cells #[.int .i64 x.at_, .int .i64 x.n, .bool x.there, .int .i64 x.read, .bool x.open_] 68)) (PutPost p l (vs.take a ++ [x] ++ vs.drop b)) :=
  rput p a b (some ⟨w.heap.size, 0, none⟩) 1 [x] vs l _ (h.below ((Below.refl _ _).alloc (Nat.le_refl _) _)) hl (by simp) hab hb (fun h => by cases h) (lit_rows w x)

def RRdPost (p : Nat) (l : List Part) (r : Vs × Int × Bool × Int) (e : Ending) (w' : World) : Prop := e = .returned (.tuple #[.int .i64 r.2.1, .bool r.2.2.1, .int .i64 r.2.2.2]) ∧ Sat (rcP p r.1 :: l) w'
set_option maxHeartbeats 4000000 in
theorem rRead (p : Nat) (vs : Vs) (t : Int) (l : List Part) (w : World) (h : Sat (rcP p vs :: l) w) (hs : Ok vs) (hl : vs.length ≤ 1000000) :
    Calls Tryd.prog 30 #[.pointer (some ⟨p, 0, none⟩), .int .i64 t] w (RRdPost p l (rdV vs t)) := by
  obtain ⟨v, hF, h2⟩ := h.rcF
  have hfind := Lib.hid (rfind p v vs t w hF hs hl)
  have H := Lib.hid h
  refine via fun Q hQ => ?_
  by_cases hb : bad t
  · have hrd : rdV vs t = (vs, 0, false, 2) := by rw [rdV, if_pos hb]
    rw [hrd] at hQ
    have hb2 : t < 1 ∨ t > 1073741824 := hb
    clear h h2 hF hs hrd hb hfind
    by_cases h1 : t < 1
    · go_enter Tryd.func30, Tryd.ntmps30
      go_wp2_with fail
      go_ret3
      exact hQ _ _ ⟨rfl, H.out⟩
    · have h3 : t > 1073741824 := hb2.resolve_left h1
      clear hb2
      go_enter Tryd.func30, Tryd.ntmps30
      go_wp2_with fail
      go_ret3
      exact hQ _ _ ⟨rfl, H.out⟩
  · have hb3 : ¬ t < 1 := fun e => hb (.inl e)
    have hb4 : ¬ t > 1073741824 := fun e => hb (.inr e)
    by_cases h0 : cnt vs t = 0
    · have hrd : rdV vs t = (vs, 0, false, 22) := by rw [rdV, if_neg hb, at_none h0]
      rw [hrd] at hQ
      rw [h0] at hfind
      clear h h2 hF hs hrd hb h0
      go_enter Tryd.func30, Tryd.ntmps30
      go_wp2_with fail
      refine hfind.out.mono ?_
      rintro e w1 ⟨rfl, hb1⟩
      have HS := Lib.hid (H.out.below hb1)
      clear hb1 hfind
      go_wp2_with fail
      go_ret3
      exact hQ _ _ ⟨rfl, HS.out⟩
    · obtain ⟨x, hx, hat⟩ := at_some h0
      have hrd : rdV vs t = if x.at_ = t then (vs, x.n, x.there, 0) else if x.open_ = true then (vs, 0, false, 20) else (vs.set (cnt vs t - 1) { x with read := max x.read t }, x.n, x.there, 0) := by
        rw [rdV, if_neg hb, hat]
      have hk : ((cnt vs t : Int) - 1) = ((cnt vs t - 1 : Nat) : Int) := by omega
      rw [hk] at hfind
      generalize rdV vs t = R at hrd hQ
      generalize cnt vs t - 1 = k at hfind hx hrd
      obtain ⟨A, c, rfl, hc, hA, hr, c00⟩ := hF.form
      have hlt := (List.getElem?_eq_some_iff.1 hx).1
      have HF := Lib.hid hF
      have HX := Lib.hid hx
      clear h h2 hF hs hb h0 hat hk hr c00 hx hA
      go_enter Tryd.func30, Tryd.ntmps30
      go_wp2_with fail
      refine hfind.out.mono ?_
      rintro e w1 ⟨rfl, hb1⟩
      obtain ⟨A', c', e, _, _, hr, c0⟩ := (HF.out.below hb1).form
      injection e with e1 e2 e3
      subst e1 e3
      clear e2
      obtain ⟨bb, o, rfl, d1, d2, d3, d4, d5⟩ := rows_ver hr hlt
      have hxe : vs[k] = x := by have := HX.out; rw [List.getElem?_eq_getElem hlt] at this; exact Option.some.inj this
      rw [hxe] at d1 d2 d3 d4 d5
      obtain ⟨xa, xn, xt, xr, xo⟩ := x
      have HS1 := Lib.hid ((H.out.below hb1).below ((Below.refl w1.heap.size w1).alloc (Nat.le_refl _) (.cells #[.int .i64 xa, .int .i64 xn, .bool xt, .int .i64 xr, .bool xo] 68)))
      have hNB := Blk.new w1 #[.int .i64 xa, .int .i64 xn, .bool xt, .int .i64 xr, .bool xo] 68
      have HNB := Lib.hid hNB
      have HSw := Lib.hid (H.out.below hb1)
      clear hb1 hfind hr hxe hNB
      by_cases ha : xa = t
      · have HR := Lib.hid (hrd.trans (if_pos ha))
        subst ha
        clear hrd
        cases xo
        all_goals
          go_wp2_with fail
          have k1 := HNB.out.at_ 1 rfl
          have k2 := HNB.out.at_ 2 rfl
          go_quiet (fail)
          have HS2 := Lib.hid (HS1.out.drewN nq)
          go_wp2
          go_ret3
          exact hQ _ _ (by rw [HR.out]; exact ⟨rfl, HS2.out⟩)
      · rw [if_neg ha] at hrd
        have hae : (xa == t) = false := by simpa using ha
        have hnb : (xa != t) = true := bne_iff_ne.2 ha
        cases xo with
        | true =>
          have HR := Lib.hid (hrd.trans (if_pos rfl))
          clear hrd ha
          go_wp2_with fail
          go_ret3
          exact hQ _ _ (by rw [HR.out]; exact ⟨rfl, HS1.out⟩)
        | false =>
          have hR := hrd.trans (if_neg (fun h => by cases h))
          clear hrd ha
          by_cases hrt : xr < t
          · have hmx : max xr t = t := by omega
            rw [hmx] at hR
            have HR := Lib.hid hR
            clear hR hmx
            have hSa := (HSw.out.alloc #[.int .i64 xa, .int .i64 xn, .bool xt, .int .i64 t, .bool false] 68).s1
            have hput := rput1 p k (k + 1) ⟨xa, xn, xt, t, false⟩ vs _ _ hSa hl (by omega) (by omega)
            rw [alloc_sz, set_mid hlt, show ((k + 1 : Nat) : Int) = (k : Int) + 1 from rfl] at hput
            have HP := Lib.hid hput
            have hw1 : IntKind.i64.wrap ((k : Int) + 1) = (k : Int) + 1 := by rw [IntKind.wrap_i64]; omega
            clear hput hSa
            go_wp2_with fail
            refine HP.out.mono ?_
            rintro e w2 ⟨rfl, hS2⟩
            have k1 := hS2.s1.blk_.at_ 1 rfl
            have k2 := hS2.s1.blk_.at_ 2 rfl
            have HS2 := Lib.hid hS2.s1.drop
            clear hS2 HP d1 d2 d3 d4 d5 c0
            go_wp2_with fail
            go_quiet (fail)
            have HS3 := Lib.hid (HS2.out.drewN nq)
            go_wp2
            go_ret3
            exact hQ _ _ (by rw [HR.out]; exact ⟨rfl, HS3.out⟩)
          · have hmx : max xr t = xr := by omega
            rw [hmx] at hR
            rw [show vs.set k ⟨xa, xn, xt, xr, false⟩ = vs from by
              have := HX.out
              rw [List.getElem?_eq_getElem hlt] at this
              rw [← Option.some.inj this]
              exact List.set_getElem_self hlt] at hR
            have HR := Lib.hid hR
            have k1 := HNB.out.at_ 1 rfl
            have k2 := HNB.out.at_ 2 rfl
            clear hR hmx
            go_wp2_with fail
            go_quiet (fail)
            have HS3 := Lib.hid (HS1.out.drewN nq)
            go_wp2
            go_ret3
            exact hQ _ _ (by rw [HR.out]; exact ⟨rfl, HS3.out⟩)
end Go.Proofs.YtaaijjgaeppmkaaDoor
