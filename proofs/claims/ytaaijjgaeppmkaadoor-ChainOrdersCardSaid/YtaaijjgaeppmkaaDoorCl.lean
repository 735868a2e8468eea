/- The document's chain: Write, Ends. -/
import Derived.Test.YtaaijjgaeppmkaaDoorCk
set_option linter.unusedVariables false
set_option maxRecDepth 100000
namespace Go.Proofs.YtaaijjgaeppmkaaDoor
open Go.Proofs.BL Go.Proofs.Peel Go.RowKit Go.Proofs.Cn

def RWrPost (p : Nat) (l : List Part) (r : Vs × Int) (e : Ending) (w' : World) : Prop := e = .returned (.int .i64 r.2) ∧ Sat (rcP p r.1 :: l) w'
theorem up1 {w : World} {a : Addr} {v : Value} (h : w.cell? a = some v) (o : Obj) : (w.alloc o).cell? a = some v := (((Below.refl w.heap.size w).alloc (Nat.le_refl _) o).cell (World.block_lt_of_cell? w _ h)).trans h
theorem mk_true (t n : Int) : mk t n true true = ⟨t, n, true, 0, true⟩ := rfl
theorem mk_false (t n : Int) : mk t n false true = ⟨t, 0, false, 0, true⟩ := rfl
set_option maxHeartbeats 8000000 in
theorem rWrite (p : Nat) (vs : Vs) (t n : Int) (th : Bool) (l : List Part) (w : World) (h : Sat (rcP p vs :: l) w) (hs : Ok vs) (hl : vs.length ≤ 1000000) :
    Calls Tryd.prog 31 #[.pointer (some ⟨p, 0, none⟩), .int .i64 t, .int .i64 n, .bool th] w (RWrPost p l (wrV vs t n th)) := by
  obtain ⟨v, hF, h2⟩ := h.rcF
  have hfind := Lib.hid (rfind p v vs t w hF hs hl)
  have H := Lib.hid h
  refine via fun Q hQ => ?_
  by_cases hb : bad t
  · have hrd : wrV vs t n th = (vs, 2) := by rw [wrV, if_pos hb]
    rw [hrd] at hQ
    have hb2 : t < 1 ∨ t > 1073741824 := hb
    clear h h2 hF hs hrd hb hfind
    by_cases h1 : t < 1
    · go_enter Tryd.func31, Tryd.ntmps31
      go_wp2_with fail
      exact ⟨rfl, H.out⟩
    · have h3 : t > 1073741824 := hb2.resolve_left h1
      clear hb2
      go_enter Tryd.func31, Tryd.ntmps31
      go_wp2_with fail
      exact ⟨rfl, H.out⟩
  · have hb3 : ¬ t < 1 := fun e => hb (.inl e)
    have hb4 : ¬ t > 1073741824 := fun e => hb (.inr e)
    by_cases h0 : cnt vs t = 0
    · have hrd : wrV vs t n th = (vs, 22) := by rw [wrV, if_neg hb, at_none h0]
      rw [hrd] at hQ
      rw [h0] at hfind
      clear h h2 hF hs hrd hb h0
      cases th
      all_goals
        go_enter Tryd.func31, Tryd.ntmps31
        go_wp2_with fail
        refine hfind.out.mono ?_
        rintro e w1 ⟨rfl, hb1⟩
        have HS := Lib.hid (H.out.below hb1)
        clear hb1 hfind
        go_wp2_with fail
        exact ⟨rfl, HS.out⟩
    · obtain ⟨x, hx, hat⟩ := at_some h0
      have hrd : wrV vs t n th = if x.at_ = t ∧ x.open_ = true then (vs.set (cnt vs t - 1) (mk t n th true), 0) else if x.at_ = t ∨ x.read > t then (vs, 22) else (vs.take (cnt vs t - 1 + 1) ++ mk t n th true :: vs.drop (cnt vs t - 1 + 1), 0) := by
        rw [wrV, if_neg hb, hat]
      have hox : x.open_ = true → x.read = 0 := (hs.2 x (List.mem_of_getElem? hx)).2.2
      have hk : ((cnt vs t : Int) - 1) = ((cnt vs t - 1 : Nat) : Int) := by omega
      rw [hk] at hfind
      generalize wrV vs t n th = R at hrd hQ
      generalize cnt vs t - 1 = k at hfind hx hrd
      obtain ⟨A, c, rfl, hc, hA, hr, c00⟩ := hF.form
      have hlt := (List.getElem?_eq_some_iff.1 hx).1
      have HF := Lib.hid hF
      have HX := Lib.hid hx
      have HOX := Lib.hid hox
      clear h h2 hF hs hb h0 hat hk hr c00 hx hA hox
      have hw1 : IntKind.i64.wrap ((k : Int) + 1) = (k : Int) + 1 := by rw [IntKind.wrap_i64]; omega
      cases th with
      | true =>
          rw [mk_true] at hrd
          go_enter Tryd.func31, Tryd.ntmps31
          go_wp2_with fail
          refine hfind.out.mono ?_
          rintro e w1 ⟨rfl, hb1⟩
          obtain ⟨A', c', e, _, _, hr, c0⟩ := (HF.out.below hb1).form
          injection e with e1 e2 e3
          subst e1 e3
          clear e2
          obtain ⟨bb, o, rfl, d1, d2, d3, d4, d5⟩ := rows_ver hr hlt
          have hxe : vs[k] = x := by have := HX.out; rw [List.getElem?_eq_getElem hlt] at this; exact Option.some.inj this
          rw [hxe] at d1 d2 d3 d4 d5
          obtain ⟨xa, xn, xt, xr, xo⟩ := x
          have HSw := Lib.hid (H.out.below hb1)
          clear hb1 hfind hr hxe
          by_cases hrt : xr > t
          · have HR := Lib.hid (hrd.trans ((if_neg (fun h => by have := HOX.out h.2; simp only at this hrt; omega)).trans (if_pos (.inr hrt))))
            clear hrd
            go_wp2_with fail
            exact (by rw [HR.out]; exact ⟨rfl, HSw.out⟩)
          · by_cases ha : xa = t
            · subst ha
              cases xo with
              | false =>
                have HR := Lib.hid (hrd.trans ((if_neg (fun h => by cases h.2)).trans (if_pos (.inl rfl))))
                clear hrd
                go_wp2_with fail
                exact (by rw [HR.out]; exact ⟨rfl, HSw.out⟩)
              | true =>
                have HR := Lib.hid (hrd.trans (if_pos ⟨rfl, rfl⟩))
                clear hrd
                have hSa := (HSw.out.alloc #[.int .i64 xa, .int .i64 n, .bool true, .int .i64 0, .bool true] 68).s1
                have c0n := up1 c0 (.cells #[.int .i64 xa, .int .i64 n, .bool true, .int .i64 0, .bool true] 68)
                have d1n := up1 d1 (.cells #[.int .i64 xa, .int .i64 n, .bool true, .int .i64 0, .bool true] 68)
                have hput := rput1 p k (k + 1) ⟨xa, n, true, 0, true⟩ vs _ _ hSa hl (by omega) (by omega)
                rw [alloc_sz, set_mid hlt, show ((k + 1 : Nat) : Int) = (k : Int) + 1 from rfl] at hput
                have HP := Lib.hid hput
                clear hput hSa
                go_wp2_with fail
                refine HP.out.mono ?_
                rintro e w2 ⟨rfl, hS2⟩
                have HS2 := Lib.hid hS2.s1.drop
                clear hS2 HP d1 d2 d3 d4 d5 c0 c0n d1n
                go_wp2_with fail
                exact (by rw [HR.out]; exact ⟨rfl, HS2.out⟩)
            · have hae : (xa == t) = false := by simpa using ha
              have HR := Lib.hid (hrd.trans ((if_neg (fun h => ha h.1)).trans (if_neg (fun h => h.elim ha hrt))))
              clear hrd
              have hSa := (HSw.out.alloc #[.int .i64 t, .int .i64 n, .bool true, .int .i64 0, .bool true] 68).s1
              have c0n := up1 c0 (.cells #[.int .i64 t, .int .i64 n, .bool true, .int .i64 0, .bool true] 68)
              have d1n := up1 d1 (.cells #[.int .i64 t, .int .i64 n, .bool true, .int .i64 0, .bool true] 68)
              have hput := rput1 p (k + 1) (k + 1) ⟨t, n, true, 0, true⟩ vs _ _ hSa hl (by omega) (by omega)
              rw [alloc_sz, ins_mid, show ((k + 1 : Nat) : Int) = (k : Int) + 1 from rfl] at hput
              have HP := Lib.hid hput
              clear hput hSa
              go_wp2_with fail
              refine HP.out.mono ?_
              rintro e w2 ⟨rfl, hS2⟩
              have HS2 := Lib.hid hS2.s1.drop
              clear hS2 HP d1 d2 d3 d4 d5 c0 c0n d1n
              go_wp2_with fail
              exact (by rw [HR.out]; exact ⟨rfl, HS2.out⟩)
      | false =>
          rw [mk_false] at hrd
          go_enter Tryd.func31, Tryd.ntmps31
          go_wp2_with fail
          refine hfind.out.mono ?_
          rintro e w1 ⟨rfl, hb1⟩
          obtain ⟨A', c', e, _, _, hr, c0⟩ := (HF.out.below hb1).form
          injection e with e1 e2 e3
          subst e1 e3
          clear e2
          obtain ⟨bb, o, rfl, d1, d2, d3, d4, d5⟩ := rows_ver hr hlt
          have hxe : vs[k] = x := by have := HX.out; rw [List.getElem?_eq_getElem hlt] at this; exact Option.some.inj this
          rw [hxe] at d1 d2 d3 d4 d5
          obtain ⟨xa, xn, xt, xr, xo⟩ := x
          have HSw := Lib.hid (H.out.below hb1)
          clear hb1 hfind hr hxe
          by_cases hrt : xr > t
          · have HR := Lib.hid (hrd.trans ((if_neg (fun h => by have := HOX.out h.2; simp only at this hrt; omega)).trans (if_pos (.inr hrt))))
            clear hrd
            go_wp2_with fail
            exact (by rw [HR.out]; exact ⟨rfl, HSw.out⟩)
          · by_cases ha : xa = t
            · subst ha
              cases xo with
              | false =>
                have HR := Lib.hid (hrd.trans ((if_neg (fun h => by cases h.2)).trans (if_pos (.inl rfl))))
                clear hrd
                go_wp2_with fail
                exact (by rw [HR.out]; exact ⟨rfl, HSw.out⟩)
              | true =>
                have HR := Lib.hid (hrd.trans (if_pos ⟨rfl, rfl⟩))
                clear hrd
                have hSa := (HSw.out.alloc #[.int .i64 xa, .int .i64 0, .bool false, .int .i64 0, .bool true] 68).s1
                have c0n := up1 c0 (.cells #[.int .i64 xa, .int .i64 0, .bool false, .int .i64 0, .bool true] 68)
                have d1n := up1 d1 (.cells #[.int .i64 xa, .int .i64 0, .bool false, .int .i64 0, .bool true] 68)
                have hput := rput1 p k (k + 1) ⟨xa, 0, false, 0, true⟩ vs _ _ hSa hl (by omega) (by omega)
                rw [alloc_sz, set_mid hlt, show ((k + 1 : Nat) : Int) = (k : Int) + 1 from rfl] at hput
                have HP := Lib.hid hput
                clear hput hSa
                go_wp2_with fail
                refine HP.out.mono ?_
                rintro e w2 ⟨rfl, hS2⟩
                have HS2 := Lib.hid hS2.s1.drop
                clear hS2 HP d1 d2 d3 d4 d5 c0 c0n d1n
                go_wp2_with fail
                exact (by rw [HR.out]; exact ⟨rfl, HS2.out⟩)
            · have hae : (xa == t) = false := by simpa using ha
              have HR := Lib.hid (hrd.trans ((if_neg (fun h => ha h.1)).trans (if_neg (fun h => h.elim ha hrt))))
              clear hrd
              have hSa := (HSw.out.alloc #[.int .i64 t, .int .i64 0, .bool false, .int .i64 0, .bool true] 68).s1
              have c0n := up1 c0 (.cells #[.int .i64 t, .int .i64 0, .bool false, .int .i64 0, .bool true] 68)
              have d1n := up1 d1 (.cells #[.int .i64 t, .int .i64 0, .bool false, .int .i64 0, .bool true] 68)
              have hput := rput1 p (k + 1) (k + 1) ⟨t, 0, false, 0, true⟩ vs _ _ hSa hl (by omega) (by omega)
              rw [alloc_sz, ins_mid, show ((k + 1 : Nat) : Int) = (k : Int) + 1 from rfl] at hput
              have HP := Lib.hid hput
              clear hput hSa
              go_wp2_with fail
              refine HP.out.mono ?_
              rintro e w2 ⟨rfl, hS2⟩
              have HS2 := Lib.hid hS2.s1.drop
              clear hS2 HP d1 d2 d3 d4 d5 c0 c0n d1n
              go_wp2_with fail
              exact (by rw [HR.out]; exact ⟨rfl, HS2.out⟩)
end Go.Proofs.YtaaijjgaeppmkaaDoor
