/- slices.DeleteFunc, walked. -/
import Derived.Test.YtoimhigpbmabeaaWi
set_option linter.unusedVariables false
set_option maxRecDepth 100000
namespace Go.Proofs.Ytoimhigpbmabeaa
open Go.ChangeShapes Go.ChangeMaps Go.Proofs.BL Go.RowKit Go.Maps Go.Proofs.Wm Go.Proofs.YtoimhigpbmabeaaW.PrintWords Go.Proofs.Ytoimhigpbmabeaa.G

def DelPost (base : Nat) (l : List Int) (w0 : World) (e : Ending) (w' : World) : Prop := ∃ v', e = .returned v' ∧ Own w' base 3 1 v' (rwI l) ∧ Below w0.heap.size w0 w'

set_option maxHeartbeats 4000000 in
theorem deleteFunc_calls (g : FuncId) (lb : Array Value) (eg : ∀ args w, (callFunc g args).run Try.prog w = .ok (.enter g args) w) (p : Int → Bool) (l : List Int) (v : Value) (base : Nat) (w0 w : World) (hb : Below w0.heap.size w0 w) (hbase : w0.heap.size ≤ base)
    (ho : Own w base 3 1 v (rwI l)) (hp : Gives g lb p l w0) (hlen : l.length ≤ 2000000) :
    Calls Try.prog 30 #[v, .func (.func g) #[] lb] w (DelPost base (filtN p l) w0) := by
  obtain ⟨A, c, rfl, hc, hA, hr⟩ := ho.slv'
  rw [show (rwI l).length = l.length from by simp] at *
  have hg0 : Gives g lb p l w := fun W hW => hp W (hb.trans (hW.mono hb.size))
  have hif := indexFunc_calls g lb eg p l A c w hr hc hg0 hlen
  refine via fun Q hQ => ?_
  by_cases hi : idx p l = -1
  · have hfl := filtN_none hi
    rw [hi] at hif
    have HIF := Lib.hid hif
    have HFL := Lib.hid hfl
    have HO := Lib.hid ho
    have HB := Lib.hid hb
    clear hif hfl ho hb hr hg0 hp hi hA
    go_enter Try.func30, Try.ntmps30
    go_wp2_with fail
    refine HIF.out.mono ?_
    rintro e w1 ⟨rfl, hb1⟩
    have HO1 := Lib.hid (HO.out.below hb1)
    have HB1 := Lib.hid (HB.out.trans (hb1.mono HB.out.size))
    clear hb1
    go_wp2
    exact ⟨_, rfl, by rw [HFL.out]; exact HO1.out, HB1.out⟩
  · obtain ⟨k, hk, hik, hpk, hbef⟩ := idx_at hi
    rw [hik] at hif
    obtain ⟨g0, cap, he, hgb, hgw⟩ := own_form ho (by intro e; rw [List.map_eq_nil_iff] at e; subst e; simp at hk)
    injection he with he he1 he2
    clear he1
    subst he he2
    have hbf := filtN_before hk hpk hbef
    have HIF := Lib.hid hif
    have HBF := Lib.hid hbf
    have HPK := Lib.hid hpk
    have HO := Lib.hid ho
    have HB := Lib.hid hb
    have HP := Lib.hid hp
    clear hif hbf hpk ho hb hr hg0 hp hi hA hik hbef
    go_enter Try.func30, Try.ntmps30
    go_wp2_with fail
    refine HIF.out.mono ?_
    rintro e w1 ⟨rfl, hb1⟩
    have ho1 := HO.out.below hb1
    have hb1' := HB.out.trans (hb1.mono HB.out.size)
    clear hb1 HIF
    go_wp2_with fail
    go_loopg [5, 6] (l.length - (k + 1)) (fun g u5 u6 wr => ∃ (j m : Nat) (cur : List Int), k + 1 ≤ j ∧ j ≤ l.length ∧ g = l.length - j ∧ u5 = .int .i64 m ∧ u6 = .int .i64 j ∧ m = (filtN p (l.take j)).length ∧ cur.length = l.length ∧ cur.take m = filtN p (l.take j) ∧ (∀ q, j ≤ q → cur[q]? = l[q]?) ∧
      Own wr base 3 1 (.slice (some ⟨g0, 0, none⟩) l.length c) (rwI cur) ∧ Below w0.heap.size w0 wr)
    case atStart => exact ⟨k + 1, k, l, Nat.le_refl _, hk, rfl, by go_num, by go_num, by rw [HBF.out, List.length_take]; omega, rfl, by rw [HBF.out], fun q _ => rfl, ho1, hb1'⟩
    case round =>
      clear ho1 hb1'
      obtain ⟨j, m, cur, hj1, hj2, rfl, rfl, rfl, hm, hcl, hct, hcr, hown, hbw⟩ := hrel
      have hmj : m < j := by rw [hm]; exact filtN_lt (by omega) hj2 HPK.out
      by_cases hlt : j < l.length
      · have hcj : cur[j]'(by omega) = l[j] := by
          have := hcr j (Nat.le_refl _)
          rw [List.getElem?_eq_getElem (by omega), List.getElem?_eq_getElem hlt] at this
          exact Option.some.inj this
        have c0 := own_cell hown (j := j) (by omega)
        rw [hcj] at c0
        have hcall := HP.out wr hbw l[j] (List.getElem_mem hlt)
        have hst := filtN_step (p := p) hlt
        have hgx : ∃ x, x = l[j] := ⟨_, rfl⟩
        obtain ⟨x, hx⟩ := hgx
        rw [← hx] at c0 hcall hst
        have HX := Lib.hid hx
        have HC := Lib.hid hcall
        have HS := Lib.hid hst
        have HM := Lib.hid hm
        have HCL := Lib.hid hcl
        have HCT := Lib.hid hct
        have HCR := Lib.hid hcr
        have HOW := Lib.hid hown
        have HBW := Lib.hid hbw
        clear hx hcall hst hm hcl hct hcr hown hbw hcj
        go_wp2_with fail
        refine HC.out.mono ?_
        rintro e w2 ⟨rfl, hb2⟩
        have ho2 := HOW.out.below hb2
        have hbw2 := HBW.out.trans (hb2.mono HBW.out.size)
        have hl2 : m < cur.length := by rw [HCL.out]; omega
        have c2 := own_cell ho2 (j := m) hl2
        have f2 : w2.frozen? ⟨g0, m, none⟩ = false := by
          obtain ⟨cu, hh, _⟩ := own_cur ho2
          exact Blk.free hh m
        generalize cur[m] = z at c2
        have HO2 := Lib.hid ho2
        have HB2 := Lib.hid hbw2
        clear hb2 ho2 hbw2 HC
        cases hpx : p x with
        | true =>
          rw [hpx] at HS
          have HPX := Lib.hid hpx
          clear hpx
          go_wp2
          go_roundg (l.length - (j + 1))
          case measure => omega
          case rel => exact ⟨j + 1, m, cur, by omega, hlt, rfl, rfl, by go_num, by rw [HS.out]; simpa using HM.out, HCL.out, by rw [HS.out]; simpa using HCT.out, fun q hq => HCR.out q (by omega), HO2.out, HB2.out⟩
        | false =>
          rw [hpx] at HS
          have HPX := Lib.hid hpx
          clear hpx
          go_wp2
          go_roundg (l.length - (j + 1))
          case measure => omega
          case rel =>
            refine ⟨j + 1, m + 1, cur.set m x, by omega, hlt, rfl, by go_num, by go_num, by rw [HS.out]; simp [HM.out], by rw [List.length_set]; exact HCL.out, ?_, fun q hq => ?_, own_store HO2.out m x, ?_⟩
            · rw [HS.out, List.take_add_one, List.take_set_of_le (Nat.le_refl _), HCT.out, List.getElem?_set_self hl2]
              simp
            · rw [List.getElem?_set_ne (by omega)]
              exact HCR.out q (by omega)
            · exact ((Fr.of_below (S := none_) HB2.out).setCell (p := ⟨g0, m, none⟩) (.inl (by have := hgb; simp only; omega)) _).below
      · obtain rfl : j = l.length := by omega
        rw [List.take_length] at hm hct
        have hclr : ∀ ty, (Builtin.clear_ #[26] ty #[.slice (some ⟨g0, m, none⟩) (l.length - m) (c - m)]).run Try.prog wr = .ok (.tuple #[]) (wr.setCells g0 m (List.replicate (l.length - m) (.int .i64 0))) := fun ty =>
          Lib.run_clear_slice wr 26 3 ty (.int .i64 0) Try.underlying26 (fun W => Try.zeroValue3 W) rfl rfl g0 m _ _ (by omega) (fun q hq => by rw [own_cell hown (j := m + q) (by omega)]; rfl) (fun q hq => by
            obtain ⟨cu, hh, _⟩ := own_cur hown
            exact Blk.free hh _)
        have hcut := own_cut hown m (by omega)
        rw [hct] at hcut
        have hfin := own_cells (Nat.le_refl _) (List.replicate (l.length - m) (.int .i64 0)) m wr hcut (Nat.le_refl _)
        have hbf : Below w0.heap.size w0 (wr.setCells g0 m (List.replicate (l.length - m) (.int .i64 0))) := ((Fr.of_below (S := none_) hbw).trans (fr_cells (g := g0) _ m wr) (fun i hi hS => by cases hS; omega)).below
        have hcm : ¬ c = m := by omega
        have HF := Lib.hid hfin
        have HBF2 := Lib.hid hbf
        clear hm hcl hct hcr hown hbw hcut hfin hbf HO HB HP HPK HBF
        go_wp2
        exact ⟨_, rfl, HF.out, HBF2.out⟩
end Go.Proofs.Ytoimhigpbmabeaa
