/- CellsRuns, walked. CellsRuns: what lists of operations do with rows, and what they tell, is as the chapter says; with an error nothing is changed: for every argument the law's call returns true and leaves its arguments as they were. Conditions: none beyond the given statement's own. -/
import Derived.Test.YticgnakjnhdfhaaDoorJL
import Derived.Test.YticgnakjnhdfhaaDoorJW
section
set_option linter.unusedVariables false
set_option maxRecDepth 100000
namespace Go.Proofs.YticgnakjnhdfhaaDoor
open Go.Proofs.BL Go.Proofs.Peel Go.RowKit Go.Proofs.Ky

theorem r64_cut {l : List Rw} (h : ∀ r ∈ l, in64 r.2) : R64 (cutRs l) := fun r hr => by
  obtain ⟨x, hx, rfl⟩ := List.mem_map.1 hr
  exact h x (List.mem_of_mem_take hx)
theorem cutRs_len (l : List Rw) : (cutRs l).length ≤ 30 := by simp [cutRs]; omega
theorem cutOs_len (l : List Opr) : (cutOs l).length ≤ 12 := by simp [cutOs]; omega
theorem o64_cut {l : List Opr} (h : ∀ o ∈ l, in64 o.n ∧ in64 o.lo) : ∀ o ∈ cutOs l, in64 o.n := fun o ho => by
  obtain ⟨x, hx, rfl⟩ := List.mem_map.1 ho
  exact (h x (List.mem_of_mem_take hx)).1
/-- A made row that is not written any more. -/
theorem Sat.fixR {l : List Part} {w w' : World} {v : Value} {E : TypeId} {rows : List Rw} (h : Sat l w) (hb : Below w.heap.size w w') (ho : Own w' w.heap.size E 2 v (rwR rows)) (ht : isErrT E = false := by rfl) :
    ∃ A c, v = .slice A rows.length c ∧ rows.length ≤ c ∧ Sat (roR 2 A (rwR rows) :: l) w' := by
  obtain ⟨A, c, e, hc, _, hS⟩ := (h.made hb ho ht).still
  rw [rwR_len] at e hc
  exact ⟨A, c, e, hc, hS⟩
theorem Sat.fixO {l : List Part} {w w' : World} {v : Value} {E : TypeId} {rows : List Opr} (h : Sat l w) (hb : Below w.heap.size w w') (ho : Own w' w.heap.size E 4 v (rwO rows)) (ht : isErrT E = false := by rfl) :
    ∃ A c, v = .slice A rows.length c ∧ rows.length ≤ c ∧ Sat (roR 4 A (rwO rows) :: l) w' := by
  obtain ⟨A, c, e, hc, _, hS⟩ := (h.made hb ho ht).still
  rw [rwO_len] at e hc
  exact ⟨A, c, e, hc, hS⟩
theorem runV_told {l : List Rw} {os : List Opr} : (runV l os).2.1.length ≤ os.length := by
  have go : ∀ (os : List Opr) (i : Nat) (l m : List Rw) (ts : List Int), runA i l os = .ok (m, ts) → ts.length ≤ os.length := by
    intro os
    induction os with
    | nil => intro i l m ts h; unfold runA runP at h; injection h with h; injection h with _ h; rw [← h]; exact Nat.le_refl _
    | cons o os ih =>
      intro i l m ts h
      by_cases hd : (doV o l).2.2 = []
      · rw [do_ok hd] at h
        cases hr : runA (i + 1) (doV o l).1 os with
        | error e => rw [hr] at h; cases h
        | ok x =>
          rw [hr] at h
          injection h with h
          injection h with _ h
          have := ih _ _ x.1 x.2 hr
          rw [← h, List.length_cons, List.length_cons]
          omega
      · obtain ⟨e, _, _, hr⟩ := do_bad hd
        rw [hr] at h
        cases h
  unfold runV
  cases hr : runA 0 l os with
  | error e => exact Nat.zero_le _
  | ok x => exact go os 0 l x.1 x.2 hr
def LawPost (W : World) (e : Ending) (W' : World) : Prop := e = .returned (.bool true) ∧ Below W.heap.size W W'
set_option maxHeartbeats 8000000 in
theorem lawRuns (rows : List Rw) (L : List (List Opr × Option Addr × Nat)) (A0 : Option Addr) (c0 : Nat) (A1 : Option Addr) (c1 : Nat) (W : World) (hE : ErrT W)
    (hc0 : rows.length ≤ c0) (hr0 : RowsAt W 2 A0 (rwR rows)) (hm0 : rows.length ≤ 9223372036854775807) (hw0 : ∀ o ∈ rows, in64 o.2)
    (hc1 : L.length ≤ c1) (hr1 : RowsAt W 1 A1 (L.map fun x => [.slice x.2.1 x.1.length x.2.2])) (hm1 : L.length ≤ 9223372036854775807)
    (hw1 : ∀ x ∈ L, x.1.length ≤ x.2.2 ∧ RowsAt W 4 x.2.1 (rwO x.1) ∧ x.1.length ≤ 9223372036854775807 ∧ ∀ o ∈ x.1, in64 o.n ∧ in64 o.lo) :
    Calls Tryd.prog 3 #[.slice A0 rows.length c0, .slice A1 L.length c1] W (LawPost W) := by
  refine via fun Q hQ => ?_
  have HR0 := Lib.hid hr0
  have HR1 := Lib.hid hr1
  have HW1 := Lib.hid hw1
  have H64 := Lib.hid (r64_cut hw0)
  have HS0 := Lib.hid ((Sat.start W).old_err hE)
  have HC1 := Lib.hid (lcutR A0 c0 rows W hr0 hm0 hc0)
  have HC2 : Hid (∀ w, Below W.heap.size W w → Calls Tryd.prog 10 #[.slice A0 rows.length c0] w (CutRPost rows w)) := Lib.hid (fun w hb => lcutR A0 c0 rows w (hr0.below hb) hm0 hc0)
  clear hr0 hr1 hw1 hw0 hE
  generalize rows.length = n0 at *
  generalize hn : L.length = n at *
  have HNL := Lib.hid hn
  clear hn
  have hcl := cutRs_len rows
  generalize hcr : cutRs rows = cr at *
  have HCr := Lib.hid hcr
  clear hcr
  go_enter Tryd.func3, Tryd.ntmps3
  go_wp2_with fail
  refine HC1.out.mono ?_
  rintro e w1 ⟨v1, rfl, ho1, hb1⟩
  rw [HCr.out] at ho1
  obtain ⟨A2, c2, rfl, hc2, hS1⟩ := HS0.out.fixR hb1 ho1
  have HNw := Lib.hid (cNew A2 c2 cr _ _ hS1 (by omega) hc2)
  clear hb1 ho1 hS1 HC1
  go_wp2_with fail
  refine HNw.out.mono ?_
  rintro e w2 ⟨p, rfl, hS2⟩
  have hS2b := hS2.s1.drop
  have HCu := Lib.hid (HC2.out w2 hS2b.s2.old_)
  have HS2 := Lib.hid hS2b
  clear hS2 hS2b HNw
  go_wp2_with fail
  refine HCu.out.mono ?_
  rintro e w3 ⟨v3, rfl, ho3, hb3⟩
  rw [HCr.out] at ho3
  obtain ⟨A4, c4, rfl, hc4, hS3⟩ := HS2.out.fixR hb3 ho3
  have HRn := Lib.hid (rnew A4 c4 cr w3 hS3.rows_ (by omega) hc4)
  have HS3 := Lib.hid hS3.drop
  clear hb3 ho3 hS3 HCu
  go_wp2_with fail
  refine HRn.out.mono ?_
  rintro e w4 ⟨v4, rfl, ho4, hb4⟩
  rw [← (new_same tx okK cr [] fit_nil).1] at ho4
  obtain ⟨A6, c6, rfl, hc6, hS4⟩ := HS3.out.fixR hb4 ho4
  have HG := Lib.hid (good_new H64.out)
  have HS4 := Lib.hid hS4.s1
  have HC6 := Lib.hid hc6
  clear hb4 ho4 hS4 HRn hc6
  generalize newP tx okK cr [] = l0 at *
  have hfin : ∀ (l : List Rw) (A7 : Option Addr) (c7 : Nat) (wr : World), l.length ≤ c7 → Good l → Sat (ceP p l :: roR 2 A7 (rwR l) :: errP :: old W :: []) wr →
      Calls Tryd.prog 16 #[.pointer (some ⟨p, 0, none⟩), .slice A7 l.length c7] wr (SamePost (ceP p l :: roR 2 A7 (rwR l) :: errP :: old W :: [])) := fun l A7 c7 wr h1 h2 h3 => lsame p A7 c7 l _ wr h3 h2 h1
  have HFin := Lib.hid hfin
  clear hfin
  go_wp2_with fail
  go_loopg [6, 24] n (fun g x6 x24 wr => ∃ (j : Nat) (l : List Rw) (A7 : Option Addr) (c7 : Nat), j ≤ n ∧ g = n - j ∧ x24 = .int .i64 j ∧ x6 = .slice A7 l.length c7 ∧ Hid (l.length ≤ c7) ∧ Hid (Good l) ∧ Hid (Sat (ceP p l :: roR 2 A7 (rwR l) :: errP :: old W :: []) wr))
  case atStart => exact ⟨0, l0, A6, c6, Nat.zero_le _, rfl, rfl, rfl, HC6, HG, HS4⟩
  case round =>
    obtain ⟨j, l, A7, c7, hj, rfl, rfl, rfl, HC7, HGl, HSr⟩ := hrel
    by_cases hlt : j < n ∧ j < 12
    · obtain ⟨hlt, h12⟩ := hlt
      have hx : L[j]? = some (L[j]'(by rw [HNL.out]; exact hlt)) := List.getElem?_eq_getElem _
      generalize L[j]'(by rw [HNL.out]; exact hlt) = y at hx
      have hold := HSr.out.s3.old_
      obtain ⟨b, o, hA, hcell⟩ := (HR1.out.below hold) j _ (by rw [List.getElem?_map, hx]; rfl)
      subst hA
      have k0 := hcell 0 _ rfl
      rw [show o + j * 1 + 0 = o + j from by omega] at k0
      obtain ⟨g1, g2, g3, g4⟩ := HW1.out y (List.mem_of_getElem? hx)
      obtain ⟨os, A8, c8⟩ := y
      simp only at k0 g1 g2 g3 g4
      have HCo := Lib.hid (cutO_calls A8 c8 os wr (g2.below hold) g3 g1)
      have H64o := Lib.hid (o64_cut g4)
      have hol := cutOs_len os
      clear hcell hx hold g1 g2 g3 g4
      generalize hoc : cutOs os = oc at H64o hol
      have HOc := Lib.hid hoc
      clear hoc
      go_wp2_with fail
      refine HCo.out.mono ?_
      rintro e w5 ⟨v5, rfl, ho5, hb5⟩
      rw [HOc.out] at ho5
      obtain ⟨A9, c9, rfl, hc9, hS5⟩ := HSr.out.fixO hb5 ho5
      have HRu := Lib.hid (cRun p l A9 c9 oc _ w5 hS5.s3.s2 HGl.out.1 HGl.out.2.1 H64o.out (by omega) hc9)
      have HC9 := Lib.hid hc9
      have htl := runV_told (l := l) (os := oc)
      have hgv := good_runV HGl.out H64o.out
      have hwv := runW_V HGl.out.1 oc
      generalize runV l oc = rv at HRu htl hgv hwv
      obtain ⟨m, ts, pl, er⟩ := rv
      simp only at htl hgv
      have HGm := Lib.hid hgv
      have HWv := Lib.hid hwv
      clear hb5 ho5 hS5 HCo hc9 hgv hwv k0
      go_wp2_with fail
      refine HRu.out.mono ?_
      rintro e w6 ⟨v6, rfl, hS6⟩
      obtain ⟨A10, c10, hv6, hc10, _, hr10⟩ := hS6.own_.slv'
      rw [rwI_len] at hv6 hc10
      simp only at hv6 hc10
      subst hv6
      have HRr := Lib.hid (rRun A7 A9 c7 c9 l oc _ w6 (hS6.s3.s4) HGl.out.1 HGl.out.2.1 H64o.out (by omega) HC9.out HC7.out)
      rw [HWv.out] at HRr
      have HC10 := Lib.hid hc10
      clear hS6 HRu hr10 hc10
      go_wp2_with fail
      refine HRr.out.mono ?_
      rintro e w7 ⟨v7, A12, c12, rfl, hc12, hS7⟩
      simp only at hc12 hS7
      obtain ⟨A13, c13, hv7, hc13, _, hr13⟩ := hS7.own_.slv'
      rw [rwI_len] at hv7 hc13
      subst hv7
      have HNu := Lib.hid (rnums A10 A13 c10 c13 ts w7 hS7.s4.ownRows hr13 (by omega) HC10.out hc13)
      have HS7 := Lib.hid hS7
      have HC12 := Lib.hid hc12
      have hb1 : (er != er) = false := bne_self_eq_false er
      have hb2 : (pl != pl) = false := bne_self_eq_false pl
      clear hS7 hr13 hc12 hc13 HRr
      go_wp2_with fail
      refine HNu.out.mono ?_
      rintro e w8 ⟨rfl, hb8⟩
      have hS8 := (HS7.out.below hb8).drop.s4.s2.drop.s2.drop.s2.drop
      have HSm := Lib.hid (HFin.out m A12 c12 w8 HC12.out HGm.out hS8)
      clear hb8 hS8 HNu
      go_wp2_with fail
      refine HSm.out.mono ?_
      rintro e w9 ⟨rfl, hS9⟩
      have HS9 := Lib.hid hS9
      clear hS9 HSm
      go_wp2_with fail
      go_roundg (n - (j + 1))
      case measure => omega
      case rel => exact ⟨j + 1, m, A12, c12, by omega, rfl, rfl, rfl, HC12, HGm, HS9⟩
    · have HSm := Lib.hid (HFin.out l A7 c7 wr HC7.out HGl.out HSr.out)
      by_cases hjn : j < n
      · have h12 : ¬ j < 12 := fun h => hlt ⟨hjn, h⟩
        have hx : L[j]? = some (L[j]'(by rw [HNL.out]; exact hjn)) := List.getElem?_eq_getElem _
        generalize L[j]'(by rw [HNL.out]; exact hjn) = y at hx
        obtain ⟨b, o, hA, hcell⟩ := (HR1.out.below HSr.out.s3.old_) j _ (by rw [List.getElem?_map, hx]; rfl)
        subst hA
        have k0 := hcell 0 _ rfl
        rw [show o + j * 1 + 0 = o + j from by omega] at k0
        clear hcell hx hlt
        go_wp2_with fail
        refine HSm.out.mono ?_
        rintro e w9 ⟨rfl, hS9⟩
        have HAw := Lib.hid (lawake (old W :: []) w9 hS9.drop.drop)
        clear hS9 HSm
        go_wp2_with fail
        refine HAw.out.mono ?_
        rintro e w10 ⟨rfl, hS10⟩
        have HB := Lib.hid hS10.s1.old_
        clear hS10 HAw
        go_wp2
        exact ⟨rfl, HB.out⟩
      · clear hlt
        go_wp2_with fail
        refine HSm.out.mono ?_
        rintro e w9 ⟨rfl, hS9⟩
        have HAw := Lib.hid (lawake (old W :: []) w9 hS9.drop.drop)
        clear hS9 HSm
        go_wp2_with fail
        refine HAw.out.mono ?_
        rintro e w10 ⟨rfl, hS10⟩
        have HB := Lib.hid hS10.s1.old_
        clear hS10 HAw
        go_wp2
        exact ⟨rfl, HB.out⟩
end Go.Proofs.YticgnakjnhdfhaaDoor
end

section
namespace Go.Proofs.YticgnakjnhdfhaaDoor
open Go.Proofs.BL Go.ChangeShapes Go.WideShapes Go.ChangeAt Go.RowKit Go.Deep
set_option maxRecDepth 100000
set_option linter.unusedVariables false

/-- CellsRuns: what the walk gives, for every argument. -/
theorem cellsRuns_contract (H : Type) (enc : TypeId × Value → H) (W : World) (base : Nat) (args : Array Value) (ds gs : List (DataW H)) (before : List MemPlace)
    (hval : ∀ (j : Nat) t v, Tryd.f3.params[j]? = some t → args[j]? = some v → Value.okWide Tryd.prog W .any base t v)
    (hW : DataW.Whole enc Tryd.prog Tryd.f3.params.toList Rows.cellsRunsSpec.vars false W args.toList ds gs before) (hL : laidMetH Tryd.prog Rows.cellsRunsRow.laid W) :
    Calls Tryd.prog 3 args W fun e W' => ∃ v, e = .returned v ∧ Rows.cellsRunsSpec.post enc Tryd.prog Tryd.f3 false true false false W args v W' := by
  have hE := errT_of_laid hL
  have hW' := hW
  obtain ⟨p, q, hA0, hV, hpq, hfz, hnd⟩ := hW
  have hA : DataW.TrodAll enc Tryd.prog W 0 (fun _ => true) true Tryd.f3.params.toList args.toList ds p := hA0
  rw [Tryd.params3] at hA hval
  obtain ⟨v0, vs0, d0, ds0, p0, q0, hargs, rfl, rfl, h0, r0⟩ := trodAll_cons hA
  obtain ⟨v1, vs1, d1, ds1, p1, q1, rfl, rfl, rfl, h1, r1⟩ := trodAll_cons r0
  obtain ⟨rfl, rfl, rfl⟩ := trodAll_nil r1
  obtain rfl : args = #[v0, v1] := by cases args; simp_all
  obtain ⟨l0, A0, c0, rfl, hc0, hr0, hm0, hw0⟩ := open_rows (hval 0 _ v0 rfl rfl) h0
  obtain ⟨l1, A1, c1, rfl, hc1, hr1, hm1, hw1⟩ := open_lists (hval 1 _ v1 rfl rfl) h1
  obtain ⟨rfl, rfl⟩ := trodVars_none hV
  clear hA0
  have hlt : ∀ x ∈ before, x.block < W.heap.size := fun x hx => by simpa using hW'.lt x hx
  have hlt0 : ∀ x ∈ p0, x.block < W.heap.size := fun x hx => hlt x (by rw [hpq]; simp [hx])
  have hlt1 : ∀ x ∈ p1, x.block < W.heap.size := fun x hx => hlt x (by rw [hpq]; simp [hx])
  refine (lawRuns l0 l1 A0 c0 A1 c1 W hE hc0 hr0 hm0 hw0 hc1 hr1 hm1 hw1).mono fun e W' ⟨he, hb⟩ => ?_
  subst he
  refine ⟨_, rfl, law_post (pa := p0 ++ (p1 ++ [])) (by kernel_rfl) Tryd.underlying4 hW' rfl rfl rfl ?_ hb⟩
  rw [Tryd.params3]
  exact trodAll_cons_mk (Below.trod laidO (by kernel_rfl) (of_decide_eq_true (by kernel_rfl)) h0 hb hlt0) (trodAll_cons_mk (Below.trod laidO (by kernel_rfl) (of_decide_eq_true (by kernel_rfl)) h1 hb hlt1) trodAll_mk0)

set_option maxRecDepth 100000 in
theorem cellsRuns_lifted (os : Os) (started : os.Started) (H : Type) (enc : TypeId × Value → H) (F : Stop.Interp) :
    ReturnsInHanded {} Tryd.checked os 3 .any ((OpenSpec.ofChange Rows.cellsRunsSpec).preRow enc Tryd.prog Tryd.f3 Rows.cellsRunsRow.domain false Rows.cellsRunsRow.laid) (((OpenSpec.ofChange Rows.cellsRunsSpec).at F).post enc Tryd.prog Tryd.f3 false true false false) := by
  obtain ⟨places, hx⟩ : ∃ places, DataW.whole enc Tryd.prog ((laidWorld os).forCall (fun _ _ => 0) ⟨#[], #[.slice none 0 0, .slice none 0 0], []⟩).memory Tryd.f3.params.toList Rows.cellsRunsSpec.vars false #[.slice none 0 0, .slice none 0 0].toList 8 = some ([.nil, .nil], [], places) := ⟨[], by kernel_rfl⟩
  refine returnsInHanded_of_row (C := Tryd.checked) (s := OpenSpec.ofChange Rows.cellsRunsSpec) ownK started (by kernel_rfl) Tryd.func3
    (witness_row_atRef (enc := enc) (C := Tryd.checked) false (laidWorld os) #[.slice none 0 0, .slice none 0 0] rfl (by kernel_rfl) (by kernel_rfl) (by kernel_rfl)
      (OpenSpec.preRow_of_cond 8 hx (by kernel_rfl) (fun k hk => by cases hk) (by kernel_rfl) (laid_met os _))) ?_
  intro W base args ds gs before hval hW _ _ _ hL _ _
  exact cellsRuns_contract H enc W base args ds gs before hval hW hL
theorem cellsRuns_said : Rows.CellsRunsSaid :=
  OpenClaim.holds_of_cond 3 Tryd.f3 rfl rfl rfl rfl rfl rfl rfl ⟨rfl, rfl, rfl, rfl, rfl⟩ rfl rfl rfl rfl rfl (by kernel_rfl) Tryd.func3 (by kernel_rfl)
    (of_decide_eq_true (by kernel_rfl)) (by unfold Func.isWrapper; first | (rw [if_pos (by decide +kernel)]; kernel_rfl) | (rw [if_neg (by decide +kernel)]; exact ⟨rfl, rfl⟩))
    (fun os started H enc _ F => by rw [OpenClaim.pre_eq_preRow]; exact cellsRuns_lifted os started H enc F)
theorem cellsRuns_plain (f : FuncId) (fn : Func) (hf : Tryd.pinned.checked.prog.funcNamed "byroad/byroadlaw07.CellsRuns" = some f) (hfn : Tryd.pinned.checked.prog.funcs[f]? = some fn) :
    true = Tryd.pinned.checked.prog.looks [] ∧ ∀ (j : Nat) t, fn.params[j]? = some t → Tryd.pinned.checked.prog.wantsStandIn t = false := by
  obtain rfl : f = 3 := Option.some.inj ((show Tryd.prog.funcNamed "byroad/byroadlaw07.CellsRuns" = some 3 by kernel_rfl).symm.trans hf) |>.symm
  obtain rfl : fn = Tryd.f3 := (Option.some.inj (Tryd.func3.symm.trans hfn)).symm
  refine ⟨by kernel_rfl, fun j t ht => ?_⟩
  rw [Tryd.params3] at ht
  have hall : (#[22, 23] : Array Nat).all (fun t => !Tryd.prog.wantsStandIn t) = true := by kernel_rfl
  have := Array.all_eq_true'.1 hall t (Array.mem_of_getElem? ht)
  show Tryd.prog.wantsStandIn t = false
  simpa using this
/-- The card of CellsRuns. -/
theorem cellsRuns_card : Rows.CellsRunsCardSaid :=
  Claim7.holds_tied_plain_at .later [] _ _ _ _ cellsRuns_said (fun _ h => by cases h) (by kernel_rfl) (fun _ h => by cases h) cellsRuns_row_tie rfl ⟨rfl, rfl⟩ (by kernel_rfl) rfl cellsRuns_plain (by kernel_rfl)

end Go.Proofs.YticgnakjnhdfhaaDoor
end
