/- graph.reach, walked. -/
import Derived.Test.YtoimhigpbmabeaaWf
import Derived.Maps.OwnOps
set_option linter.unusedVariables false
set_option maxRecDepth 100000
namespace Go.Proofs.Ytoimhigpbmabeaa
open Go.ChangeShapes Go.ChangeMaps Go.Proofs.BL Go.RowKit Go.Maps Go.Proofs.Wm Go.Proofs.YtoimhigpbmabeaaW.PrintWords Go.Proofs.Ytoimhigpbmabeaa.G

theorem own_take {w : World} {base g n cap : Nat} {rows : List (List Value)} {r : List Value} (h : Own w base 3 1 (.slice (some ⟨g, 0, none⟩) (n + 1) cap) (rows ++ [r])) (hn : rows.length = n) : Own w base 3 1 (.slice (some ⟨g, 0, none⟩) n cap) rows := by
  subst hn
  have hr : r.length = 1 := h.2 r (by simp)
  have h2 : ∀ r, r ∈ rows → r.length = 1 := fun r hr => h.2 r (by simp [hr])
  have hfl : rows.flatten.length = rows.length * 1 := by
    clear h hr
    induction rows with
    | nil => rfl
    | cons x xs ih => rw [List.flatten_cons, List.length_append, h2 x (by simp), ih (fun r hr => h2 r (by simp [hr])), List.length_cons]; omega
  refine ⟨⟨hfl, .inr ?_⟩, h2⟩
  rcases h.1.2 with ⟨h1, _⟩ | ⟨g', cap', cur, h1, hb, hh, hc, hm, hs, ht⟩
  · cases h1
  · injection h1 with h1 h3 h4
    injection h1 with h1
    injection h1 with h1
    subst h1 h4
    refine ⟨g, cap, cur, rfl, hb, hh, (by have := hc; simp only [List.length_append, List.length_singleton] at this; omega), hm, hs, ?_⟩
    have := congrArg (List.take (rows.length * 1)) ht
    rw [List.take_take, List.flatten_append] at this
    rw [show min (rows.length * 1) ((rows ++ [r]).length * 1) = rows.length * 1 from by simp] at this
    rw [this, List.take_left' hfl]
theorem own_lower1 {w : World} {base base' : Nat} {v : Value} {rows : List (List Value)} (h : Own w base 3 1 v rows) (hb : base' ≤ base) : Own w base' 3 1 v rows := ⟨own_weaken h.1 hb, h.2⟩
theorem own_form {w : World} {base : Nat} {v : Value} {rows : List (List Value)} (h : Own w base 3 1 v rows) (hne : rows ≠ []) : ∃ g cap, v = .slice (some ⟨g, 0, none⟩) rows.length cap ∧ base ≤ g ∧ g < w.heap.size := by
  rcases h.1.2 with ⟨_, h1⟩ | ⟨g, cap, cur, h1, hb, hh, _⟩
  · exact absurd (List.eq_nil_of_length_eq_zero h1) hne
  · exact ⟨g, cap, h1, hb, (Array.getElem?_eq_some_iff.1 hh).1⟩
theorem own_cell {w : World} {base g n cap : Nat} {l : List Int} (h : Own w base 3 1 (.slice (some ⟨g, 0, none⟩) n cap) (rwI l)) {j : Nat} (hj : j < l.length) : w.cell? ⟨g, j, none⟩ = some (.int .i64 l[j]) := by
  obtain ⟨A, c, e, _, hr⟩ := h.slv
  injection e with e
  obtain ⟨b, o, e2, hc⟩ := hr j (encI l[j]) (by simp [rwI, hj])
  rw [← e] at e2
  injection e2 with e2
  injection e2 with e2 e3
  subst e2 e3
  have := hc 0 _ rfl
  rwa [show 0 + j * 1 + 0 = j from by omega] at this

/-- The datum of what has been seen. -/
def SRel (D : DataW Unit) (seen : List Int) : Prop :=
  IsMap D ∧ (∀ x, wfI x → D.atKey (.int .i64 x) (.lit (.int .i64 0)) = .lit (.int .i64 (if x ∈ seen then 1 else 0))) ∧ (∀ x, wfI x → Maps.has D (.int .i64 x) = decide (x ∈ seen))
theorem srel_put {D : DataW Unit} {seen : List Int} {y : Int} (h : SRel D seen) (hy : wfI y) : SRel (D.put (.int .i64 y) (.lit (.int .i64 1))) (seen ++ [y]) := by
  obtain ⟨hm, h1, h2⟩ := h
  refine ⟨hm.put _ _, fun x hx => ?_, fun x hx => ?_⟩
  · by_cases e : y = x
    · subst e; rw [atKey_put_same hm (isKeyI hy)]; simp
    · rw [atKey_put_other (ne_key (Ne.symm e)), h1 x hx]
      have : ¬ x = y := fun e' => e e'.symm
      simp [this]
  · by_cases e : y = x
    · subst e; rw [has_put_same hm (isKeyI hy)]; simp
    · rw [has_put_other (ne_key (Ne.symm e)), h2 x hx]
      have : ¬ x = y := fun e' => e e'.symm
      simp [this]
theorem wf_tc {es : Es} (hw : ∀ e ∈ es, wfI e.1 ∧ wfI e.2) {a b : Int} (h : TC es a b) : wfI b := by
  obtain ⟨e, he, rfl⟩ := List.mem_map.1 h.mem
  exact (hw e he).2

def ReachPost (es : Es) (a : Int) (w : World) (e : Ending) (w' : World) : Prop := ∃ (bs m : Nat) (D' : DataW Unit) (seen : List Int), e = .returned (.map (some bs)) ∧ w'.ownsMap Try.prog 3 (plainElem Try.prog 3) bs m D' ∧ m ≤ 1000 ∧ SRel D' seen ∧ seen.Nodup ∧ (∀ x, x ∈ seen ↔ TC es a x) ∧ Below w.heap.size w w'

set_option maxHeartbeats 4000000 in
theorem reach_calls (b base n : Nat) (D : DataW Unit) (es : Es) (a : Int) (w : World) (hown : w.ownsGroups Try.prog 3 base 3 .i64 b n D) (hD : DRel D es) (hn : n ≤ 2000000) (hes : es.length ≤ 1000) (ha : wfI a) (hw : ∀ e ∈ es, wfI e.1 ∧ wfI e.2) :
    Calls Try.prog 32 #[.agg #[.map (some b)], .int .i64 a] w (ReachPost es a w) := by
  refine via fun Q hQ => ?_
  have hmm := @run_makeMap Try.prog
  have hbl := (groups_map hown).lt
  have hal : Below w.heap.size w ((w.alloc (.cells #[.map (some b)] 49)).alloc (.map #[] 0)) := ((Below.refl _ _).alloc (Nat.le_refl _) _).alloc (by simp) _
  obtain ⟨v0, zs0, hall0, hat0, hoi0, hzl0, _⟩ := groups_at hown lawI Try.underlying47 (fun W => Try.zeroValue26 W) (by unfold maxLen; omega) (keyI ha)
  have hlk0 := (hall0 _ (hal.block b hbl)).1
  have hz0 := row_zs hoi0 (by rw [← hD.2.1 a ha]; exact hat0)
  obtain ⟨A0, c0, hv0, hc0, hA0, hr0⟩ := (own_ints hoi0).slv'
  have HO := Lib.hid hown
  have HD := Lib.hid hD
  have HW := Lib.hid hw
  have HA := Lib.hid ha
  have HR0 := Lib.hid hr0
  have HZ0 := Lib.hid hz0.1
  have HAL := Lib.hid hal
  have HV0 := Lib.hid hv0
  have HA0 := Lib.hid hA0
  have hzl : zs0.length ≤ 1000 := by rw [hz0.1]; have := succs_len es a; omega
  clear hown hD hw ha hall0 hat0 hoi0 hr0 hz0 hal hv0 hA0
  go_enter Try.func32, Try.ntmps32
  go_wp2_with fail
  refine (clone_calls v0 zs0 A0 c0 _ HV0.out HA0.out hc0 (HR0.out.below HAL.out) (by omega)).mono ?_
  rintro e w1 ⟨v1, rfl, ho1, hb1⟩
  go_wp2_with fail
  have hm1 : w1.ownsMap Try.prog 3 (plainElem Try.prog 3) (w.heap.size + 1) 0 (.map [] : DataW Unit) :=
    map_below (by simpa using World.ownsMap_made (H := Unit) (w.alloc (.cells #[.map (some b)] 49)) Try.prog 3 (plainElem Try.prog 3)) hb1
  have hB1 : Blk w1 w.heap.size #[.map (some b)] 49 := ((Blk.new w #[.map (some b)] 49).alloc _).below hb1
  have ho1' := own_lower1 ho1 (base' := w.heap.size) HAL.out.size
  have hbw := HAL.out.trans (hb1.mono HAL.out.size)
  obtain rfl := HZ0.out
  have hwk : work es [] (succs es a) ≤ 2000000 := by
    have h1 := unseen_le es []
    have h2 := succs_len es a
    have : unseen es [] * (es.length + 1) ≤ 1000 * 1001 := Nat.mul_le_mul (by omega) (by omega)
    unfold work; omega
  have hss : SRel (.map [] : DataW Unit) [] := ⟨isMap_empty, fun x hx => by simp [DataW.atKey], fun x hx => rfl⟩
  clear hlk0 ho1 hb1 HAL HV0 HA0 HR0
  go_loopg [6] (work es [] (succs es a)) (fun g u wr => ∃ (seen next : List Int) (m : Nat) (D' : DataW Unit), g = work es seen next ∧ g ≤ 2000000 ∧ Inv es a seen next ∧ m + unseen es seen ≤ es.length ∧ wr.ownsMap Try.prog 3 (plainElem Try.prog 3) (w.heap.size + 1) m D' ∧ SRel D' seen ∧
    Own wr w.heap.size 3 1 u (rwI next) ∧ Blk wr w.heap.size #[.map (some b)] 49 ∧ Below w.heap.size w wr)
  case atStart => exact ⟨[], succs es a, 0, .map [], rfl, hwk, inv_start es a, by have := unseen_le es []; omega, hm1, hss, ho1', hB1, hbw⟩
  case round =>
    obtain ⟨seen, next, m, D', rfl, hg, hinv, hmu, hmap, hsr, hown, hB, hb⟩ := hrel
    clear hm1 hB1 ho1' hbw hwk hss
    rcases List.eq_nil_or_concat next with rfl | ⟨init, x, rfl⟩
    · have hv : u6 = .slice none 0 0 ∨ ∃ g cap, u6 = .slice (some ⟨g, 0, none⟩) 0 cap := by
        rcases hown.1.2 with ⟨h, _⟩ | ⟨g, cap, cur, h, _⟩
        · exact .inl h
        · exact .inr ⟨g, cap, h⟩
      have HM := Lib.hid hmap
      have HS := Lib.hid hsr
      have HI := Lib.hid hinv
      have HB := Lib.hid hb
      clear hmap hsr hinv hb hown hB
      rcases hv with rfl | ⟨g, cap, rfl⟩
      all_goals
        go_wp2
        exact ⟨w.heap.size + 1, m, D', seen, rfl, HM.out, by omega, HS.out, HI.out.d, inv_end HI.out, HB.out⟩
    · rw [List.concat_eq_append] at *
      have hx := hinv.n x (by simp)
      have hwx := wf_tc HW.out hx
      obtain ⟨g, cap, rfl, hgb, hgw⟩ := own_form hown (by simp)
      have hlen : (rwI (init ++ [x])).length = init.length + 1 := by simp
      rw [hlen] at hown ⊢
      have g0 : wr.cell? ⟨g, init.length, none⟩ = some (.int .i64 x) := by
        have := own_cell hown (j := init.length) (by simp)
        simpa using this
      have hot := own_take (rows := rwI init) (r := encI x) (by rw [rwI, List.map_append] at hown; exact hown) (by simp)
      obtain ⟨cc, hlk, hac, _⟩ := hmap.lookup_int lawI Try.underlying52 Try.underlying3 (Try.zeroValue3 wr) (keyI hwx)
      have hcc : cc = if x ∈ seen then 1 else 0 := by
        have := hsr.2.1 x hwx
        rw [hac] at this
        injection this with this; injection this
      have c2 : wr.cell? ⟨w.heap.size, 0, none⟩ = some (.map (some b)) := hB.at_ 0 rfl
      have hil : init.length ≤ 2000000 := by
        unfold work at hg
        simp at hg
        omega
      have hle : init.length + 1 ≤ cap := by
        rcases hown.1.2 with ⟨h1, _⟩ | ⟨g', cap', cur, h1, _, _, hc, _⟩
        · cases h1
        · injection h1 with _ _ h1
          rw [h1]; simpa using hc
      have HOt := Lib.hid hot
      have HI := Lib.hid hinv
      have HM := Lib.hid hmap
      have HS := Lib.hid hsr
      have HB := Lib.hid hb
      have HBk := Lib.hid hB
      clear hown hot hac hmap hsr hb hB hlen
      by_cases hxs : x ∈ seen
      · rw [if_pos hxs] at hcc
        subst hcc
        have HX := Lib.hid hxs
        clear hxs
        have hwo := work_old es seen init x
        have HWO := Lib.hid hwo
        clear hwo
        go_wp2
        go_roundg (work es seen init)
        case measure => exact HWO.out
        case rel => exact ⟨seen, init, m, D', rfl, by have := HWO.out; omega, inv_old HI.out HX.out, hmu, HM.out, HS.out, HOt.out, HBk.out, HB.out⟩
      · rw [if_neg hxs] at hcc
        subst hcc
        have hwn := work_new (next := init) hx.mem hxs
        have hun := unseen_lt hx.mem hxs
        obtain ⟨w2, hup, hmap2, hg2⟩ := HM.out.update (val := .int .i64 1) lawI Try.underlying52 (by unfold maxLen; omega) (keyI hwx) (plainElem_int Try.underlying3 (by decide))
        obtain ⟨v, zs, hall, hat, hoi, hzl2, _⟩ := groups_at HO.out lawI Try.underlying47 (fun W => Try.zeroValue26 W) (by unfold maxLen; omega) (keyI hwx)
        have hzz := (row_zs hoi (by rw [← HD.out.2.1 x hwx]; exact hat)).1
        have hfr2 := fr_grow' hg2
        have hbs : ∃ es' ck, wr.heap[w.heap.size + 1]? = some (.map es' ck) := by obtain ⟨es', ck, h, _⟩ := HM.out; exact ⟨es', ck, h⟩
        obtain ⟨es', ck, hbs⟩ := hbs
        have hgne : g ≠ w.heap.size + 1 := by
          rintro rfl
          rcases HOt.out.1.2 with ⟨h1, _⟩ | ⟨g', cap', cur, h1, _, hh, _⟩
          · cases h1
          · injection h1 with h1; injection h1 with h1; injection h1 with h1
            rw [← h1, hbs] at hh
            cases hh
        have hlkx := (hall w2 ((hfr2.block b (by have := HB.out.size; omega) (by omega)).trans (HB.out.block b hbl))).1
        have hot2 := HOt.out.fr hfr2 (fun k hk hS => by
          have : g = k := by simpa [Value.ownBlock] using hk
          omega)
        have hB2 := HBk.out.fr hfr2 (by omega)
        have c22 : w2.cell? ⟨w.heap.size, 0, none⟩ = some (.map (some b)) := hB2.at_ 0 rfl
        have hb2 := below_then HB.out (w.heap.size |> fun _ => (Below.refl _ _ : Below wr.heap.size wr wr))
        have hbw2 : Below w.heap.size w w2 := ((Fr.of_below (S := none_) HB.out).trans hfr2 (fun i hi hS => by omega)).below
        obtain ⟨Av, cv, hv, hcv, hAv, hrv⟩ := (own_ints hoi).slv'
        have hrv2 := hrv.below hbw2
        subst hzz
        have hsl := succs_len es x
        have hvl : (rwI (succs es x)).length = (succs es x).length := by simp
        have HUP := Lib.hid hup
        have HM2 := Lib.hid hmap2
        have HSR := Lib.hid (srel_put HS.out hwx)
        have HINV := Lib.hid (inv_new HI.out hxs)
        have HWN := Lib.hid hwn
        have HUN := Lib.hid hun
        have HOT2 := Lib.hid hot2
        have HB2 := Lib.hid hB2
        have HBW2 := Lib.hid hbw2
        have HRV := Lib.hid hrv2
        have HAv := Lib.hid hAv
        have hb0 : w.heap.size ≤ w2.heap.size := hbw2.size
        have hln : ((rwI init).length + (rwI (succs es x)).length) * 8 ≤ 140737488355328 := by simp; omega
        have HLN := Lib.hid hln
        have HVL := Lib.hid hvl
        subst hv
        rw [hvl] at hlkx
        clear hall hat hoi hfr2 hbs hot2 hB2 hb2 hbw2 hrv hrv2 hxs hwn hun hmap2 hg2 hAv hln hvl hcv HM HOt HBk
        go_wp2_with (at_builtin; go_must (refine appendN w.heap.size 3 1 8 (.int .i64 0) rfl (.tmp 34) (.tmp 38) 26 rfl Try.underlying26 info3 rfl (by decide) (by decide) (.slice (some ⟨g, 0, none⟩) init.length cap) (rwI init) (rwI (succs es x)) rfl Av (succs es x).length cv rfl HVL.out.symm HAv.out HRV.out (rwI_one _) (rwI_cell _) HOT2.out hb0 HLN.out ?_); intro v3 w3 hown3 hfr3)
        go_roundg (work es (seen ++ [x]) (init ++ succs es x))
        case measure => exact HWN.out
        case rel =>
          have hne := HOT2.out.type_ne HB2.out (by decide) g rfl
          refine ⟨seen ++ [x], init ++ succs es x, m + 1, _, rfl, (by have := HWN.out; omega), HINV.out, (by have := HUN.out; omega), HM2.out.kept (row := some g) (fr_grow hfr3) (fun e => hgne (by injection e with e; exact e.symm)), HSR.out, ?_, HB2.out.fr hfr3 (fun e => hne (by injection e)), ?_⟩
          · rw [show rwI (init ++ succs es x) = rwI init ++ rwI (succs es x) from List.map_append]; exact hown3
          · exact ((Fr.of_below (S := none_) HBW2.out).trans hfr3 (fun i hi hS => by
              have : g = i := by simpa [Value.ownBlock] using hS
              omega)).below
end Go.Proofs.Ytoimhigpbmabeaa
