/- wait.Reach, wait.Circles, wait.Victim. -/
import Derived.Test.YtoimhigpbmabeaaWj
import Derived.Test.YtoimhigpbmabeaaWn
set_option linter.unusedVariables false
set_option maxRecDepth 100000
namespace Go.Proofs.Ytoimhigpbmabeaa
open Go.ChangeShapes Go.ChangeMaps Go.Proofs.BL Go.RowKit Go.Maps Go.Proofs.Wm Go.Proofs.YtoimhigpbmabeaaW.PrintWords Go.Proofs.Ytoimhigpbmabeaa.G

/-- A graph of edges lies in the world. -/
def Gr (w : World) (b : Nat) (es : Es) : Prop := ∃ (base n : Nat) (D : DataW Unit), w.ownsGroups Try.prog 3 base 3 .i64 b n D ∧ n ≤ 2000000 ∧ DRel D es
theorem Gr.below {w w' : World} {b : Nat} {es : Es} (h : Gr w b es) (hb : Below w.heap.size w w') : Gr w' b es := by
  obtain ⟨base, n, D, h1, h2, h3⟩ := h
  exact ⟨base, n, D, groups_below h1 hb, h2, h3⟩
def wfE (es : Es) : Prop := es.length ≤ 1000 ∧ ∀ e ∈ es, wfI e.1 ∧ wfI e.2
theorem wf_nodes {es : Es} (h : wfE es) {x : Int} (hx : x ∈ nodes es) : wfI x := by
  obtain ⟨e, he, h1 | h1⟩ := mem_nodes.1 hx
  · rw [h1]; exact (h.2 e he).1
  · rw [h1]; exact (h.2 e he).2

theorem size_le {R : Value → Option (DataW Unit × List MemPlace)} {w : World} {b n : Nat} {D : DataW Unit} (h : w.ownsMap Try.prog 3 R b n D) : Maps.size D ≤ n := by
  obtain ⟨es, clock, _, _, hs, rfl⟩ := h
  simp only [Maps.size, length_sorted, List.length_map, Array.length_toList]
  exact hs
theorem reach_gr {b : Nat} {es : Es} {a : Int} {w : World} (h : Gr w b es) (he : wfE es) (ha : wfI a) : Calls Try.prog 32 #[.agg #[.map (some b)], .int .i64 a] w (ReachPost es a w) := by
  obtain ⟨base, n, D, h1, h2, h3⟩ := h
  exact reach_calls b base n D es a w h1 h3 h2 he.1 ha he.2

set_option maxHeartbeats 1000000 in
theorem circ1_calls (b gb : Nat) (es : Es) (x : Int) (w : World) (hg : Gr w b es) (he : wfE es) (hx : wfI x) (hB : Blk w gb #[.map (some b)] 49) :
    Calls Try.prog 31 #[.int .i64 x, .pointer (some ⟨gb, 0, none⟩)] w fun e w' => e = .returned (.bool (!(reachL es x).contains x)) ∧ Below w.heap.size w w' := by
  have HR := Lib.hid (reach_gr hg he hx)
  have c0 : w.cell? ⟨gb, 0, none⟩ = some (.map (some b)) := hB.at_ 0 rfl
  have HX := Lib.hid hx
  clear hg hB hx he
  refine via fun Q hQ => ?_
  go_enter Try.func31, Try.ntmps31
  go_wp2_with fail
  refine HR.out.mono ?_
  rintro e w1 ⟨bs, m, D', seen, rfl, hmap, hm, hsr, hnd, hmem, hb⟩
  obtain ⟨c, hlk, hac, _⟩ := hmap.lookup_int lawI Try.underlying52 Try.underlying3 (Try.zeroValue3 w1) (keyI HX.out)
  have hcc : c = if x ∈ seen then 1 else 0 := by
    have := hsr.2.1 x HX.out
    rw [hac] at this
    injection this with this; injection this
  have HB := Lib.hid hb
  have HM := Lib.hid hmem
  clear hmap hsr hnd hmem hb hac HR
  by_cases hs : x ∈ seen
  · rw [if_pos hs] at hcc
    subst hcc
    have hr : (reachL es x).contains x = true := by rw [List.contains_iff_mem, mem_reachL]; exact (HM.out x).1 hs
    have HRR := Lib.hid hr
    clear hr hs
    go_wp2
    exact ⟨by rw [HRR.out]; rfl, HB.out⟩
  · rw [if_neg hs] at hcc
    subst hcc
    have hr : (reachL es x).contains x = false := by
      rw [Bool.eq_false_iff]
      intro h
      rw [List.contains_iff_mem, mem_reachL] at h
      exact hs ((HM.out x).2 h)
    have HRR := Lib.hid hr
    clear hr hs
    go_wp2
    exact ⟨by rw [HRR.out]; rfl, HB.out⟩

/-- A new slice of numbers. -/
def IntsPost (l : List Int) (w : World) (e : Ending) (w' : World) : Prop := ∃ v, e = .returned v ∧ Kd.R (Kd.int .i64) 3 w' w.heap.size (fun _ => True) v l ∧ Below w.heap.size w w'
theorem R_own' {w : World} {base : Nat} {v : Value} {zs : List Int} {ok : Nat → Prop} (h : Kd.R (Kd.int .i64) 3 w base ok v zs) : Own w base 3 1 v (rwI zs) := by
  have := Kd.own_of_R (enc := Value.int .i64) h
  exact ⟨by rw [rwI_flat, List.length_map]; exact this, rwI_one zs⟩

set_option maxHeartbeats 1000000 in
theorem reachF_calls (A : Option Addr) (c : Nat) (l : List S44) (a : Int) (w : World) (hr : Kd.C k44 w A l.length l) (hc : l.length ≤ c) (he : wfE (pr l)) (ha : wfI a) :
    Calls Try.prog 16 #[.int .i64 a, .slice A l.length c] w (IntsPost (reachL (pr l) a) w) := by
  have hll : (pr l).length = l.length := by simp [pr]
  have HD := Lib.hid (drawn_calls A c l w hr hc (fun e h => he.2 (e.f0, e.f1) (List.mem_map.2 ⟨e, h, rfl⟩)) (by have := he.1; omega))
  have HE := Lib.hid he
  have HA := Lib.hid ha
  have hl0 : l.length ≤ 1000 := by have := he.1; omega
  clear hr he ha hll
  refine via fun Q hQ => ?_
  go_enter Try.func16, Try.ntmps16
  go_wp2_with fail
  refine HD.out.mono ?_
  rintro e w1 ⟨b, base, n, D, rfl, hown, hn, hdr, hb1, _⟩
  have HG := Lib.hid (reach_gr (⟨base, n, D, hown, by omega, hdr⟩ : Gr w1 b (pr l)) HE.out HA.out)
  have HB1 := Lib.hid hb1
  clear hown hdr hb1 HD
  go_wp2_with fail
  refine HG.out.mono ?_
  rintro e w2 ⟨bs, m, D', seen, rfl, hmap, hm, hsr, hnd, hmem, hb2⟩
  have HB2 := Lib.hid (below_then HB1.out hb2)
  have hs := sortedB_calls bs m D' _ w2 hmap (reachL (pr l) a) (srt_reachL _ _) (fun x hx => wf_tc HE.out.2 (mem_reachL.1 hx)) (fun x hx => by
    rw [hsr.2.2 x hx, mem_reachL, ← hmem x]; simp) (by have := size_le hmap; omega)
  have HS := Lib.hid hs
  clear hmap hsr hnd hmem hb2 hs HG
  go_wp2_with fail
  refine (keysB_calls _ _).mono ?_
  rintro e w3 ⟨rfl, rfl⟩
  go_wp2_with fail
  refine HS.out.mono ?_
  rintro e w4 ⟨v, rfl, hv, hb4⟩
  have HV := Lib.hid (Kd.R_lower hv HB2.out.size)
  have HB4 := Lib.hid (below_then HB2.out hb4)
  clear hv hb4 HS
  go_wp2
  exact ⟨v, rfl, HV.out, HB4.out⟩

theorem all_gr {b : Nat} {es : Es} {w : World} (h : Gr w b es) (he : wfE es) : Calls Try.prog 24 #[.agg #[.map (some b)]] w (IntsPost (allL es) w) := by
  obtain ⟨base, n, D, h1, h2, h3⟩ := h
  refine all_calls b n D _ w (groups_map h1) (allL es) (srt_allL es) (fun x hx => wf_nodes he (mem_allL.1 hx)) (fun x hx => by rw [h3.2.2 x hx, mem_allL]; simp) (by have := size_le (groups_map h1); omega)
theorem circ_filt (es : Es) : filtN (fun x => !(reachL es x).contains x) (allL es) = circL es := by simp [filtN, circL]
theorem nodes_len (es : Es) : (nodes es).length = 2 * es.length := by
  induction es with
  | nil => rfl
  | cons e es ih => simp only [nodes, List.flatMap_cons, List.length_append, List.length_cons, List.length_nil] at *; omega
theorem ins_len (x : Int) (l : List Int) : (ins x l).length ≤ l.length + 1 := by
  induction l with
  | nil => simp [ins]
  | cons y l ih =>
    unfold ins
    split
    · simp
    · split
      · simp
      · simp; omega
theorem insAll_len (l : List Int) : (insAll l).length ≤ l.length := by
  have H : ∀ (l o : List Int), (l.foldl (fun o x => ins x o) o).length ≤ l.length + o.length := by
    intro l
    induction l with
    | nil => intro o; simp
    | cons y l ih => intro o; rw [List.foldl_cons]; have := ih (ins y o); have := ins_len y o; simp; omega
  simpa [insAll] using H l []
theorem allL_len {es : Es} (he : wfE es) : (allL es).length ≤ 2000 := by
  have := insAll_len (nodes es); have := nodes_len es; have := he.1; unfold allL; omega

set_option maxHeartbeats 1000000 in
theorem circles_calls (A : Option Addr) (c : Nat) (l : List S44) (w : World) (hr : Kd.C k44 w A l.length l) (hc : l.length ≤ c) (he : wfE (pr l)) :
    Calls Try.prog 15 #[.slice A l.length c] w (IntsPost (circL (pr l)) w) := by
  have hll : (pr l).length = l.length := by simp [pr]
  have HD := Lib.hid (drawn_calls A c l w hr hc (fun e h => he.2 (e.f0, e.f1) (List.mem_map.2 ⟨e, h, rfl⟩)) (by have := he.1; omega))
  have HE := Lib.hid he
  have hl0 : l.length ≤ 1000 := by have := he.1; omega
  clear hr he hll
  refine via fun Q hQ => ?_
  go_enter Try.func15, Try.ntmps15
  go_wp2_with fail
  refine HD.out.mono ?_
  rintro e w1 ⟨b, base, n, D, rfl, hown, hn, hdr, hb1, _⟩
  have hG : Gr w1 b (pr l) := ⟨base, n, D, hown, by omega, hdr⟩
  have hal : Below w1.heap.size w1 (w1.alloc (.cells #[.map (some b)] 49)) := (Below.refl _ _).alloc (Nat.le_refl _) _
  have HG := Lib.hid (hG.below hal)
  have HBk := Lib.hid (Blk.new w1 #[.map (some b)] 49)
  have HB1 := Lib.hid (below_then hb1 hal)
  have HA := Lib.hid (all_gr HG.out HE.out)
  clear hown hdr hb1 HD hG hal
  go_wp2_with fail
  refine HA.out.mono ?_
  rintro e w3 ⟨v, rfl, hv, hb3⟩
  have hdel := deleteFunc_calls 31 #[.pointer (some ⟨w1.heap.size, 0, none⟩)] (enters_of Try.func31 (by kernel_rfl) rfl) (fun x => !(reachL (pr l) x).contains x) (allL (pr l)) v _ _ w3 hb3 (Nat.le_refl _) (R_own' hv)
    (fun W hW x hx => circ1_calls b w1.heap.size (pr l) x W (HG.out.below hW) HE.out (wf_nodes HE.out (mem_allL.1 hx)) (HBk.out.below hW)) (by have := allL_len HE.out; omega)
  rw [circ_filt] at hdel
  have HDL := Lib.hid hdel
  clear hv hb3 hdel HA
  go_wp2_with fail
  refine HDL.out.mono ?_
  rintro e w4 ⟨v4, rfl, ho4, hb4⟩
  have HO4 := Lib.hid (own_R (own_lower1 ho4 HB1.out.size))
  have HB4 := Lib.hid (below_then HB1.out hb4)
  clear ho4 hb4 HDL
  go_wp2
  exact ⟨v4, rfl, HO4.out, HB4.out⟩

def vicL (es : Es) : Int × Bool := match (circL es).getLast? with | some v => (v, true) | none => (0, false)
def VicPost (r : Int × Bool) (w : World) (e : Ending) (w' : World) : Prop := e = .returned (.tuple #[.int .i64 r.1, .bool r.2]) ∧ Below w.heap.size w w'
set_option maxHeartbeats 1000000 in
theorem victim_calls (A : Option Addr) (c : Nat) (l : List S44) (w : World) (hr : Kd.C k44 w A l.length l) (hc : l.length ≤ c) (he : wfE (pr l)) :
    Calls Try.prog 11 #[.slice A l.length c] w (VicPost (vicL (pr l)) w) := by
  have HC := Lib.hid (circles_calls A c l w hr hc he)
  have hcl : (circL (pr l)).length ≤ 2000 := Nat.le_trans (List.length_filter_le _ _) (allL_len he)
  clear hr he
  refine via fun Q hQ => ?_
  go_enter Try.func11, Try.ntmps11
  go_wp2_with fail
  refine HC.out.mono ?_
  rintro e w1 ⟨v, rfl, hv, hb⟩
  obtain ⟨A1, c1, rfl, hc1, hA1, hr1⟩ := (R_own' hv).slv'
  have HB := Lib.hid hb
  have HR1 := Lib.hid hr1
  rw [show (rwI (circL (pr l))).length = (circL (pr l)).length from by simp] at *
  have hvl : vicL (pr l) = match (circL (pr l)).getLast? with | some v => (v, true) | none => (0, false) := rfl
  generalize circL (pr l) = k at *
  have HVL := Lib.hid hvl
  clear hv hb hr1 hA1 HC hvl
  rcases List.eq_nil_or_concat k with rfl | ⟨init, x, rfl⟩
  · go_wp2
    rw [HVL.out]
    exact ⟨rfl, HB.out⟩
  · rw [List.concat_eq_append] at *
    obtain ⟨b, o, rfl, c0⟩ := rows_cell HR1.out (j := init.length) (by simp)
    simp only [List.getElem_concat_length, List.length_append, List.length_singleton] at c0 hc1 hcl ⊢
    go_wp2
    rw [HVL.out]
    simp only [List.getLast?_concat]
    exact ⟨rfl, HB.out⟩
end Go.Proofs.Ytoimhigpbmabeaa
