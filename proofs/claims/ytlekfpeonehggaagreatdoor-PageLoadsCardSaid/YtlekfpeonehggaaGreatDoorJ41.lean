/- The law's same: the store has the pages of the document's, and what it hands out is its own. -/
import Derived.Test.YtlekfpeonehggaaGreatDoorJ39
import Derived.Test.YtlekfpeonehggaaGreatDoorJ40
section
set_option linter.unusedVariables false
set_option linter.unusedSimpArgs false
set_option maxRecDepth 100000
section
variable {P : Go.Program} {ops : Array Go.Oper} {Q : Go.Exit → Go.Act → Go.World → Prop} {md : Go.Region.Mode} {S : Go.World → Prop}
open Go in
/-- One of two may come up. -/
theorem Go.Proofs.Rg.twoH {i j : Nat} {oi oj : Oper} {n : Nat} {l : Array Bool} {a : Act} {w : World} (hi : ops.toList[i]? = some oi) (hj : ops.toList[j]? = some oj) (hr : Region.ready md ops l = [i, j])
    (h1 : ∀ K : Act → World → Prop, Shut (∀ a' w', S w' → wpAnyH P md ops Q S n (l.setIfInBounds i true) a' w' → K a' w') → if Region.wanted oi (yielded ops a.tmps) = true then Oper.wp P oi a w K Q else K (a.put oi.dst undef) w)
    (h2 : ∀ K : Act → World → Prop, Shut (∀ a' w', S w' → wpAnyH P md ops Q S n (l.setIfInBounds j true) a' w' → K a' w') → if Region.wanted oj (yielded ops a.tmps) = true then Oper.wp P oj a w K Q else K (a.put oj.dst undef) w) : wpAnyH P md ops Q S (n + 1) l a w := by
  refine ⟨fun h0 => (by rw [h0] at hr; cases hr), fun k hk => ?_⟩
  rw [hr] at hk
  simp only [List.mem_cons, List.not_mem_nil, or_false] at hk
  rcases hk with rfl | rfl
  · exact wpOp_step (by rw [← Array.getElem?_toList]; exact hi) (fun K' hK => h1 K' (fun a' w' h1 h2 => hK a' w' ⟨h1, h2⟩))
  · exact wpOp_step (by rw [← Array.getElem?_toList]; exact hj) (fun K' hK => h2 K' (fun a' w' h1 h2 => hK a' w' ⟨h1, h2⟩))
end
namespace Go.Proofs.YtlekfpeonehggaaGreatDoor
open Go.Proofs.BL Go.Proofs.Peel Go.RowKit Go.Proofs.Ky

/-- Pages that nobody writes any more. -/
def rPg (A : Option Addr) (P : List (List Rw)) : Part :=
  ⟨fun w G _ => ∀ (i : Nat) (r : List Rw), P[i]? = some r → ∃ b o B cc, A = some ⟨b, o, none⟩ ∧ w.cell? ⟨b, o + i, none⟩ = some (.slice B r.length cc) ∧ r.length ≤ cc ∧ (B = none → cc = 0) ∧ RowsAt w 2 B (rwR r) ∧ G b ∧ (rwR r ≠ [] → ∀ x, B = some x → G x.block),
   fun {w w' G G' O} h hO hG hf hGG i r hr => by
    obtain ⟨b, o, B, cc, h1, h2, h3, h4, h5, h6, h7⟩ := h i r hr
    refine ⟨b, o, B, cc, h1, (World.cell?_of_block (hf.block _ (hG _ h6) (fun hn => hn (.inl h6)))).trans h2, h3, h4, ?_, hGG _ h6, fun hne x hx => hGG _ (h7 hne x hx)⟩
    by_cases hne : rwR r = []
    · rw [hne]; exact RowsAt.nil _ _ _
    · exact h5.fr hf (fun x hx hn => hn (.inl (h7 hne x hx)))⟩
section
variable {l : List Part} {w : World} {A : Option Addr} {P : List (List Rw)}
theorem Sat.pgr_ (h : Sat (rPg A P :: l) w) : PgR w A P := h.fact fun G O a _ _ i r hr => by
  obtain ⟨b, o, B, cc, h1, h2, h3, h4, h5, _⟩ := a i r hr
  exact ⟨b, o, B, cc, h1, h2, h3, h4, h5⟩
/-- Pages of one's own, read. -/
theorem Sat.pgs {v : Value} {us : List Value} (h : Sat (ownR v 27 1 (lfR us) :: pagesP us P :: l) w) : ∃ B c, v = .slice B P.length c ∧ P.length ≤ c ∧ PgR w B P := by
  have hus := h.drop.pagesLen
  obtain ⟨B, c, e, h1, _, hr⟩ := h.own_.slv'
  rw [lfR_len, hus] at e h1
  refine ⟨B, c, e, h1, fun i r hi => ?_⟩
  obtain ⟨u, hu, hO⟩ := h.drop.pageAt hi
  obtain ⟨b, o, e2, hc⟩ := hr i [u] (lfR_at hu)
  have h0 := hc 0 u rfl
  obtain ⟨B', c', rfl, h3, h4, h5⟩ := hO.slv'
  rw [rwR_len] at h0 h3
  rw [Nat.mul_one, Nat.add_zero] at h0
  exact ⟨b, o, B', c', e2, h0, h3, h4, h5⟩
end
theorem set_same {α : Type _} {us : List α} {i : Nat} {v : α} (h : us[i]? = some v) : us.set i v = us := by
  obtain ⟨hi, e⟩ := List.getElem?_eq_some_iff.1 h
  rw [← e, List.set_getElem_self]
theorem scan_all (l : List Rw) : l.filter (scB ⟨#[]⟩ ⟨#[]⟩) = l := by
  refine List.filter_eq_self.2 (fun r _ => ?_)
  unfold scB
  rw [nil_tx]
  simp
structure PgOk (P : List (List Rw)) : Prop where
  a : P.length ≤ 1000
  b : P.flatten.length ≤ 1000
  c : ∀ r ∈ P, r.length ≤ 1000
  d : ∀ r ∈ P, ∀ x ∈ r, RwOk x
  e : (stBy P).length ≤ 1000000000
set_option maxHeartbeats 16000000 in
theorem lsame (p q : Nat) (most m2 : Int) (A : Option Addr) (c : Nat) (P : List (List Rw)) (ls : List Part) (w : World) (hok : PgOk P) (h : Sat (stP p most P :: blk q #[.int .i64 m2, .slice A P.length c] 26 :: rPg A P :: ls) w) :
    Calls Tryz.prog 8 #[.pointer (some ⟨p, 0, none⟩), .pointer (some ⟨q, 0, none⟩)] w (SamePost (stP p most P :: blk q #[.int .i64 m2, .slice A P.length c] 26 :: rPg A P :: ls)) := by
  refine via fun Q hQ => ?_
  obtain ⟨L, vs, hF, _⟩ := h.stF
  have HLn := Lib.hid (stLen p most _ L vs P w hF)
  have HRo0 := Lib.hid (dRows q m2 A c P w h.s1.blk_ h.s2.pgr_ (by have := hok.b; omega) (by have := hok.a; omega))
  have HS := Lib.hid h
  have HPb := Lib.hid (show P.length ≤ 100000 from by have := hok.a; omega)
  have HFb2 := Lib.hid (show P.flatten.length ≤ 100000 from by have := hok.b; omega)
  have HPk := Lib.hid (fun r hr => hok.c r hr)
  have HOK := Lib.hid hok
  clear hF h
  generalize hFF : P.flatten.length = F at *
  have HFb := Lib.hid (show P.flatten.length ≤ 1000 from hok.b)
  have HF := Lib.hid hFF
  clear hFF hok
  generalize hNN : P.length = N at *
  have HN := Lib.hid hNN
  clear hNN
  go_enter Tryz.func8, Tryz.ntmps8
  go_wp2_with fail
  (with_reducible refine HLn.out.mono ?_)
  rintro e w0 ⟨rfl, hw0⟩
  subst w0
  go_wp2_with fail
  (with_reducible refine HRo0.out.mono ?_)
  rintro e w1 ⟨v1, rfl, ho1, hb1⟩
  obtain ⟨B1, d1, ev1, _, _, _⟩ := ho1.slv'
  rw [rwR_len, HF.out] at ev1
  subst ev1
  have HS1 := Lib.hid (HS.out.below hb1)
  have HPg := Lib.hid (stPages p most P _ w1 HS1.out (by rw [HF.out]; exact HFb2.out) (by rw [HN.out]; exact HPb.out))
  clear ho1 hb1 HS HLn HRo0
  go_wp2_with fail
  (with_reducible refine HPg.out.mono ?_)
  rintro e w2 ⟨vp, us, rfl, hS2⟩
  obtain ⟨Bp, dp, evp, hdp, hPp⟩ := hS2.pgs
  rw [HN.out] at evp hdp
  subst evp
  have hPq := hS2.drop.drop.s2.pgr_
  have hBq := hS2.drop.drop.s1.blk_
  obtain ⟨L2, vs2, hF2, _⟩ := hS2.drop.drop.stF
  have HSm := Lib.hid (fun (y : World) (hy : Below w2.heap.size w2 y) => (show Calls Tryz.prog 30 #[.slice Bp N dp, .slice A N c] y (YesPost y) from by rw [← HN.out]; exact dSame Bp A dp c P y (hPp.below hy) (hPq.below hy) (by rw [HN.out]; exact HPb.out) (fun r hr => by have := HPk.out r hr; omega)))
  have HSc := Lib.hid (fun (y : World) (hy : Below w2.heap.size w2 y) => (show Calls Tryz.prog 32 #[.pointer (some ⟨p, 0, none⟩), .string ⟨#[]⟩, .string ⟨#[]⟩] y (ScanPost P.flatten y) from by rw [← scan_all P.flatten]; exact stScan p most _ L2 vs2 P ⟨#[]⟩ ⟨#[]⟩ y (hF2.below hy) (by rw [HF.out]; exact HFb2.out) (by rw [HN.out]; exact HPb.out)))
  have HRo := Lib.hid (fun (y : World) (hy : Below w2.heap.size w2 y) => dRows q m2 A c P y (by rw [HN.out]; exact hBq.below hy) (hPq.below hy) (by rw [HF.out]; exact HFb2.out) (by rw [HN.out]; exact HPb.out))
  have HBy := Lib.hid (fun (y : World) (hy : Below w2.heap.size w2 y) => stBytes p most _ L2 vs2 P y (hF2.below hy) HOK.out.e (by rw [HN.out]; exact HPb.out) (fun r hr => by have := HPk.out r hr; omega) HOK.out.d)
  have HDb := Lib.hid (fun (y : World) (hy : Below w2.heap.size w2 y) => dBytes q m2 A c P y (by rw [HN.out]; exact hBq.below hy) (hPq.below hy) HOK.out.e (by rw [HN.out]; exact HPb.out) (fun r hr => by have := HPk.out r hr; omega) HOK.out.d)
  have kq : w2.drew.cell? ⟨q, 1, none⟩ = some (.slice A N c) := hBq.at_ 1 rfl
  have HY0 := Lib.hid (show Below w2.heap.size w2 w2.drew from drew_below w2 1)
  have HFl := Lib.hid (show P.flatten.length ≤ 1000000 from by have := HFb.out; omega)
  have HS2 := Lib.hid hS2
  clear hPq hBq hF2 hS2 hPp HPg HS1
  go_wp2_with fail
  refine Rg.beginH (fun x => x.cell? ⟨q, 1, none⟩ = some (.slice A N c)) (by kernel_rfl) ?_
  have hS0 : (fun x => x.cell? ⟨q, 1, none⟩ = some (.slice A N c)) (World.drew w2) := kq
  refine Rg.takeH (i := 0) (v := ?_) rfl (by kernel_rfl) (fun _ _ _ h => h) hS0 (Or.inl ⟨by rfl, ?_⟩) ?_
  rotate_left
  · ((intro w hSw; (try dsimp only at hSw); go_simp) <;> (with_reducible rfl))
  try simp only [Act.put, List.setIfInBounds_toArray, List.set_cons_zero, List.set_cons_succ]
  refine Rg.takeH (i := 1) (v := ?_) rfl (by kernel_rfl) (fun _ _ _ h => h) hS0 (Or.inl ⟨by rfl, ?_⟩) ?_
  rotate_left
  · ((intro w hSw; (try dsimp only at hSw); go_simp) <;> (with_reducible rfl))
  try simp only [Act.put, List.setIfInBounds_toArray, List.set_cons_zero, List.set_cons_succ]
  refine Rg.takeH (i := 2) (v := ?_) rfl (by kernel_rfl) (fun _ _ _ h => h) hS0 (Or.inl ⟨by rfl, ?_⟩) ?_
  rotate_left
  · ((intro w hSw; (try dsimp only at hSw); go_simp) <;> (with_reducible rfl))
  try simp only [Act.put, List.setIfInBounds_toArray, List.set_cons_zero, List.set_cons_succ]
  refine Rg.takeH (i := 3) (v := ?_) rfl (by kernel_rfl) (fun _ _ _ h => h) hS0 (Or.inl ⟨by rfl, ?_⟩) ?_
  rotate_left
  · ((intro w hSw; (try dsimp only at hSw); go_simp) <;> (with_reducible rfl))
  try simp only [Act.put, List.setIfInBounds_toArray, List.set_cons_zero, List.set_cons_succ]
  refine Rg.takeH (i := 4) (v := ?_) rfl (by kernel_rfl) (fun _ _ _ h => h) hS0 (Or.inl ⟨by rfl, ?_⟩) ?_
  rotate_left
  · ((intro w hSw; (try dsimp only at hSw); go_simp) <;> (with_reducible rfl))
  try simp only [Act.put, List.setIfInBounds_toArray, List.set_cons_zero, List.set_cons_succ]
  refine Rg.oneH (i := 5) rfl (by kernel_rfl) (fun K hK => ?_)
  go_simp
  (with_reducible refine (HSm.out _ HY0.out).mono ?_)
  rintro e y1 ⟨rfl, hb1⟩
  have hS1' := (hb1.cell (World.block_lt_of_cell? _ _ hS0)).trans hS0
  have HY1 := Lib.hid (below_then HY0.out hb1)

  change K _ _
  have hS1 : (fun x => x.cell? ⟨q, 1, none⟩ = some (.slice A N c)) y1 := hS1'
  refine hK.out _ _ hS1 ?_
  clear hK K
  try simp only [Act.put, List.setIfInBounds_toArray, List.set_cons_zero, List.set_cons_succ]
  refine Rg.oneH (i := 6) rfl (by kernel_rfl) (fun K hK => ?_)
  go_simp
  refine hK.out _ _ hS1 ?_
  clear hK K
  try simp only [Act.put, List.setIfInBounds_toArray, List.set_cons_zero, List.set_cons_succ]
  refine Rg.oneH (i := 7) rfl (by kernel_rfl) (fun K hK => ?_)
  go_simp
  refine hK.out _ _ hS1 ?_
  clear hK K
  try simp only [Act.put, List.setIfInBounds_toArray, List.set_cons_zero, List.set_cons_succ]
  refine Rg.takeH (i := 8) (v := ?_) rfl (by kernel_rfl) (fun _ _ _ h => h) hS1 (Or.inl ⟨by rfl, ?_⟩) ?_
  rotate_left
  · ((intro w hSw; (try dsimp only at hSw); go_simp) <;> (with_reducible rfl))
  try simp only [Act.put, List.setIfInBounds_toArray, List.set_cons_zero, List.set_cons_succ]
  refine Rg.takeH (i := 10) (v := ?_) rfl (by kernel_rfl) (fun _ _ _ h => h) hS1 (Or.inl ⟨by rfl, ?_⟩) ?_
  rotate_left
  · ((intro w hSw; (try dsimp only at hSw); go_simp) <;> (with_reducible rfl))
  try simp only [Act.put, List.setIfInBounds_toArray, List.set_cons_zero, List.set_cons_succ]
  refine Rg.oneH (i := 9) rfl (by kernel_rfl) (fun K hK => ?_)
  go_simp
  (with_reducible refine (HSc.out _ HY1.out).mono ?_)
  rintro e y2 ⟨v2, rfl, ho2, hb2⟩
  have hS2' := (hb2.cell (World.block_lt_of_cell? _ _ hS1')).trans hS1'
  have HY2 := Lib.hid (below_then HY1.out hb2)
  obtain ⟨B2, d2, ev2, hd2, _, hr2⟩ := ho2.slv'
  rw [rwR_len, HF.out] at ev2
  rw [rwR_len] at hd2
  subst ev2
  change K _ _
  have hS2 : (fun x => x.cell? ⟨q, 1, none⟩ = some (.slice A N c)) y2 := hS2'
  refine hK.out _ _ hS2 ?_
  clear hK K
  try simp only [Act.put, List.setIfInBounds_toArray, List.set_cons_zero, List.set_cons_succ]
  refine Rg.oneH (i := 11) rfl (by kernel_rfl) (fun K hK => ?_)
  go_simp
  (with_reducible refine (HRo.out _ HY2.out).mono ?_)
  rintro e y3 ⟨v3, rfl, ho3, hb3⟩
  have hS3' := (hb3.cell (World.block_lt_of_cell? _ _ hS2')).trans hS2'
  have HY3 := Lib.hid (below_then HY2.out hb3)
  obtain ⟨B3, d3, ev3, hd3, _, hr3⟩ := ho3.slv'
  rw [rwR_len, HF.out] at ev3
  rw [rwR_len] at hd3
  subst ev3
  have HRR := Lib.hid (show Calls Tryz.prog 31 #[.slice B2 F d2, .slice B3 F d3] y3 (YesPost y3) from by rw [← HF.out]; exact rrows B2 B3 d2 d3 P.flatten y3 (hr2.below hb3) hr3 HFl.out hd2 hd3)
  change K _ _
  have hS3 : (fun x => x.cell? ⟨q, 1, none⟩ = some (.slice A N c)) y3 := hS3'
  refine hK.out _ _ hS3 ?_
  clear hK K
  try simp only [Act.put, List.setIfInBounds_toArray, List.set_cons_zero, List.set_cons_succ]
  refine Rg.oneH (i := 12) rfl (by kernel_rfl) (fun K hK => ?_)
  go_simp
  (with_reducible refine HRR.out.mono ?_)
  rintro e y4 ⟨rfl, hb4⟩
  have hS4' := (hb4.cell (World.block_lt_of_cell? _ _ hS3')).trans hS3'
  have HY4 := Lib.hid (below_then HY3.out hb4)

  change K _ _
  have hS4 : (fun x => x.cell? ⟨q, 1, none⟩ = some (.slice A N c)) y4 := hS4'
  refine hK.out _ _ hS4 ?_
  clear hK K
  try simp only [Act.put, List.setIfInBounds_toArray, List.set_cons_zero, List.set_cons_succ]
  refine Rg.oneH (i := 13) rfl (by kernel_rfl) (fun K hK => ?_)
  go_simp
  refine hK.out _ _ hS4 ?_
  clear hK K
  try simp only [Act.put, List.setIfInBounds_toArray, List.set_cons_zero, List.set_cons_succ]
  refine Rg.oneH (i := 14) rfl (by kernel_rfl) (fun K hK => ?_)
  go_simp
  refine hK.out _ _ hS4 ?_
  clear hK K
  try simp only [Act.put, List.setIfInBounds_toArray, List.set_cons_zero, List.set_cons_succ]
  refine Rg.oneH (i := 15) rfl (by kernel_rfl) (fun K hK => ?_)
  go_simp
  refine hK.out _ _ hS4 ?_
  clear hK K
  try simp only [Act.put, List.setIfInBounds_toArray, List.set_cons_zero, List.set_cons_succ]
  refine Rg.takeH (i := 16) (v := ?_) rfl (by kernel_rfl) (fun _ _ _ h => h) hS4 (Or.inl ⟨by rfl, ?_⟩) ?_
  rotate_left
  · ((intro w hSw; (try dsimp only at hSw); go_simp) <;> (with_reducible rfl))
  try simp only [Act.put, List.setIfInBounds_toArray, List.set_cons_zero, List.set_cons_succ]
  refine Rg.takeH (i := 19) (v := ?_) rfl (by kernel_rfl) (fun _ _ _ h => h) hS4 (Or.inl ⟨by rfl, ?_⟩) ?_
  rotate_left
  · ((intro w hSw; (try dsimp only at hSw); go_simp) <;> (with_reducible rfl))
  try simp only [Act.put, List.setIfInBounds_toArray, List.set_cons_zero, List.set_cons_succ]
  refine Rg.oneH (i := 17) rfl (by kernel_rfl) (fun K hK => ?_)
  go_simp
  (with_reducible refine (HBy.out _ HY4.out).mono ?_)
  rintro e y5 ⟨v5, rfl, ho5, hb5⟩
  have hS5' := (hb5.cell (World.block_lt_of_cell? _ _ hS4')).trans hS4'
  have HY5 := Lib.hid (below_then HY4.out hb5)
  obtain ⟨g5, c5, e5, _, hr5⟩ := own_bys ho5 (by simp [stBy, natB])
  subst e5
  have hcv5 := run_str (P := Tryz.prog) y5 23 9 5 Tryz.underlying23 Tryz.underlying5 Tryz.underlying9 (some ⟨g5, 0, none⟩) (stBy P).length c5 (stBy P) rfl (hr5)
  change K _ _
  have hS5 : (fun x => x.cell? ⟨q, 1, none⟩ = some (.slice A N c)) y5 := hS5'
  refine hK.out _ _ hS5 ?_
  clear hK K
  try simp only [Act.put, List.setIfInBounds_toArray, List.set_cons_zero, List.set_cons_succ]
  refine Rg.twoH (i := 18) (j := 20) rfl rfl (by kernel_rfl) (fun K hK => ?_) (fun K hK => ?_)
  · skip
    go_simp
    refine hK.out _ _ hS5 ?_
    clear hK K
    try simp only [Act.put, List.setIfInBounds_toArray, List.set_cons_zero, List.set_cons_succ]
    refine Rg.oneH (i := 20) rfl (by kernel_rfl) (fun K hK => ?_)
    go_simp
    (with_reducible refine (HDb.out _ HY5.out).mono ?_)
    rintro e y6 ⟨v6, rfl, ho6, hb6⟩
    have hS6' := (hb6.cell (World.block_lt_of_cell? _ _ hS5')).trans hS5'
    have HY6 := Lib.hid (below_then HY5.out hb6)
    obtain ⟨g6, c6, e6, _, hr6⟩ := own_bys ho6 (by simp [stBy, natB])
    subst e6
    have hcv6 := run_str (P := Tryz.prog) y6 23 9 5 Tryz.underlying23 Tryz.underlying5 Tryz.underlying9 (some ⟨g6, 0, none⟩) (stBy P).length c6 (stBy P) rfl (hr6)
    change K _ _
    have hS6 : (fun x => x.cell? ⟨q, 1, none⟩ = some (.slice A N c)) y6 := hS6'
    refine hK.out _ _ hS6 ?_
    clear hK K
    try simp only [Act.put, List.setIfInBounds_toArray, List.set_cons_zero, List.set_cons_succ]
    refine Rg.oneH (i := 21) rfl (by kernel_rfl) (fun K hK => ?_)
    go_simp
    refine hK.out _ _ hS6 ?_
    clear hK K
    try simp only [Act.put, List.setIfInBounds_toArray, List.set_cons_zero, List.set_cons_succ]
    refine Rg.oneH (i := 22) rfl (by kernel_rfl) (fun K hK => ?_)
    go_simp
    refine hK.out _ _ hS6 ?_
    clear hK K
    try simp only [Act.put, List.setIfInBounds_toArray, List.set_cons_zero, List.set_cons_succ]
    refine Rg.oneH (i := 23) rfl (by kernel_rfl) (fun K hK => ?_)
    go_simp
    refine hK.out _ _ hS6 ?_
    clear hK K
    try simp only [Act.put, List.setIfInBounds_toArray, List.set_cons_zero, List.set_cons_succ]
    refine wpAnyH_done (by kernel_rfl) ?_ _
    have hNb := HPb.out
    have HS3 := Lib.hid (HS2.out.below HY6.out)
    clear hS0 HSm HSc HRo HBy HDb HRR HY0 HY1 HY2 HY3 HY4 HY5 HY6 HS2
    go_wp2_with fail
    generalize y6 = wz at *
    go_loopg [46] N (fun g x46 wr => ∃ (i : Nat) (P' : List (List Rw)), i ≤ N ∧ g = N - i ∧ x46 = .int .i64 i ∧ Hid (P'.length = N) ∧ Hid (∀ r ∈ P', r.length ≤ 1000) ∧ Hid (Sat (ownR (.slice Bp N dp) 27 1 (lfR us) :: pagesP us P' :: stP p most P :: blk q #[.int .i64 m2, .slice A N c] 26 :: rPg A P :: ls) wr))
    case atStart => exact ⟨0, P, Nat.zero_le _, rfl, rfl, HN, HPk, HS3⟩
    case round =>
      obtain ⟨i, P', hi, rfl, rfl, HL', HK', HSr⟩ := hrel
      clear HS3
      by_cases hlt : i < N
      · have hx : P'[i]? = some (P'[i]'(by rw [HL'.out]; exact hlt)) := List.getElem?_eq_getElem _
        generalize P'[i]'(by rw [HL'.out]; exact hlt) = r at hx
        have hrk := HK'.out r (List.mem_of_getElem? hx)
        obtain ⟨u, hu, hO⟩ := HSr.out.drop.pageAt hx
        obtain ⟨Bu, cu, rfl, _, _, _⟩ := hO.slv'
        rw [rwR_len] at hu
        have HU := Lib.hid hu
        obtain ⟨Bq, cq, eq9, _, _, hRp⟩ := HSr.out.own_.slv'
        obtain ⟨b, o, e5, hcc⟩ := hRp i [.slice Bu r.length cu] (lfR_at hu)
        injection eq9 with e1 e2 e3
        subst e1 e3
        subst e5
        have k1 := hcc 0 _ rfl
        rw [Nat.mul_one, Nat.add_zero] at k1
        have hltI : (i : Int) < (N : Int) := by omega
        have HX := Lib.hid hx
        clear hx hu hO hRp hcc e2
        generalize hnr : r.length = nr at *
        have HNr := Lib.hid hnr
        clear hnr
        go_wp2_with fail
        go_loopg [54] nr (fun g x54 ws => ∃ (k : Nat) (P2 : List (List Rw)) (r2 : List Rw), k ≤ nr ∧ g = nr - k ∧ x54 = .int .i64 k ∧ Hid (P2.length = N) ∧ Hid (∀ r ∈ P2, r.length ≤ 1000) ∧ Hid (P2[i]? = some r2) ∧ Hid (r2.length = nr) ∧ Hid (Sat (ownR (.slice (some ⟨b, o, none⟩) N dp) 27 1 (lfR us) :: pagesP us P2 :: stP p most P :: blk q #[.int .i64 m2, .slice A N c] 26 :: rPg A P :: ls) ws))
        case atStart => exact ⟨0, P', r, Nat.zero_le _, rfl, rfl, HL', HK', HX, HNr, HSr⟩
        case round =>
          obtain ⟨k, P2, r2, hk, rfl, rfl, HL2, HK2, HX2, HN2, HSs⟩ := hrel
          by_cases hlk : k < nr
          · have hlkI : (k : Int) < (nr : Int) := by omega
            have hxk : r2[k]? = some (r2[k]'(by rw [HN2.out]; exact hlk)) := List.getElem?_eq_getElem _
            generalize r2[k]'(by rw [HN2.out]; exact hlk) = x at hxk
            obtain ⟨kk, nn⟩ := x
            obtain ⟨Bq, cq, eq9, _, _, hRp⟩ := HSs.out.own_.slv'
            injection eq9 with e1 e2 e3
            obtain ⟨b9, o9, e5, hcc⟩ := hRp i [.slice Bu nr cu] (lfR_at HU.out)
            rw [← e1] at e5
            injection e5 with e5
            injection e5 with e6 e7 _
            subst e6 e7
            have k2 := hcc 0 _ rfl
            rw [Nat.mul_one, Nat.add_zero] at k2
            obtain ⟨v, hv, hS4⟩ := HSs.out.s1.pageOut HX2.out
            rw [HU.out] at hv
            injection hv with hv
            have hne : rwR r2 ≠ [] := fun e => by have := congrArg List.length e; rw [rwR_len, HN2.out] at this; simp at this; omega
            obtain ⟨g4, c4, e4, _, _⟩ := hS4.ownW_.some_ hne
            rw [rwR_len, HN2.out] at e4
            rw [e4] at hv hS4
            injection hv with e8 _ e10
            subst e8 e10
            have hrow : (rwR r2)[k]? = some (enR (kk, nn)) := by rw [rwR, List.getElem?_map, hxk]; rfl
            obtain ⟨q1, q2⟩ := ownW_at hS4.ownW_ hrow 1 rfl
            have HST := Lib.hid (fun (z : Int) => (show Sat (ownR (.slice (some ⟨b, o, none⟩) N dp) 27 1 (lfR us) :: pagesP us (P2.set i (r2.set k (kk, z))) :: stP p most P :: blk q #[.int .i64 m2, .slice A N c] 26 :: rPg A P :: ls) (wr.setCell ⟨g4, k * 2 + 1, none⟩ (.int .i64 z)) from by
              have h5 := hS4.setOwnW hrow 1 (by decide) (.int .i64 z)
              have h6 : (rwR r2).set k ((enR (kk, nn)).set 1 (.int .i64 z)) = rwR (r2.set k (kk, z)) := by rw [rwR, rwR, List.map_set]; rfl
              rw [h6] at h5
              have h7 := h5.pageBack (by rw [HL2.out]; exact hlt) HSs.out.drop.pagesLen
              rw [set_same HU.out] at h7
              exact h7.s1))
            have HL3 := Lib.hid (fun (z : Int) => (show (P2.set i (r2.set k (kk, z))).length = N from by rw [List.length_set]; exact HL2.out))
            have HK3 := Lib.hid (fun (z : Int) => (show ∀ r ∈ P2.set i (r2.set k (kk, z)), r.length ≤ 1000 from fun r hr => by
              rcases List.mem_or_eq_of_mem_set hr with hr | rfl
              · exact HK2.out r hr
              · rw [List.length_set, HN2.out]; exact hrk))
            have HX3 := Lib.hid (fun (z : Int) => (show (P2.set i (r2.set k (kk, z)))[i]? = some (r2.set k (kk, z)) from by rw [List.getElem?_set_self (by rw [HL2.out]; exact hlt)]))
            have HN3 := Lib.hid (fun (z : Int) => (show (r2.set k (kk, z)).length = nr from by rw [List.length_set]; exact HN2.out))
            clear hxk hRp hcc hS4 hne hrow e1 e2 e3
            go_wp2_with fail
            go_roundg (nr - (k + 1))
            case measure => omega
            case rel => exact ⟨k + 1, _, _, by omega, rfl, by go_num, HL3.out _, HK3.out _, HX3.out _, HN3.out _, HST.out _⟩
          · obtain rfl : k = nr := by omega
            go_wp2_with fail
            go_roundg (N - (i + 1))
            case measure => omega
            case rel => exact ⟨i + 1, P2, by omega, rfl, by go_num, HL2, HK2, HSs⟩
      · obtain rfl : N = i := by omega
        have hSd := HSr.out.drop.drop.drew
        have kq2 : wr.drew.cell? ⟨q, 1, none⟩ = _ := hSd.s1.blk_.at_ 1 rfl
        simp only [List.getElem_toArray, List.getElem_cons_succ, List.getElem_cons_zero] at kq2
        go_wp2_with fail
        refine Rg.beginH (fun x => x.cell? ⟨q, 1, none⟩ = some (.slice A N c)) (by kernel_rfl) ?_
        have hS0 : (fun x => x.cell? ⟨q, 1, none⟩ = some (.slice A N c)) (World.drew wr) := kq2
        refine Rg.takeH (i := 0) (v := ?_) rfl (by kernel_rfl) (fun _ _ _ h => h) hS0 (Or.inl ⟨by rfl, ?_⟩) ?_
        rotate_left
        · ((intro w hSw; (try dsimp only at hSw); go_simp) <;> (with_reducible rfl))
        try simp only [Act.put, List.setIfInBounds_toArray, List.set_cons_zero, List.set_cons_succ]
        refine Rg.takeH (i := 2) (v := ?_) rfl (by kernel_rfl) (fun _ _ _ h => h) hS0 (Or.inl ⟨by rfl, ?_⟩) ?_
        rotate_left
        · ((intro w hSw; (try dsimp only at hSw); go_simp) <;> (with_reducible rfl))
        try simp only [Act.put, List.setIfInBounds_toArray, List.set_cons_zero, List.set_cons_succ]
        refine Rg.takeH (i := 3) (v := ?_) rfl (by kernel_rfl) (fun _ _ _ h => h) hS0 (Or.inl ⟨by rfl, ?_⟩) ?_
        rotate_left
        · ((intro w hSw; (try dsimp only at hSw); go_simp) <;> (with_reducible rfl))
        try simp only [Act.put, List.setIfInBounds_toArray, List.set_cons_zero, List.set_cons_succ]
        refine Rg.takeH (i := 4) (v := ?_) rfl (by kernel_rfl) (fun _ _ _ h => h) hS0 (Or.inl ⟨by rfl, ?_⟩) ?_
        rotate_left
        · ((intro w hSw; (try dsimp only at hSw); go_simp) <;> (with_reducible rfl))
        try simp only [Act.put, List.setIfInBounds_toArray, List.set_cons_zero, List.set_cons_succ]
        refine Rg.takeH (i := 5) (v := ?_) rfl (by kernel_rfl) (fun _ _ _ h => h) hS0 (Or.inl ⟨by rfl, ?_⟩) ?_
        rotate_left
        · ((intro w hSw; (try dsimp only at hSw); go_simp) <;> (with_reducible rfl))
        try simp only [Act.put, List.setIfInBounds_toArray, List.set_cons_zero, List.set_cons_succ]
        refine Rg.oneH (i := 1) rfl (by kernel_rfl) (fun K hK => ?_)
        go_simp
        (with_reducible refine (stPages p most P _ wr.drew hSd (by rw [HF.out]; exact HFb2.out) (by rw [HN.out]; exact HPb.out)).mono ?_)
        rintro e z1 ⟨v1, us1, rfl, hZ⟩
        obtain ⟨A1, d1, ev1, hd1, hP1⟩ := hZ.pgs
        rw [HN.out] at ev1
        subst ev1
        have hq1 := hZ.drop.drop.s1.blk_.at_ 1 rfl
        simp only [List.getElem_toArray, List.getElem_cons_succ, List.getElem_cons_zero] at hq1
        have HSm2 := Lib.hid (show Calls Tryz.prog 30 #[.slice A1 N d1, .slice A N c] z1 (YesPost z1) from by rw [← HN.out]; exact dSame A1 A d1 c P z1 hP1 hZ.drop.drop.s2.pgr_ (by rw [HN.out]; exact HPb.out) (fun r hr => by have := HPk.out r hr; omega))
        change K _ _
        have hS1 : (fun x => x.cell? ⟨q, 1, none⟩ = some (.slice A N c)) z1 := hq1
        refine hK.out _ _ hS1 ?_
        clear hK K
        try simp only [Act.put, List.setIfInBounds_toArray, List.set_cons_zero, List.set_cons_succ]
        refine Rg.oneH (i := 6) rfl (by kernel_rfl) (fun K hK => ?_)
        go_simp
        (with_reducible refine HSm2.out.mono ?_)
        rintro e z2 ⟨rfl, hbz⟩
        have hq2 := (hbz.cell (World.block_lt_of_cell? _ _ hq1)).trans hq1
        have HZ2 := Lib.hid (hZ.drop.drop.below hbz)
        change K _ _
        have hS2 : (fun x => x.cell? ⟨q, 1, none⟩ = some (.slice A N c)) z2 := hq2
        refine hK.out _ _ hS2 ?_
        clear hK K
        try simp only [Act.put, List.setIfInBounds_toArray, List.set_cons_zero, List.set_cons_succ]
        refine Rg.oneH (i := 7) rfl (by kernel_rfl) (fun K hK => ?_)
        go_simp
        refine hK.out _ _ hS2 ?_
        clear hK K
        try simp only [Act.put, List.setIfInBounds_toArray, List.set_cons_zero, List.set_cons_succ]
        refine wpAnyH_done (by kernel_rfl) ?_ _
        go_wp2_with fail
        exact ⟨rfl, HZ2.out⟩
  · skip
    go_simp
    (with_reducible refine (HDb.out _ HY5.out).mono ?_)
    rintro e y6 ⟨v6, rfl, ho6, hb6⟩
    have hS6' := (hb6.cell (World.block_lt_of_cell? _ _ hS5')).trans hS5'
    have HY6 := Lib.hid (below_then HY5.out hb6)
    obtain ⟨g6, c6, e6, _, hr6⟩ := own_bys ho6 (by simp [stBy, natB])
    subst e6
    have hcv6 := run_str (P := Tryz.prog) y6 23 9 5 Tryz.underlying23 Tryz.underlying5 Tryz.underlying9 (some ⟨g6, 0, none⟩) (stBy P).length c6 (stBy P) rfl (hr6)
    change K _ _
    have hS6 : (fun x => x.cell? ⟨q, 1, none⟩ = some (.slice A N c)) y6 := hS6'
    refine hK.out _ _ hS6 ?_
    clear hK K
    try simp only [Act.put, List.setIfInBounds_toArray, List.set_cons_zero, List.set_cons_succ]
    have hcv5 := run_str (P := Tryz.prog) y6 23 9 5 Tryz.underlying23 Tryz.underlying5 Tryz.underlying9 (some ⟨g5, 0, none⟩) (stBy P).length c5 (stBy P) rfl (hr5.below hb6)
    refine Rg.twoH (i := 18) (j := 21) rfl rfl (by kernel_rfl) (fun K hK => ?_) (fun K hK => ?_)
    · skip
      go_simp
      refine hK.out _ _ hS6 ?_
      clear hK K
      try simp only [Act.put, List.setIfInBounds_toArray, List.set_cons_zero, List.set_cons_succ]
      refine Rg.oneH (i := 21) rfl (by kernel_rfl) (fun K hK => ?_)
      go_simp
      refine hK.out _ _ hS6 ?_
      clear hK K
      try simp only [Act.put, List.setIfInBounds_toArray, List.set_cons_zero, List.set_cons_succ]
      refine Rg.oneH (i := 22) rfl (by kernel_rfl) (fun K hK => ?_)
      go_simp
      refine hK.out _ _ hS6 ?_
      clear hK K
      try simp only [Act.put, List.setIfInBounds_toArray, List.set_cons_zero, List.set_cons_succ]
      refine Rg.oneH (i := 23) rfl (by kernel_rfl) (fun K hK => ?_)
      go_simp
      refine hK.out _ _ hS6 ?_
      clear hK K
      try simp only [Act.put, List.setIfInBounds_toArray, List.set_cons_zero, List.set_cons_succ]
      refine wpAnyH_done (by kernel_rfl) ?_ _
      have hNb := HPb.out
      have HS3 := Lib.hid (HS2.out.below HY6.out)
      clear hS0 HSm HSc HRo HBy HDb HRR HY0 HY1 HY2 HY3 HY4 HY5 HY6 HS2
      go_wp2_with fail
      generalize y6 = wz at *
      go_loopg [46] N (fun g x46 wr => ∃ (i : Nat) (P' : List (List Rw)), i ≤ N ∧ g = N - i ∧ x46 = .int .i64 i ∧ Hid (P'.length = N) ∧ Hid (∀ r ∈ P', r.length ≤ 1000) ∧ Hid (Sat (ownR (.slice Bp N dp) 27 1 (lfR us) :: pagesP us P' :: stP p most P :: blk q #[.int .i64 m2, .slice A N c] 26 :: rPg A P :: ls) wr))
      case atStart => exact ⟨0, P, Nat.zero_le _, rfl, rfl, HN, HPk, HS3⟩
      case round =>
        obtain ⟨i, P', hi, rfl, rfl, HL', HK', HSr⟩ := hrel
        clear HS3
        by_cases hlt : i < N
        · have hx : P'[i]? = some (P'[i]'(by rw [HL'.out]; exact hlt)) := List.getElem?_eq_getElem _
          generalize P'[i]'(by rw [HL'.out]; exact hlt) = r at hx
          have hrk := HK'.out r (List.mem_of_getElem? hx)
          obtain ⟨u, hu, hO⟩ := HSr.out.drop.pageAt hx
          obtain ⟨Bu, cu, rfl, _, _, _⟩ := hO.slv'
          rw [rwR_len] at hu
          have HU := Lib.hid hu
          obtain ⟨Bq, cq, eq9, _, _, hRp⟩ := HSr.out.own_.slv'
          obtain ⟨b, o, e5, hcc⟩ := hRp i [.slice Bu r.length cu] (lfR_at hu)
          injection eq9 with e1 e2 e3
          subst e1 e3
          subst e5
          have k1 := hcc 0 _ rfl
          rw [Nat.mul_one, Nat.add_zero] at k1
          have hltI : (i : Int) < (N : Int) := by omega
          have HX := Lib.hid hx
          clear hx hu hO hRp hcc e2
          generalize hnr : r.length = nr at *
          have HNr := Lib.hid hnr
          clear hnr
          go_wp2_with fail
          go_loopg [54] nr (fun g x54 ws => ∃ (k : Nat) (P2 : List (List Rw)) (r2 : List Rw), k ≤ nr ∧ g = nr - k ∧ x54 = .int .i64 k ∧ Hid (P2.length = N) ∧ Hid (∀ r ∈ P2, r.length ≤ 1000) ∧ Hid (P2[i]? = some r2) ∧ Hid (r2.length = nr) ∧ Hid (Sat (ownR (.slice (some ⟨b, o, none⟩) N dp) 27 1 (lfR us) :: pagesP us P2 :: stP p most P :: blk q #[.int .i64 m2, .slice A N c] 26 :: rPg A P :: ls) ws))
          case atStart => exact ⟨0, P', r, Nat.zero_le _, rfl, rfl, HL', HK', HX, HNr, HSr⟩
          case round =>
            obtain ⟨k, P2, r2, hk, rfl, rfl, HL2, HK2, HX2, HN2, HSs⟩ := hrel
            by_cases hlk : k < nr
            · have hlkI : (k : Int) < (nr : Int) := by omega
              have hxk : r2[k]? = some (r2[k]'(by rw [HN2.out]; exact hlk)) := List.getElem?_eq_getElem _
              generalize r2[k]'(by rw [HN2.out]; exact hlk) = x at hxk
              obtain ⟨kk, nn⟩ := x
              obtain ⟨Bq, cq, eq9, _, _, hRp⟩ := HSs.out.own_.slv'
              injection eq9 with e1 e2 e3
              obtain ⟨b9, o9, e5, hcc⟩ := hRp i [.slice Bu nr cu] (lfR_at HU.out)
              rw [← e1] at e5
              injection e5 with e5
              injection e5 with e6 e7 _
              subst e6 e7
              have k2 := hcc 0 _ rfl
              rw [Nat.mul_one, Nat.add_zero] at k2
              obtain ⟨v, hv, hS4⟩ := HSs.out.s1.pageOut HX2.out
              rw [HU.out] at hv
              injection hv with hv
              have hne : rwR r2 ≠ [] := fun e => by have := congrArg List.length e; rw [rwR_len, HN2.out] at this; simp at this; omega
              obtain ⟨g4, c4, e4, _, _⟩ := hS4.ownW_.some_ hne
              rw [rwR_len, HN2.out] at e4
              rw [e4] at hv hS4
              injection hv with e8 _ e10
              subst e8 e10
              have hrow : (rwR r2)[k]? = some (enR (kk, nn)) := by rw [rwR, List.getElem?_map, hxk]; rfl
              obtain ⟨q1, q2⟩ := ownW_at hS4.ownW_ hrow 1 rfl
              have HST := Lib.hid (fun (z : Int) => (show Sat (ownR (.slice (some ⟨b, o, none⟩) N dp) 27 1 (lfR us) :: pagesP us (P2.set i (r2.set k (kk, z))) :: stP p most P :: blk q #[.int .i64 m2, .slice A N c] 26 :: rPg A P :: ls) (wr.setCell ⟨g4, k * 2 + 1, none⟩ (.int .i64 z)) from by
                have h5 := hS4.setOwnW hrow 1 (by decide) (.int .i64 z)
                have h6 : (rwR r2).set k ((enR (kk, nn)).set 1 (.int .i64 z)) = rwR (r2.set k (kk, z)) := by rw [rwR, rwR, List.map_set]; rfl
                rw [h6] at h5
                have h7 := h5.pageBack (by rw [HL2.out]; exact hlt) HSs.out.drop.pagesLen
                rw [set_same HU.out] at h7
                exact h7.s1))
              have HL3 := Lib.hid (fun (z : Int) => (show (P2.set i (r2.set k (kk, z))).length = N from by rw [List.length_set]; exact HL2.out))
              have HK3 := Lib.hid (fun (z : Int) => (show ∀ r ∈ P2.set i (r2.set k (kk, z)), r.length ≤ 1000 from fun r hr => by
                rcases List.mem_or_eq_of_mem_set hr with hr | rfl
                · exact HK2.out r hr
                · rw [List.length_set, HN2.out]; exact hrk))
              have HX3 := Lib.hid (fun (z : Int) => (show (P2.set i (r2.set k (kk, z)))[i]? = some (r2.set k (kk, z)) from by rw [List.getElem?_set_self (by rw [HL2.out]; exact hlt)]))
              have HN3 := Lib.hid (fun (z : Int) => (show (r2.set k (kk, z)).length = nr from by rw [List.length_set]; exact HN2.out))
              clear hxk hRp hcc hS4 hne hrow e1 e2 e3
              go_wp2_with fail
              go_roundg (nr - (k + 1))
              case measure => omega
              case rel => exact ⟨k + 1, _, _, by omega, rfl, by go_num, HL3.out _, HK3.out _, HX3.out _, HN3.out _, HST.out _⟩
            · obtain rfl : k = nr := by omega
              go_wp2_with fail
              go_roundg (N - (i + 1))
              case measure => omega
              case rel => exact ⟨i + 1, P2, by omega, rfl, by go_num, HL2, HK2, HSs⟩
        · obtain rfl : N = i := by omega
          have hSd := HSr.out.drop.drop.drew
          have kq2 : wr.drew.cell? ⟨q, 1, none⟩ = _ := hSd.s1.blk_.at_ 1 rfl
          simp only [List.getElem_toArray, List.getElem_cons_succ, List.getElem_cons_zero] at kq2
          go_wp2_with fail
          refine Rg.beginH (fun x => x.cell? ⟨q, 1, none⟩ = some (.slice A N c)) (by kernel_rfl) ?_
          have hS0 : (fun x => x.cell? ⟨q, 1, none⟩ = some (.slice A N c)) (World.drew wr) := kq2
          refine Rg.takeH (i := 0) (v := ?_) rfl (by kernel_rfl) (fun _ _ _ h => h) hS0 (Or.inl ⟨by rfl, ?_⟩) ?_
          rotate_left
          · ((intro w hSw; (try dsimp only at hSw); go_simp) <;> (with_reducible rfl))
          try simp only [Act.put, List.setIfInBounds_toArray, List.set_cons_zero, List.set_cons_succ]
          refine Rg.takeH (i := 2) (v := ?_) rfl (by kernel_rfl) (fun _ _ _ h => h) hS0 (Or.inl ⟨by rfl, ?_⟩) ?_
          rotate_left
          · ((intro w hSw; (try dsimp only at hSw); go_simp) <;> (with_reducible rfl))
          try simp only [Act.put, List.setIfInBounds_toArray, List.set_cons_zero, List.set_cons_succ]
          refine Rg.takeH (i := 3) (v := ?_) rfl (by kernel_rfl) (fun _ _ _ h => h) hS0 (Or.inl ⟨by rfl, ?_⟩) ?_
          rotate_left
          · ((intro w hSw; (try dsimp only at hSw); go_simp) <;> (with_reducible rfl))
          try simp only [Act.put, List.setIfInBounds_toArray, List.set_cons_zero, List.set_cons_succ]
          refine Rg.takeH (i := 4) (v := ?_) rfl (by kernel_rfl) (fun _ _ _ h => h) hS0 (Or.inl ⟨by rfl, ?_⟩) ?_
          rotate_left
          · ((intro w hSw; (try dsimp only at hSw); go_simp) <;> (with_reducible rfl))
          try simp only [Act.put, List.setIfInBounds_toArray, List.set_cons_zero, List.set_cons_succ]
          refine Rg.takeH (i := 5) (v := ?_) rfl (by kernel_rfl) (fun _ _ _ h => h) hS0 (Or.inl ⟨by rfl, ?_⟩) ?_
          rotate_left
          · ((intro w hSw; (try dsimp only at hSw); go_simp) <;> (with_reducible rfl))
          try simp only [Act.put, List.setIfInBounds_toArray, List.set_cons_zero, List.set_cons_succ]
          refine Rg.oneH (i := 1) rfl (by kernel_rfl) (fun K hK => ?_)
          go_simp
          (with_reducible refine (stPages p most P _ wr.drew hSd (by rw [HF.out]; exact HFb2.out) (by rw [HN.out]; exact HPb.out)).mono ?_)
          rintro e z1 ⟨v1, us1, rfl, hZ⟩
          obtain ⟨A1, d1, ev1, hd1, hP1⟩ := hZ.pgs
          rw [HN.out] at ev1
          subst ev1
          have hq1 := hZ.drop.drop.s1.blk_.at_ 1 rfl
          simp only [List.getElem_toArray, List.getElem_cons_succ, List.getElem_cons_zero] at hq1
          have HSm2 := Lib.hid (show Calls Tryz.prog 30 #[.slice A1 N d1, .slice A N c] z1 (YesPost z1) from by rw [← HN.out]; exact dSame A1 A d1 c P z1 hP1 hZ.drop.drop.s2.pgr_ (by rw [HN.out]; exact HPb.out) (fun r hr => by have := HPk.out r hr; omega))
          change K _ _
          have hS1 : (fun x => x.cell? ⟨q, 1, none⟩ = some (.slice A N c)) z1 := hq1
          refine hK.out _ _ hS1 ?_
          clear hK K
          try simp only [Act.put, List.setIfInBounds_toArray, List.set_cons_zero, List.set_cons_succ]
          refine Rg.oneH (i := 6) rfl (by kernel_rfl) (fun K hK => ?_)
          go_simp
          (with_reducible refine HSm2.out.mono ?_)
          rintro e z2 ⟨rfl, hbz⟩
          have hq2 := (hbz.cell (World.block_lt_of_cell? _ _ hq1)).trans hq1
          have HZ2 := Lib.hid (hZ.drop.drop.below hbz)
          change K _ _
          have hS2 : (fun x => x.cell? ⟨q, 1, none⟩ = some (.slice A N c)) z2 := hq2
          refine hK.out _ _ hS2 ?_
          clear hK K
          try simp only [Act.put, List.setIfInBounds_toArray, List.set_cons_zero, List.set_cons_succ]
          refine Rg.oneH (i := 7) rfl (by kernel_rfl) (fun K hK => ?_)
          go_simp
          refine hK.out _ _ hS2 ?_
          clear hK K
          try simp only [Act.put, List.setIfInBounds_toArray, List.set_cons_zero, List.set_cons_succ]
          refine wpAnyH_done (by kernel_rfl) ?_ _
          go_wp2_with fail
          exact ⟨rfl, HZ2.out⟩
    · skip
      go_simp
      refine hK.out _ _ hS6 ?_
      clear hK K
      try simp only [Act.put, List.setIfInBounds_toArray, List.set_cons_zero, List.set_cons_succ]
      refine Rg.oneH (i := 18) rfl (by kernel_rfl) (fun K hK => ?_)
      go_simp
      refine hK.out _ _ hS6 ?_
      clear hK K
      try simp only [Act.put, List.setIfInBounds_toArray, List.set_cons_zero, List.set_cons_succ]
      refine Rg.oneH (i := 22) rfl (by kernel_rfl) (fun K hK => ?_)
      go_simp
      refine hK.out _ _ hS6 ?_
      clear hK K
      try simp only [Act.put, List.setIfInBounds_toArray, List.set_cons_zero, List.set_cons_succ]
      refine Rg.oneH (i := 23) rfl (by kernel_rfl) (fun K hK => ?_)
      go_simp
      refine hK.out _ _ hS6 ?_
      clear hK K
      try simp only [Act.put, List.setIfInBounds_toArray, List.set_cons_zero, List.set_cons_succ]
      refine wpAnyH_done (by kernel_rfl) ?_ _
      have hNb := HPb.out
      have HS3 := Lib.hid (HS2.out.below HY6.out)
      clear hS0 HSm HSc HRo HBy HDb HRR HY0 HY1 HY2 HY3 HY4 HY5 HY6 HS2
      go_wp2_with fail
      generalize y6 = wz at *
      go_loopg [46] N (fun g x46 wr => ∃ (i : Nat) (P' : List (List Rw)), i ≤ N ∧ g = N - i ∧ x46 = .int .i64 i ∧ Hid (P'.length = N) ∧ Hid (∀ r ∈ P', r.length ≤ 1000) ∧ Hid (Sat (ownR (.slice Bp N dp) 27 1 (lfR us) :: pagesP us P' :: stP p most P :: blk q #[.int .i64 m2, .slice A N c] 26 :: rPg A P :: ls) wr))
      case atStart => exact ⟨0, P, Nat.zero_le _, rfl, rfl, HN, HPk, HS3⟩
      case round =>
        obtain ⟨i, P', hi, rfl, rfl, HL', HK', HSr⟩ := hrel
        clear HS3
        by_cases hlt : i < N
        · have hx : P'[i]? = some (P'[i]'(by rw [HL'.out]; exact hlt)) := List.getElem?_eq_getElem _
          generalize P'[i]'(by rw [HL'.out]; exact hlt) = r at hx
          have hrk := HK'.out r (List.mem_of_getElem? hx)
          obtain ⟨u, hu, hO⟩ := HSr.out.drop.pageAt hx
          obtain ⟨Bu, cu, rfl, _, _, _⟩ := hO.slv'
          rw [rwR_len] at hu
          have HU := Lib.hid hu
          obtain ⟨Bq, cq, eq9, _, _, hRp⟩ := HSr.out.own_.slv'
          obtain ⟨b, o, e5, hcc⟩ := hRp i [.slice Bu r.length cu] (lfR_at hu)
          injection eq9 with e1 e2 e3
          subst e1 e3
          subst e5
          have k1 := hcc 0 _ rfl
          rw [Nat.mul_one, Nat.add_zero] at k1
          have hltI : (i : Int) < (N : Int) := by omega
          have HX := Lib.hid hx
          clear hx hu hO hRp hcc e2
          generalize hnr : r.length = nr at *
          have HNr := Lib.hid hnr
          clear hnr
          go_wp2_with fail
          go_loopg [54] nr (fun g x54 ws => ∃ (k : Nat) (P2 : List (List Rw)) (r2 : List Rw), k ≤ nr ∧ g = nr - k ∧ x54 = .int .i64 k ∧ Hid (P2.length = N) ∧ Hid (∀ r ∈ P2, r.length ≤ 1000) ∧ Hid (P2[i]? = some r2) ∧ Hid (r2.length = nr) ∧ Hid (Sat (ownR (.slice (some ⟨b, o, none⟩) N dp) 27 1 (lfR us) :: pagesP us P2 :: stP p most P :: blk q #[.int .i64 m2, .slice A N c] 26 :: rPg A P :: ls) ws))
          case atStart => exact ⟨0, P', r, Nat.zero_le _, rfl, rfl, HL', HK', HX, HNr, HSr⟩
          case round =>
            obtain ⟨k, P2, r2, hk, rfl, rfl, HL2, HK2, HX2, HN2, HSs⟩ := hrel
            by_cases hlk : k < nr
            · have hlkI : (k : Int) < (nr : Int) := by omega
              have hxk : r2[k]? = some (r2[k]'(by rw [HN2.out]; exact hlk)) := List.getElem?_eq_getElem _
              generalize r2[k]'(by rw [HN2.out]; exact hlk) = x at hxk
              obtain ⟨kk, nn⟩ := x
              obtain ⟨Bq, cq, eq9, _, _, hRp⟩ := HSs.out.own_.slv'
              injection eq9 with e1 e2 e3
              obtain ⟨b9, o9, e5, hcc⟩ := hRp i [.slice Bu nr cu] (lfR_at HU.out)
              rw [← e1] at e5
              injection e5 with e5
              injection e5 with e6 e7 _
              subst e6 e7
              have k2 := hcc 0 _ rfl
              rw [Nat.mul_one, Nat.add_zero] at k2
              obtain ⟨v, hv, hS4⟩ := HSs.out.s1.pageOut HX2.out
              rw [HU.out] at hv
              injection hv with hv
              have hne : rwR r2 ≠ [] := fun e => by have := congrArg List.length e; rw [rwR_len, HN2.out] at this; simp at this; omega
              obtain ⟨g4, c4, e4, _, _⟩ := hS4.ownW_.some_ hne
              rw [rwR_len, HN2.out] at e4
              rw [e4] at hv hS4
              injection hv with e8 _ e10
              subst e8 e10
              have hrow : (rwR r2)[k]? = some (enR (kk, nn)) := by rw [rwR, List.getElem?_map, hxk]; rfl
              obtain ⟨q1, q2⟩ := ownW_at hS4.ownW_ hrow 1 rfl
              have HST := Lib.hid (fun (z : Int) => (show Sat (ownR (.slice (some ⟨b, o, none⟩) N dp) 27 1 (lfR us) :: pagesP us (P2.set i (r2.set k (kk, z))) :: stP p most P :: blk q #[.int .i64 m2, .slice A N c] 26 :: rPg A P :: ls) (wr.setCell ⟨g4, k * 2 + 1, none⟩ (.int .i64 z)) from by
                have h5 := hS4.setOwnW hrow 1 (by decide) (.int .i64 z)
                have h6 : (rwR r2).set k ((enR (kk, nn)).set 1 (.int .i64 z)) = rwR (r2.set k (kk, z)) := by rw [rwR, rwR, List.map_set]; rfl
                rw [h6] at h5
                have h7 := h5.pageBack (by rw [HL2.out]; exact hlt) HSs.out.drop.pagesLen
                rw [set_same HU.out] at h7
                exact h7.s1))
              have HL3 := Lib.hid (fun (z : Int) => (show (P2.set i (r2.set k (kk, z))).length = N from by rw [List.length_set]; exact HL2.out))
              have HK3 := Lib.hid (fun (z : Int) => (show ∀ r ∈ P2.set i (r2.set k (kk, z)), r.length ≤ 1000 from fun r hr => by
                rcases List.mem_or_eq_of_mem_set hr with hr | rfl
                · exact HK2.out r hr
                · rw [List.length_set, HN2.out]; exact hrk))
              have HX3 := Lib.hid (fun (z : Int) => (show (P2.set i (r2.set k (kk, z)))[i]? = some (r2.set k (kk, z)) from by rw [List.getElem?_set_self (by rw [HL2.out]; exact hlt)]))
              have HN3 := Lib.hid (fun (z : Int) => (show (r2.set k (kk, z)).length = nr from by rw [List.length_set]; exact HN2.out))
              clear hxk hRp hcc hS4 hne hrow e1 e2 e3
              go_wp2_with fail
              go_roundg (nr - (k + 1))
              case measure => omega
              case rel => exact ⟨k + 1, _, _, by omega, rfl, by go_num, HL3.out _, HK3.out _, HX3.out _, HN3.out _, HST.out _⟩
            · obtain rfl : k = nr := by omega
              go_wp2_with fail
              go_roundg (N - (i + 1))
              case measure => omega
              case rel => exact ⟨i + 1, P2, by omega, rfl, by go_num, HL2, HK2, HSs⟩
        · obtain rfl : N = i := by omega
          have hSd := HSr.out.drop.drop.drew
          have kq2 : wr.drew.cell? ⟨q, 1, none⟩ = _ := hSd.s1.blk_.at_ 1 rfl
          simp only [List.getElem_toArray, List.getElem_cons_succ, List.getElem_cons_zero] at kq2
          go_wp2_with fail
          refine Rg.beginH (fun x => x.cell? ⟨q, 1, none⟩ = some (.slice A N c)) (by kernel_rfl) ?_
          have hS0 : (fun x => x.cell? ⟨q, 1, none⟩ = some (.slice A N c)) (World.drew wr) := kq2
          refine Rg.takeH (i := 0) (v := ?_) rfl (by kernel_rfl) (fun _ _ _ h => h) hS0 (Or.inl ⟨by rfl, ?_⟩) ?_
          rotate_left
          · ((intro w hSw; (try dsimp only at hSw); go_simp) <;> (with_reducible rfl))
          try simp only [Act.put, List.setIfInBounds_toArray, List.set_cons_zero, List.set_cons_succ]
          refine Rg.takeH (i := 2) (v := ?_) rfl (by kernel_rfl) (fun _ _ _ h => h) hS0 (Or.inl ⟨by rfl, ?_⟩) ?_
          rotate_left
          · ((intro w hSw; (try dsimp only at hSw); go_simp) <;> (with_reducible rfl))
          try simp only [Act.put, List.setIfInBounds_toArray, List.set_cons_zero, List.set_cons_succ]
          refine Rg.takeH (i := 3) (v := ?_) rfl (by kernel_rfl) (fun _ _ _ h => h) hS0 (Or.inl ⟨by rfl, ?_⟩) ?_
          rotate_left
          · ((intro w hSw; (try dsimp only at hSw); go_simp) <;> (with_reducible rfl))
          try simp only [Act.put, List.setIfInBounds_toArray, List.set_cons_zero, List.set_cons_succ]
          refine Rg.takeH (i := 4) (v := ?_) rfl (by kernel_rfl) (fun _ _ _ h => h) hS0 (Or.inl ⟨by rfl, ?_⟩) ?_
          rotate_left
          · ((intro w hSw; (try dsimp only at hSw); go_simp) <;> (with_reducible rfl))
          try simp only [Act.put, List.setIfInBounds_toArray, List.set_cons_zero, List.set_cons_succ]
          refine Rg.takeH (i := 5) (v := ?_) rfl (by kernel_rfl) (fun _ _ _ h => h) hS0 (Or.inl ⟨by rfl, ?_⟩) ?_
          rotate_left
          · ((intro w hSw; (try dsimp only at hSw); go_simp) <;> (with_reducible rfl))
          try simp only [Act.put, List.setIfInBounds_toArray, List.set_cons_zero, List.set_cons_succ]
          refine Rg.oneH (i := 1) rfl (by kernel_rfl) (fun K hK => ?_)
          go_simp
          (with_reducible refine (stPages p most P _ wr.drew hSd (by rw [HF.out]; exact HFb2.out) (by rw [HN.out]; exact HPb.out)).mono ?_)
          rintro e z1 ⟨v1, us1, rfl, hZ⟩
          obtain ⟨A1, d1, ev1, hd1, hP1⟩ := hZ.pgs
          rw [HN.out] at ev1
          subst ev1
          have hq1 := hZ.drop.drop.s1.blk_.at_ 1 rfl
          simp only [List.getElem_toArray, List.getElem_cons_succ, List.getElem_cons_zero] at hq1
          have HSm2 := Lib.hid (show Calls Tryz.prog 30 #[.slice A1 N d1, .slice A N c] z1 (YesPost z1) from by rw [← HN.out]; exact dSame A1 A d1 c P z1 hP1 hZ.drop.drop.s2.pgr_ (by rw [HN.out]; exact HPb.out) (fun r hr => by have := HPk.out r hr; omega))
          change K _ _
          have hS1 : (fun x => x.cell? ⟨q, 1, none⟩ = some (.slice A N c)) z1 := hq1
          refine hK.out _ _ hS1 ?_
          clear hK K
          try simp only [Act.put, List.setIfInBounds_toArray, List.set_cons_zero, List.set_cons_succ]
          refine Rg.oneH (i := 6) rfl (by kernel_rfl) (fun K hK => ?_)
          go_simp
          (with_reducible refine HSm2.out.mono ?_)
          rintro e z2 ⟨rfl, hbz⟩
          have hq2 := (hbz.cell (World.block_lt_of_cell? _ _ hq1)).trans hq1
          have HZ2 := Lib.hid (hZ.drop.drop.below hbz)
          change K _ _
          have hS2 : (fun x => x.cell? ⟨q, 1, none⟩ = some (.slice A N c)) z2 := hq2
          refine hK.out _ _ hS2 ?_
          clear hK K
          try simp only [Act.put, List.setIfInBounds_toArray, List.set_cons_zero, List.set_cons_succ]
          refine Rg.oneH (i := 7) rfl (by kernel_rfl) (fun K hK => ?_)
          go_simp
          refine hK.out _ _ hS2 ?_
          clear hK K
          try simp only [Act.put, List.setIfInBounds_toArray, List.set_cons_zero, List.set_cons_succ]
          refine wpAnyH_done (by kernel_rfl) ?_ _
          go_wp2_with fail
          exact ⟨rfl, HZ2.out⟩
end Go.Proofs.YtlekfpeonehggaaGreatDoor
end
