/- Package valid: Forget, Keys. -/
import Derived.Test.YtkfciofpbnlmeaaDoorVf
set_option linter.unusedVariables false
set_option linter.unusedSimpArgs false
set_option maxRecDepth 100000
namespace Go.Proofs.YtkfciofpbnlmeaaDoor
open Go.Proofs.BL Go.Proofs.Peel Go.RowKit Go.Proofs.Ky Go.Proofs.Vl

theorem cCloneS (A : Option Addr) (n c : Nat) (l : List Str) (w : World) (hr : RowsAt w 1 A (rwS l)) (hn : l.length = n) (hz : A = none → c = 0) (hc : n ≤ c) (hl : n ≤ 1000000) :
    Calls Tryd.prog 31 #[.slice A n c] w (SrtPost l w) := by
  cases l with
  | nil =>
    subst hn
    cases A with
    | none =>
      refine (Tryd.slices_Clone_string_nil 0 c w).mono ?_
      rintro e w' ⟨rfl, rfl⟩
      exact ⟨_, rfl, BL.Own.nil _ _ _ _, Below.refl _ _⟩
    | some a =>
      refine (Tryd.slices_Clone_string_zero a c w).mono ?_
      rintro e w' ⟨v', rfl, ho, _, hb⟩
      exact ⟨_, rfl, own_of ho, hb⟩
  | cons x l =>
    obtain ⟨b, o, rfl, _⟩ := txtAt hr (i := 0) (r := x) rfl
    refine (Tryd.slices_Clone_string b o n c (x :: l) w (by omega) (by omega) (fun j hj => ?_)).mono ?_
    · obtain ⟨b', o', e', hc'⟩ := txtAt hr (i := j) (r := (x :: l)[j]) (List.getElem?_eq_getElem hj)
      injection e' with e'
      injection e' with e1 e2
      subst e1 e2
      rw [hc', List.getD, List.getElem?_eq_getElem hj]
      rfl
    · rintro e w' ⟨v', rfl, ho, _, hb⟩
      rw [List.take_of_length_le (by omega)] at ho
      exact ⟨_, rfl, own_of (by rw [hn]; exact ho), hb⟩
theorem info_L : (Tryd.prog.info? 23).map (fun i => (i.zero, i.size, i.bytes)) = some (some (.slice none 0 0), 1, 24) := by kernel_rfl
theorem size_L (w : World) : (Go.sizeOf 23).run Tryd.prog w = .ok 1 w := rfl
theorem lfR_flat (vs : List Value) : (lfR vs).flatten = vs := by
  induction vs with
  | nil => rfl
  | cons v vs ih =>
    show [v] ++ (lfR vs).flatten = _
    rw [ih]
    rfl
theorem own_L {w : World} {base : Nat} {v : Value} {vs : List Value} (h : w.ownsRow base 23 1 v vs.length vs) : BL.Own w base 23 1 v (lfR vs) := ⟨by rw [lfR_len, lfR_flat]; exact h, lfR_two vs⟩
theorem cCloneL (g o n c : Nat) (vs : List Value) (w : World) (hr : RowsAt w 1 (some ⟨g, o, none⟩) (lfR vs)) (hn : vs.length = n) (hl : n ≤ 1000000) (h1 : ∀ u ∈ vs, u.oneCell' = true) :
    Calls Tryd.prog 30 #[.slice (some ⟨g, o, none⟩) n c] w (fun e w' => ∃ v, e = .returned v ∧ BL.Own w' w.heap.size 23 1 v (lfR vs) ∧ Below w.heap.size w w') := by
  obtain ⟨i0, hi, hz0, hz1, hz2⟩ := info_parts info_L
  refine (Tryd.slices_Clone_f30 i0 (.slice none 0 0) 1 24 hi hz0 hz1 hz2 rfl (by decide) size_L g o n c vs w (by omega) (by simp only [maxLen]; omega) (by omega) (fun j u hj => ?_) h1).mono ?_
  · obtain ⟨b', o', e', hc'⟩ := hr j [u] (lfR_at hj)
    injection e' with e'
    injection e' with e1 e2
    subst e1 e2
    have := hc' 0 _ rfl
    rwa [Nat.mul_one, Nat.add_zero] at this
  · rintro e w' ⟨v', rfl, ho, _, hb⟩
    exact ⟨_, rfl, own_L (by rw [hn]; exact ho), hb⟩
def FgtPost (p f : Nat) (all : List (List Str)) (below : Int) (ls : List Part) (e : Ending) (w' : World) : Prop := e = .returned (.int .i64 (fgtV f all.length below : Nat)) ∧ Sat (hisP p (f + fgtV f all.length below) all :: ls) w'
theorem fgt_none {f len : Nat} {below : Int} (hf : f ≤ len) (h : below ≤ f ∨ min (below - 1) len - f ≤ 0) : fgtV f len below = 0 := by
  unfold fgtV; omega
set_option maxHeartbeats 8000000 in
theorem vForget (p f : Nat) (all : List (List Str)) (below : Int) (ls : List Part) (w : World) (h : Sat (hisP p f all :: ls) w) (hf : f ≤ all.length) (hfew : all.length ≤ 1000) (hsh : ∀ s ∈ all, s.length ≤ 1000) (hbi : below ≤ 9223372036854775807) :
    Calls Tryd.prog 15 #[.pointer (some ⟨p, 0, none⟩), .int .i64 below] w (FgtPost p f all below ls) := by
  refine via fun Q hQ => ?_
  have HQ := Lib.hid hQ
  obtain ⟨Lv0, vs0, hF0⟩ := Sat.hisF h hf hfew hsh
  have c0 := hF0.h.b.at_ 0 rfl
  simp only [List.getElem_toArray, List.getElem_cons_zero] at c0
  have HN := Lib.hid (vNow p f Lv0 vs0 all (World.drew w) (hF0.below (drew_below w 1)))
  have HS := Lib.hid h
  have HC0 := Lib.hid (((drew_below w 1).cell (World.block_lt_of_cell? _ _ c0)).trans c0)
  clear hQ h hF0 hsh
  generalize hNn : all.length = N at *
  have HNn := Lib.hid hNn
  clear hNn
  by_cases h1 : below ≤ f
  · have HZ := Lib.hid (fgt_none hf (.inl h1))
    clear HN
    go_enter Tryd.func15, Tryd.ntmps15
    go_wp2_with fail
    exact HQ.out _ _ ⟨by rw [HNn.out, HZ.out]; rfl, by rw [HNn.out, HZ.out]; exact HS.out⟩
  · have hw1 : IntKind.i64.wrap (below - 1) = below - 1 := by rw [IntKind.wrap_i64]; omega
    have hw2 : IntKind.i64.wrap (min (below - 1) (N : Int) - (f : Int)) = min (below - 1) (N : Int) - (f : Int) := by rw [IntKind.wrap_i64]; omega
    go_enter Tryd.func15, Tryd.ntmps15
    go_wp2_with fail
    refine Rg.begin_ (fun x => x.cell? ⟨p, 0, none⟩ = some (.int .i64 (f : Nat))) 10 (by kernel_rfl) ?_
    have hS0 : (fun x => x.cell? ⟨p, 0, none⟩ = some (.int .i64 (f : Nat))) (World.drew w) := HC0.out
    refine Rg.take (i := 0) (v := ?_) rfl (by kernel_rfl) (fun _ _ _ h => h) hS0 (Or.inl ⟨by rfl, ?_⟩) ?_
    rotate_left
    · ((intro w hSw; (try dsimp only at hSw); go_simp) <;> (with_reducible rfl))
    try simp only [Act.put, List.setIfInBounds_toArray, List.set_cons_zero, List.set_cons_succ]
    refine Rg.take (i := 1) (v := ?_) rfl (by kernel_rfl) (fun _ _ _ h => h) hS0 (Or.inl ⟨by rfl, ?_⟩) ?_
    rotate_left
    · ((intro w hSw; (try dsimp only at hSw); go_simp) <;> (with_reducible rfl))
    try simp only [Act.put, List.setIfInBounds_toArray, List.set_cons_zero, List.set_cons_succ]
    refine Rg.take (i := 2) (v := ?_) rfl (by kernel_rfl) (fun _ _ _ h => h) hS0 (Or.inl ⟨by rfl, ?_⟩) ?_
    rotate_left
    · ((intro w hSw; (try dsimp only at hSw); go_simp) <;> (with_reducible rfl))
    try simp only [Act.put, List.setIfInBounds_toArray, List.set_cons_zero, List.set_cons_succ]
    refine Rg.take (i := 5) (v := ?_) rfl (by kernel_rfl) (fun _ _ _ h => h) hS0 (Or.inl ⟨by rfl, ?_⟩) ?_
    rotate_left
    · ((intro w hSw; (try dsimp only at hSw); go_simp) <;> (with_reducible rfl))
    try simp only [Act.put, List.setIfInBounds_toArray, List.set_cons_zero, List.set_cons_succ]
    refine Rg.take (i := 6) (v := ?_) rfl (by kernel_rfl) (fun _ _ _ h => h) hS0 (Or.inl ⟨by rfl, ?_⟩) ?_
    rotate_left
    · ((intro w hSw; (try dsimp only at hSw); go_simp) <;> (with_reducible rfl))
    try simp only [Act.put, List.setIfInBounds_toArray, List.set_cons_zero, List.set_cons_succ]
    refine Rg.take (i := 7) (v := ?_) rfl (by kernel_rfl) (fun _ _ _ h => h) hS0 (Or.inl ⟨by rfl, ?_⟩) ?_
    rotate_left
    · ((intro w hSw; (try dsimp only at hSw); go_simp) <;> (with_reducible rfl))
    try simp only [Act.put, List.setIfInBounds_toArray, List.set_cons_zero, List.set_cons_succ]
    refine Rg.take (i := 8) (v := ?_) rfl (by kernel_rfl) (fun _ _ _ h => h) hS0 (Or.inl ⟨by rfl, ?_⟩) ?_
    rotate_left
    · ((intro w hSw; (try dsimp only at hSw); go_simp) <;> (with_reducible rfl))
    try simp only [Act.put, List.setIfInBounds_toArray, List.set_cons_zero, List.set_cons_succ]
    refine Rg.one (i := 3) rfl (by kernel_rfl) (fun K hK => ?_)
    go_simp
    (with_reducible refine HN.out.mono ?_)
    rintro e w2 ⟨rfl, hb2⟩
    have HB2 := Lib.hid (below_then (drew_below w 1) hb2)
    have hS1' : w2.cell? ⟨p, 0, none⟩ = some (.int .i64 (f : Nat)) := (hb2.cell (World.block_lt_of_cell? _ _ hS0)).trans hS0
    clear hb2
    change K _ _
    have hS1 : (fun x => x.cell? ⟨p, 0, none⟩ = some (.int .i64 (f : Nat))) w2 := hS1'
    refine hK.out _ _ (fun _ => hS1) ?_
    clear hK K
    try simp only [Act.put, List.setIfInBounds_toArray, List.set_cons_zero, List.set_cons_succ]
    refine Rg.one (i := 4) rfl (by kernel_rfl) (fun K hK => ?_)
    go_simp
    have hS2 : (fun x => x.cell? ⟨p, 0, none⟩ = some (.int .i64 (f : Nat))) w2 := hS1'
    refine hK.out _ _ (fun _ => hS2) ?_
    clear hK K
    try simp only [Act.put, List.setIfInBounds_toArray, List.set_cons_zero, List.set_cons_succ]
    refine Rg.one (i := 9) rfl (by kernel_rfl) (fun K hK => ?_)
    go_simp
    refine hK.out _ _ (fun _ => hS2) ?_
    clear hK K
    try simp only [Act.put, List.setIfInBounds_toArray, List.set_cons_zero, List.set_cons_succ]
    refine Rg.one (i := 10) rfl (by kernel_rfl) (fun K hK => ?_)
    go_simp
    refine hK.out _ _ (fun _ => hS2) ?_
    clear hK K
    try simp only [Act.put, List.setIfInBounds_toArray, List.set_cons_zero, List.set_cons_succ]
    refine Rg.done (by kernel_rfl) ?_ _
    have HS2 := Lib.hid (HS.out.below HB2.out)
    clear hS0 hS1 hS1' HN HC0 HS hS2
    have hz1 : fgtV f N below = (min (below - 1) (N : Int) - (f : Int)).toNat := rfl
    have hz2 : (min (below - 1) (N : Int) - (f : Int)) ≤ N - f := by omega
    generalize min (below - 1) (N : Int) - (f : Int) = z at *
    by_cases h2 : z ≤ 0
    · have HZ := Lib.hid (show fgtV f N below = 0 from by rw [hz1]; omega)
      go_wp2_with fail
      exact HQ.out _ _ ⟨by rw [HNn.out, HZ.out]; rfl, by rw [HNn.out, HZ.out]; exact HS2.out⟩
    · obtain ⟨k, rfl⟩ : ∃ k : Nat, z = k := ⟨z.toNat, by omega⟩
      have HZ := Lib.hid (show fgtV f N below = k from by rw [hz1]; omega)
      have hk0 : 0 < k := by omega
      have hkN : f + k ≤ N := by omega
      obtain ⟨Lv, vs, hvs, hS3⟩ := Sat.openHi HS2.out
      have hvl : vs.length = N - f := by rw [hvs, List.length_drop, HNn.out]
      have h1c : ∀ u ∈ vs, u.oneCell' = true := fun u hu => by
        obtain ⟨i, hi⟩ := List.mem_iff_getElem?.1 hu
        have hil : i < (all.drop f).length := by rw [← hvs]; exact (List.getElem?_eq_some_iff.1 hi).1
        obtain ⟨A', c', e, _⟩ := hS3.drop.drop.roL_.2 i _ (List.getElem?_eq_getElem hil)
        rw [hi] at e
        injection e with e
        subst e
        rfl
      have hown := hS3.s1.own_
      obtain ⟨A9, c9, e9, hc9, _, hr9⟩ := hown.slv'
      rcases hown.1.2 with ⟨e, h0⟩ | ⟨g, cap, cur, e, _⟩
      · rw [lfR_len] at h0; omega
      · rw [lfR_len, hvl] at e9 hc9
        rw [e] at e9
        injection e9 with e91 e92 e93
        subst e91 e93
        rw [lfR_len, hvl] at e
        subst e
        have g1 := hS3.blk_.at_ 1 rfl
        simp only [List.getElem_toArray, List.getElem_cons_succ, List.getElem_cons_zero] at g1
        have hrk := rows_from k hr9
        rw [lfR, ← List.map_drop] at hrk
        have HS3 := Lib.hid hS3
        have hnk : (k : Int) ≤ ((N - f : Nat) : Int) := by omega
        have hnc : ((N - f : Nat) : Int) ≤ (cap : Int) := by omega
        have hkc : (k : Int) ≤ (cap : Int) := by omega
        have hsum : IntKind.i64.wrap ((f : Int) + (k : Int)) = ((f + k : Nat) : Int) := by rw [IntKind.wrap_i64]; omega
        have hcl : ∃ (o' n' : Nat), n' = N - f - k ∧ RowsAt w2 1 (some ⟨g, o', none⟩) (lfR (vs.drop k)) ∧ ((k = cap ∧ o' = 0 ∧ N - f - k = 0) ∨ (¬ cap = k ∧ k = o')) := by
          by_cases hck : cap = k
          · refine ⟨0, _, rfl, ?_, .inl ⟨hck.symm, rfl, by omega⟩⟩
            rw [List.drop_eq_nil_of_le (by omega)]
            exact RowsAt.nil _ _ _
          · exact ⟨k, _, rfl, by rw [Nat.zero_add] at hrk; exact hrk, .inr ⟨hck, rfl⟩⟩
        obtain ⟨o', n', hn', hrk', hcc⟩ := hcl
        have HCl := Lib.hid (fun c' => cCloneL g o' n' c' (vs.drop k) w2 hrk' (by rw [List.length_drop]; omega) (by omega) (fun u hu => h1c u (List.mem_of_mem_drop hu)))
        have HVd := Lib.hid (show (vs.drop k).length = n' from by rw [List.length_drop]; omega)
        clear hown hr9 hrk hrk' hS3 HS2 hz1 hz2
        rcases hcc with ⟨hck, rfl, hn0⟩ | ⟨hck, rfl⟩
        · subst hck
          rw [hn0] at hn'
          subst hn'
          go_wp2_with fail
          (with_reducible refine (HCl.out _).mono ?_)
          rintro e w3 ⟨v3, rfl, ho3, hb3⟩
          obtain ⟨B3, d3, e3, _, _, _⟩ := ho3.slv'
          rw [lfR_len] at e3
          obtain ⟨m3, hm3⟩ : ∃ m, (vs.drop k).length = m := ⟨_, rfl⟩
          rw [hm3] at e3
          clear hm3
          subst e3
          have hS4 := (HS3.out.made hb3 ho3).s1
          have q1 := hS4.blk_.at_ 1 rfl
          have q2 := hS4.blk_.free 1
          simp only [List.getElem_toArray, List.getElem_cons_succ, List.getElem_cons_zero] at q1
          have hS5 : Sat (blk p #[.int .i64 (f : Nat), .slice B3 m3 d3] 48 :: _) (w3.setCell ⟨p, 1, none⟩ (.slice B3 m3 d3)) := hS4.set 1 (.slice B3 m3 d3)
          have q0 := hS5.blk_.at_ 0 rfl
          have q3 := hS5.blk_.free 0
          simp only [List.getElem_toArray, List.getElem_cons_zero] at q0
          have hS6 : Sat (blk p #[.int .i64 ((f + k : Nat) : Int), .slice B3 m3 d3] 48 :: _) ((w3.setCell ⟨p, 1, none⟩ (.slice B3 m3 d3)).setCell ⟨p, 0, none⟩ (.int .i64 ((f + k : Nat) : Int))) := hS5.set 0 (.int .i64 ((f + k : Nat) : Int))
          have HS7 := Lib.hid (show Sat (hisP p (f + k) all :: ls) ((w3.setCell ⟨p, 1, none⟩ (.slice B3 m3 d3)).setCell ⟨p, 0, none⟩ (.int .i64 ((f + k : Nat) : Int))) from by
            have h9 := (hS6.s2.drop.s2.roLdrop k).t2
            rw [List.drop_drop] at h9
            exact Sat.shutHi (p := p) (f := ((f + k : Nat) : Int)) (L := all.drop (f + k)) (vs := vs.drop k) h9)
          clear hS4 hS5 hS6 ho3 hb3 HS3
          go_wp2_with fail
          exact HQ.out _ _ ⟨by rw [HNn.out, HZ.out]; rfl, by rw [HNn.out, HZ.out]; exact HS7.out⟩
        · subst hn'
          go_wp2_with fail
          (with_reducible refine (HCl.out _).mono ?_)
          rintro e w3 ⟨v3, rfl, ho3, hb3⟩
          obtain ⟨B3, d3, e3, _, _, _⟩ := ho3.slv'
          rw [lfR_len] at e3
          obtain ⟨m3, hm3⟩ : ∃ m, (vs.drop k).length = m := ⟨_, rfl⟩
          rw [hm3] at e3
          clear hm3
          subst e3
          have hS4 := (HS3.out.made hb3 ho3).s1
          have q1 := hS4.blk_.at_ 1 rfl
          have q2 := hS4.blk_.free 1
          simp only [List.getElem_toArray, List.getElem_cons_succ, List.getElem_cons_zero] at q1
          have hS5 : Sat (blk p #[.int .i64 (f : Nat), .slice B3 m3 d3] 48 :: _) (w3.setCell ⟨p, 1, none⟩ (.slice B3 m3 d3)) := hS4.set 1 (.slice B3 m3 d3)
          have q0 := hS5.blk_.at_ 0 rfl
          have q3 := hS5.blk_.free 0
          simp only [List.getElem_toArray, List.getElem_cons_zero] at q0
          have hS6 : Sat (blk p #[.int .i64 ((f + k : Nat) : Int), .slice B3 m3 d3] 48 :: _) ((w3.setCell ⟨p, 1, none⟩ (.slice B3 m3 d3)).setCell ⟨p, 0, none⟩ (.int .i64 ((f + k : Nat) : Int))) := hS5.set 0 (.int .i64 ((f + k : Nat) : Int))
          have HS7 := Lib.hid (show Sat (hisP p (f + k) all :: ls) ((w3.setCell ⟨p, 1, none⟩ (.slice B3 m3 d3)).setCell ⟨p, 0, none⟩ (.int .i64 ((f + k : Nat) : Int))) from by
            have h9 := (hS6.s2.drop.s2.roLdrop k).t2
            rw [List.drop_drop] at h9
            exact Sat.shutHi (p := p) (f := ((f + k : Nat) : Int)) (L := all.drop (f + k)) (vs := vs.drop k) h9)
          clear hS4 hS5 hS6 ho3 hb3 HS3
          go_wp2_with fail
          exact HQ.out _ _ ⟨by rw [HNn.out, HZ.out]; rfl, by rw [HNn.out, HZ.out]; exact HS7.out⟩
theorem ownB {w : World} {base base' : Nat} {v : Value} {rows : List (List Value)} (h : BL.Own w base 9 1 v rows) (hb : base' ≤ base) : BL.Own w base' 9 1 v rows := ⟨⟨h.1.1, h.1.2.elim .inl (fun ⟨g, cap, cur, hv, hbb, r⟩ => .inr ⟨g, cap, cur, hv, Nat.le_trans hb hbb, r⟩)⟩, h.2⟩
/-- What Keys tells. -/
def keysT (f : Nat) (all : List (List Str)) (n : Int) : List Str := if (f : Int) < n ∧ n ≤ all.length then all.getD (n - 1).toNat [] else []
set_option maxHeartbeats 8000000 in
theorem vKeys (p f : Nat) (Lv : Value) (vs : List Value) (all : List (List Str)) (nn : Int) (w : World) (h : HisF w p f Lv vs all) :
    Calls Tryd.prog 16 #[.pointer (some ⟨p, 0, none⟩), .int .i64 nn] w (SrtPost (keysT f all nn) w) := by
  refine via fun Q hQ => ?_
  have HQ := Lib.hid hQ
  have c0 := h.h.b.at_ 0 rfl
  simp only [List.getElem_toArray, List.getElem_cons_zero] at c0
  have HN := Lib.hid (vNow p f Lv vs all w h)
  have HH := Lib.hid h
  have hle := h.le
  have hfew := h.few
  have HT := Lib.hid (show keysT f all nn = if (f : Int) < nn ∧ nn ≤ all.length then all.getD (nn - 1).toNat [] else [] from rfl)
  clear hQ h
  generalize keysT f all nn = kt at *
  generalize hNn : all.length = N at *
  have HNn := Lib.hid hNn
  clear hNn
  by_cases h1 : nn ≤ (f : Int)
  · have HZ := Lib.hid (show kt = [] from by rw [HT.out, if_neg (by omega)])
    clear HN
    go_enter Tryd.func16, Tryd.ntmps16
    go_wp2_with fail
    exact HQ.out _ _ ⟨_, rfl, by rw [HZ.out]; exact BL.Own.nil _ _ _ _, Below.refl _ _⟩
  · go_enter Tryd.func16, Tryd.ntmps16
    go_wp2_with fail
    (with_reducible refine HN.out.mono ?_)
    rintro e w2 ⟨rfl, hb2⟩
    have HB0 := Lib.hid hb2
    have HH2 := Lib.hid (HH.out.below hb2)
    clear hb2 HN c0
    by_cases h2 : (N : Int) < nn
    · have HZ := Lib.hid (show kt = [] from by rw [HT.out, if_neg (by omega)])
      go_wp2_with fail
      exact HQ.out _ _ ⟨_, rfl, by rw [HZ.out]; exact BL.Own.nil _ _ _ _, HB0.out⟩
    · obtain ⟨m, rfl⟩ : ∃ m : Nat, nn = ((f + m + 1 : Nat) : Int) := ⟨(nn - f - 1).toNat, by omega⟩
      have hmN : f + m < N := by omega
      have hx : all[f + m]? = some (all[f + m]'(by rw [HNn.out]; exact hmN)) := List.getElem?_eq_getElem _
      generalize all[f + m]'(by rw [HNn.out]; exact hmN) = s at hx
      have HZ := Lib.hid (show kt = s from by
        rw [HT.out, if_pos ⟨by omega, by omega⟩, List.getD, show (((f + m + 1 : Nat) : Int) - 1).toNat = f + m from by omega, hx]; rfl)
      have hxd : (all.drop f)[m]? = some s := by rw [List.getElem?_drop]; exact hx
      obtain ⟨As, cs, hv, hcs, hzs, _, hrs⟩ := HH2.out.h.at_ m s hxd
      obtain ⟨A, c, e, hc, _, hr⟩ := HH2.out.h.l.slv'
      obtain ⟨g, o, hA, hcell⟩ := hr m _ (lfR_at hv)
      have hcell := hcell 0 _ rfl
      rw [Nat.mul_one, Nat.add_zero] at hcell
      subst hA
      rw [lfR_len, HH2.out.h.n, List.length_drop, HNn.out] at e hc
      subst e
      have c0 := HH2.out.h.b.at_ 0 rfl
      have c1 := HH2.out.h.b.at_ 1 rfl
      simp only [List.getElem_toArray, List.getElem_cons_succ, List.getElem_cons_zero] at c0 c1
      have HC := Lib.hid (⟨((drew_below w2 1).cell (World.block_lt_of_cell? _ _ c0)).trans c0, ((drew_below w2 1).cell (World.block_lt_of_cell? _ _ c1)).trans c1, ((drew_below w2 1).cell (World.block_lt_of_cell? _ _ hcell)).trans hcell⟩ : _ ∧ _ ∧ _)
      have HB2 := Lib.hid (below_then HB0.out (drew_below w2 1))
      have hsl : s.length ≤ 1000 := HH2.out.short s (List.mem_of_getElem? hx)
      have HCl := Lib.hid (cCloneS As s.length cs s (World.drew w2) (hrs.below (drew_below w2 1)) rfl hzs hcs (by omega))
      have hw1 : IntKind.i64.wrap (((f + m + 1 : Nat) : Int) - (f : Int)) = ((m + 1 : Nat) : Int) := by rw [IntKind.wrap_i64]; omega
      have hw2 : IntKind.i64.wrap (((m + 1 : Nat) : Int) - 1) = (m : Int) := by rw [IntKind.wrap_i64]; omega
      have hwm : IntKind.i64.wrap (m : Int) = (m : Int) := by rw [IntKind.wrap_i64]; omega
      have hm1 : (m : Int) < ((N - f : Nat) : Int) := by omega
      have hm2 : m < N - f := by omega
      clear hr hv hrs hcs hzs hx hxd c0 c1 hcell HH HT
      generalize hnf : ((f + m + 1 : Nat) : Int) = nf at *
      go_wp2_with fail
      refine Rg.begin_ (fun x => x.cell? ⟨p, 0, none⟩ = some (.int .i64 (f : Nat)) ∧ x.cell? ⟨p, 1, none⟩ = some (.slice (some ⟨g, o, none⟩) (N - f) c) ∧ x.cell? ⟨g, o + m, none⟩ = some (.slice As s.length cs)) 14 (by kernel_rfl) ?_
      have hS0 : (fun x => x.cell? ⟨p, 0, none⟩ = some (.int .i64 (f : Nat)) ∧ x.cell? ⟨p, 1, none⟩ = some (.slice (some ⟨g, o, none⟩) (N - f) c) ∧ x.cell? ⟨g, o + m, none⟩ = some (.slice As s.length cs)) (World.drew w2) := HC.out
      refine Rg.take (i := 0) (v := ?_) rfl (by kernel_rfl) (fun _ _ _ h => h) hS0 (Or.inl ⟨by rfl, ?_⟩) ?_
      rotate_left
      · ((intro w hSw; (try dsimp only at hSw); go_simp) <;> (with_reducible rfl))
      try simp only [Act.put, List.setIfInBounds_toArray, List.set_cons_zero, List.set_cons_succ]
      refine Rg.take (i := 1) (v := ?_) rfl (by kernel_rfl) (fun _ _ _ h => h) hS0 (Or.inl ⟨by rfl, ?_⟩) ?_
      rotate_left
      · ((intro w hSw; (try dsimp only at hSw); go_simp) <;> (with_reducible rfl))
      try simp only [Act.put, List.setIfInBounds_toArray, List.set_cons_zero, List.set_cons_succ]
      refine Rg.take (i := 2) (v := ?_) rfl (by kernel_rfl) (fun _ _ _ h => h) hS0 (Or.inl ⟨by rfl, ?_⟩) ?_
      rotate_left
      · ((intro w hSw; (try dsimp only at hSw); go_simp) <;> (with_reducible rfl))
      try simp only [Act.put, List.setIfInBounds_toArray, List.set_cons_zero, List.set_cons_succ]
      refine Rg.take (i := 3) (v := ?_) rfl (by kernel_rfl) (fun _ _ _ h => h) hS0 (Or.inl ⟨by rfl, ?_⟩) ?_
      rotate_left
      · ((intro w hSw; (try dsimp only at hSw); go_simp) <;> (with_reducible rfl))
      try simp only [Act.put, List.setIfInBounds_toArray, List.set_cons_zero, List.set_cons_succ]
      refine Rg.take (i := 4) (v := ?_) rfl (by kernel_rfl) (fun _ _ _ h => h) hS0 (Or.inl ⟨by rfl, ?_⟩) ?_
      rotate_left
      · ((intro w hSw; (try dsimp only at hSw); go_simp) <;> (with_reducible rfl))
      try simp only [Act.put, List.setIfInBounds_toArray, List.set_cons_zero, List.set_cons_succ]
      refine Rg.take (i := 5) (v := ?_) rfl (by kernel_rfl) (fun _ _ _ h => h) hS0 (Or.inl ⟨by rfl, ?_⟩) ?_
      rotate_left
      · ((intro w hSw; (try dsimp only at hSw); go_simp) <;> (with_reducible rfl))
      try simp only [Act.put, List.setIfInBounds_toArray, List.set_cons_zero, List.set_cons_succ]
      refine Rg.take (i := 6) (v := ?_) rfl (by kernel_rfl) (fun _ _ _ h => h) hS0 (Or.inl ⟨by rfl, ?_⟩) ?_
      rotate_left
      · ((intro w hSw; (try dsimp only at hSw); go_simp) <;> (with_reducible rfl))
      try simp only [Act.put, List.setIfInBounds_toArray, List.set_cons_zero, List.set_cons_succ]
      refine Rg.take (i := 7) (v := ?_) rfl (by kernel_rfl) (fun _ _ _ h => h) hS0 (Or.inl ⟨by rfl, ?_⟩) ?_
      rotate_left
      · ((intro w hSw; (try dsimp only at hSw); go_simp) <;> (with_reducible rfl))
      try simp only [Act.put, List.setIfInBounds_toArray, List.set_cons_zero, List.set_cons_succ]
      refine Rg.take (i := 8) (v := ?_) rfl (by kernel_rfl) (fun _ _ _ h => h) hS0 (Or.inl ⟨by rfl, ?_⟩) ?_
      rotate_left
      · ((intro w hSw; (try dsimp only at hSw); go_simp) <;> (with_reducible rfl))
      try simp only [Act.put, List.setIfInBounds_toArray, List.set_cons_zero, List.set_cons_succ]
      refine Rg.take (i := 9) (v := ?_) rfl (by kernel_rfl) (fun _ _ _ h => h) hS0 (Or.inl ⟨by rfl, ?_⟩) ?_
      rotate_left
      · ((intro w hSw; (try dsimp only at hSw); go_simp) <;> (with_reducible rfl))
      try simp only [Act.put, List.setIfInBounds_toArray, List.set_cons_zero, List.set_cons_succ]
      refine Rg.take (i := 10) (v := ?_) rfl (by kernel_rfl) (fun _ _ _ h => h) hS0 (Or.inl ⟨by rfl, ?_⟩) ?_
      rotate_left
      · ((intro w hSw; (try dsimp only at hSw); go_simp) <;> (with_reducible rfl))
      try simp only [Act.put, List.setIfInBounds_toArray, List.set_cons_zero, List.set_cons_succ]
      refine Rg.take (i := 11) (v := ?_) rfl (by kernel_rfl) (fun _ _ _ h => h) hS0 (Or.inl ⟨by rfl, ?_⟩) ?_
      rotate_left
      · ((intro w hSw; (try dsimp only at hSw); go_simp) <;> (with_reducible rfl))
      try simp only [Act.put, List.setIfInBounds_toArray, List.set_cons_zero, List.set_cons_succ]
      refine Rg.take (i := 12) (v := ?_) rfl (by kernel_rfl) (fun _ _ _ h => h) hS0 (Or.inl ⟨by rfl, ?_⟩) ?_
      rotate_left
      · ((intro w hSw; (try dsimp only at hSw); go_simp) <;> (with_reducible rfl))
      try simp only [Act.put, List.setIfInBounds_toArray, List.set_cons_zero, List.set_cons_succ]
      refine Rg.one (i := 13) rfl (by kernel_rfl) (fun K hK => ?_)
      go_simp
      (with_reducible refine HCl.out.mono ?_)
      rintro e w3 ⟨v3, rfl, ho3, hb3⟩
      have HO3 := Lib.hid ho3
      have HB3 := Lib.hid (below_then HB2.out hb3)
      have HSZ := Lib.hid HB2.out.size
      have hS1' := (show w3.cell? ⟨p, 0, none⟩ = some (.int .i64 (f : Nat)) ∧ w3.cell? ⟨p, 1, none⟩ = some (.slice (some ⟨g, o, none⟩) (N - f) c) ∧ w3.cell? ⟨g, o + m, none⟩ = some (.slice As s.length cs) from ⟨(hb3.cell (World.block_lt_of_cell? _ _ hS0.1)).trans hS0.1, (hb3.cell (World.block_lt_of_cell? _ _ hS0.2.1)).trans hS0.2.1, (hb3.cell (World.block_lt_of_cell? _ _ hS0.2.2)).trans hS0.2.2⟩)
      clear ho3 hb3
      change K _ _
      have hS1 : (fun x => x.cell? ⟨p, 0, none⟩ = some (.int .i64 (f : Nat)) ∧ x.cell? ⟨p, 1, none⟩ = some (.slice (some ⟨g, o, none⟩) (N - f) c) ∧ x.cell? ⟨g, o + m, none⟩ = some (.slice As s.length cs)) w3 := hS1'
      refine hK.out _ _ (fun _ => hS1) ?_
      clear hK K
      try simp only [Act.put, List.setIfInBounds_toArray, List.set_cons_zero, List.set_cons_succ]
      refine Rg.one (i := 14) rfl (by kernel_rfl) (fun K hK => ?_)
      go_simp
      refine hK.out _ _ (fun _ => hS1) ?_
      clear hK K
      try simp only [Act.put, List.setIfInBounds_toArray, List.set_cons_zero, List.set_cons_succ]
      refine Rg.done (by kernel_rfl) ?_ _
      have HOF := Lib.hid (show BL.Own w3 w.heap.size 9 1 v3 (rwS s) from ownB HO3.out (Nat.le_trans HB0.out.size (drew_below w2 1).size))
      go_wp2_with fail
      exact HQ.out _ _ ⟨_, rfl, by rw [HZ.out]; exact HOF.out, HB3.out⟩
end Go.Proofs.YtkfciofpbnlmeaaDoor
