/- Package valid: New, Now, Floor, since, first, Check, First. -/
import Derived.Test.YtkfciofpbnlmeaaDoorVc
import Derived.Test.YtkfciofpbnlmeaaDoorRg
import Derived.Test.YtkfciofpbnlmeaaDoorFkAt
import Derived.Test.YtkfciofpbnlmeaaDoorFkBound
set_option linter.unusedVariables false
set_option linter.unusedSimpArgs false
set_option maxRecDepth 100000
namespace Go.Proofs.YtkfciofpbnlmeaaDoor
open Go.Proofs.BL Go.Proofs.Peel Go.RowKit Go.Proofs.Ky Go.Proofs.Vl

/-- A history as it is told: its floor, all commits. -/
structure HisF (w : World) (p f : Nat) (Lv : Value) (vs : List Value) (all : List (List Str)) : Prop where
  h : HiF w p (f : Nat) Lv vs (all.drop f)
  le : f ≤ all.length
  few : all.length ≤ 1000
  short : ∀ s ∈ all, s.length ≤ 1000
theorem HisF.below {w w' : World} {p f : Nat} {Lv : Value} {vs : List Value} {all : List (List Str)} (h : HisF w p f Lv vs all) (hb : Below w.heap.size w w') : HisF w' p f Lv vs all := ⟨h.h.below hb, h.le, h.few, h.short⟩
theorem HiF.ls {w : World} {p : Nat} {f : Int} {Lv : Value} {vs : List Value} {L : List (List Str)} (h : HiF w p f Lv vs L) : LsAt w vs L := ⟨h.n, fun i s hi => by obtain ⟨A, c, h1, h2, h3, _, h5⟩ := h.at_ i s hi; exact ⟨A, c, h1, h2, h3, h5⟩⟩
def hisP (p f : Nat) (all : List (List Str)) : Part := hiP p (f : Nat) (all.drop f)
theorem Sat.hisF {p f : Nat} {all : List (List Str)} {l : List Part} {w : World} (h : Sat (hisP p f all :: l) w) (h1 : f ≤ all.length) (h2 : all.length ≤ 1000) (h3 : ∀ s ∈ all, s.length ≤ 1000) : ∃ Lv vs, HisF w p f Lv vs all := by
  obtain ⟨Lv, vs, h4, _⟩ := Sat.hiF h
  exact ⟨Lv, vs, h4, h1, h2, h3⟩
theorem vNew (ls : List Part) (w : World) (h : Sat ls w) : Calls Tryd.prog 6 #[] w (fun e w' => ∃ p, e = .returned (.pointer (some ⟨p, 0, none⟩)) ∧ Sat (hisP p 0 [] :: ls) w') := by
  refine via fun Q hQ => ?_
  have HQ := Lib.hid hQ
  have hS := (h.alloc #[.int .i64 0, .slice none 0 0] 48)
  have HS := Lib.hid (show Sat (hisP w.heap.size 0 [] :: ls) (w.alloc (.cells #[.int .i64 0, .slice none 0 0] 48)) from Sat.shutHi (vs := []) ((hS.roLnil.nilR 23 1).s2))
  clear hQ hS
  go_enter Tryd.func6, Tryd.ntmps6
  go_wp2_with fail
  exact HQ.out _ _ ⟨_, rfl, HS.out⟩
set_option maxHeartbeats 2000000 in
theorem vNow (p f : Nat) (Lv : Value) (vs : List Value) (all : List (List Str)) (w : World) (h : HisF w p f Lv vs all) :
    Calls Tryd.prog 9 #[.pointer (some ⟨p, 0, none⟩)] w (Tells_ (.int .i64 (all.length : Nat)) w) := by
  refine via fun Q hQ => ?_
  have HQ := Lib.hid hQ
  have c0 := h.h.b.at_ 0 rfl
  have c1 := h.h.b.at_ 1 rfl
  simp only [List.getElem_toArray, List.getElem_cons_succ, List.getElem_cons_zero] at c0 c1
  obtain ⟨A, c, e, _, _, _⟩ := h.h.l.slv'
  rw [lfR_len, h.h.n, List.length_drop] at e
  subst e
  have hsum : IntKind.i64.wrap ((f : Int) + ((all.length - f : Nat) : Int)) = ((all.length : Nat) : Int) := by have := h.le; have := h.few; rw [IntKind.wrap_i64]; omega
  clear h hQ
  generalize all.length - f = d at *
  generalize all.length = n at *
  go_enter Tryd.func9, Tryd.ntmps9
  go_wp2_with fail
  go_quiet (fail)
  go_wp2_with fail
  exact HQ.out _ _ ⟨rfl, drew_below w _⟩
set_option maxHeartbeats 2000000 in
theorem vFloor (p f : Nat) (Lv : Value) (vs : List Value) (all : List (List Str)) (w : World) (h : HisF w p f Lv vs all) :
    Calls Tryd.prog 13 #[.pointer (some ⟨p, 0, none⟩)] w (fun e w' => e = .returned (.int .i64 (f : Nat)) ∧ w' = w) := by
  refine via fun Q hQ => ?_
  have HQ := Lib.hid hQ
  have c0 := h.h.b.at_ 0 rfl
  simp only [List.getElem_toArray, List.getElem_cons_zero] at c0
  clear h hQ
  go_enter Tryd.func13, Tryd.ntmps13
  go_wp2_with fail
  exact HQ.out _ _ ⟨rfl, rfl⟩
def sinceC (f now : Nat) (n : Int) : List Lk := if n < 0 ∨ (now : Int) < n then [.bnd now n, .num 2] else if n < f then [.at_ n, .num 22] else []
set_option maxHeartbeats 4000000 in
theorem vSince (p f : Nat) (Lv : Value) (vs : List Value) (all : List (List Str)) (n : Int) (w : World) (h : HisF w p f Lv vs all) :
    Calls Tryd.prog 20 #[.pointer (some ⟨p, 0, none⟩), .int .i64 n] w (ErrNew w (sinceC f all.length n)) := by
  refine via fun Q hQ => ?_
  have HQ := Lib.hid hQ
  have HN := Lib.hid (fun (W : World) (hb : Below w.heap.size w W) => vNow p f Lv vs all W (h.below hb))
  have HE := Lib.hid (fun (n : Int) (w : World) => fnew n w)
  have c0 := h.h.b.at_ 0 rfl
  simp only [List.getElem_toArray, List.getElem_cons_zero] at c0
  have HC0 := Lib.hid (fun (W : World) (hb : Below w.heap.size w W) => (hb.cell (World.block_lt_of_cell? _ _ c0)).trans c0)
  have hc : (n < 0 ∧ sinceC f all.length n = [.bnd all.length n, .num 2]) ∨ (¬ n < 0 ∧ (all.length : Int) < n ∧ sinceC f all.length n = [.bnd all.length n, .num 2]) ∨ (¬ n < 0 ∧ ¬ (all.length : Int) < n ∧ n < f ∧ sinceC f all.length n = [.at_ n, .num 22]) ∨ (¬ n < 0 ∧ ¬ (all.length : Int) < n ∧ ¬ n < f ∧ sinceC f all.length n = []) := by
    unfold sinceC
    by_cases h1 : n < 0
    · exact .inl ⟨h1, if_pos (.inl h1)⟩
    · by_cases h2 : (all.length : Int) < n
      · exact .inr (.inl ⟨h1, h2, if_pos (.inr h2)⟩)
      · rw [if_neg (by omega)]
        by_cases h3 : n < f
        · exact .inr (.inr (.inl ⟨h1, h2, h3, if_pos h3⟩))
        · exact .inr (.inr (.inr ⟨h1, h2, h3, if_neg h3⟩))
  clear h hQ c0
  generalize sinceC f all.length n = ck at *
  generalize all.length = now at *
  rcases hc with ⟨h1, rfl⟩ | ⟨h1, h2, rfl⟩ | ⟨h1, h2, h3, rfl⟩ | ⟨h1, h2, h3, rfl⟩
  · go_enter Tryd.func20, Tryd.ntmps20
    go_wp2_with fail
    (with_reducible refine (HN.out w (Below.refl _ _)).mono ?_)
    rintro e w1 ⟨rfl, hb1⟩
    have HB1 := Lib.hid hb1
    clear hb1
    go_wp2_with fail
    (with_reducible refine (HE.out 2 _).mono ?_)
    rintro e w2 ⟨v2, rfl, hc2, hb2⟩
    have HBd := Lib.hid (fbound now n v2 _ w2 hc2)
    have HB2 := Lib.hid (below_then HB1.out hb2)
    clear hc2 hb2
    go_wp2_with fail
    (with_reducible refine HBd.out.mono ?_)
    rintro e w3 ⟨v3, rfl, hc3, hb3⟩
    have HC3 := Lib.hid hc3
    have HB3 := Lib.hid (below_then HB2.out hb3)
    clear hc3 hb3
    go_wp2_with fail
    exact HQ.out _ _ ⟨_, rfl, HC3.out, HB3.out⟩
  · go_enter Tryd.func20, Tryd.ntmps20
    go_wp2_with fail
    (with_reducible refine (HN.out w (Below.refl _ _)).mono ?_)
    rintro e w1 ⟨rfl, hb1⟩
    have HB1 := Lib.hid hb1
    clear hb1
    go_wp2_with fail
    (with_reducible refine (HN.out w1 HB1.out).mono ?_)
    rintro e w1' ⟨rfl, hb1⟩
    have HB1 := Lib.hid (below_then HB1.out hb1)
    clear hb1
    go_wp2_with fail
    (with_reducible refine (HE.out 2 _).mono ?_)
    rintro e w2 ⟨v2, rfl, hc2, hb2⟩
    have HBd := Lib.hid (fbound now n v2 _ w2 hc2)
    have HB2 := Lib.hid (below_then HB1.out hb2)
    clear hc2 hb2
    go_wp2_with fail
    (with_reducible refine HBd.out.mono ?_)
    rintro e w3 ⟨v3, rfl, hc3, hb3⟩
    have HC3 := Lib.hid hc3
    have HB3 := Lib.hid (below_then HB2.out hb3)
    clear hc3 hb3
    go_wp2_with fail
    exact HQ.out _ _ ⟨_, rfl, HC3.out, HB3.out⟩
  · go_enter Tryd.func20, Tryd.ntmps20
    go_wp2_with fail
    (with_reducible refine (HN.out w (Below.refl _ _)).mono ?_)
    rintro e w1 ⟨rfl, hb1⟩
    have HB1 := Lib.hid hb1
    have c0 := HC0.out w1 hb1
    clear hb1
    go_wp2_with fail
    (with_reducible refine (HE.out 22 _).mono ?_)
    rintro e w2 ⟨v2, rfl, hc2, hb2⟩
    have HBd := Lib.hid (fat n v2 _ w2 hc2)
    have HB2 := Lib.hid (below_then HB1.out hb2)
    clear hc2 hb2
    go_wp2_with fail
    (with_reducible refine HBd.out.mono ?_)
    rintro e w3 ⟨v3, rfl, hc3, hb3⟩
    have HC3 := Lib.hid hc3
    have HB3 := Lib.hid (below_then HB2.out hb3)
    clear hc3 hb3
    go_wp2_with fail
    exact HQ.out _ _ ⟨_, rfl, HC3.out, HB3.out⟩
  · go_enter Tryd.func20, Tryd.ntmps20
    go_wp2_with fail
    (with_reducible refine (HN.out w (Below.refl _ _)).mono ?_)
    rintro e w1 ⟨rfl, hb1⟩
    have HB1 := Lib.hid hb1
    have c0 := HC0.out w1 hb1
    clear hb1
    go_wp2_with fail
    exact HQ.out _ _ ⟨_, rfl, rfl, HB1.out⟩
theorem rows_from {w : World} {b o : Nat} {rows : List (List Value)} (n : Nat) (h : RowsAt w 1 (some ⟨b, o, none⟩) rows) : RowsAt w 1 (some ⟨b, o + n, none⟩) (rows.drop n) := fun i r hi => by
  rw [List.getElem?_drop] at hi
  obtain ⟨b', o', e, hc⟩ := h (n + i) r hi
  injection e with e
  injection e with e1 e2
  subst e1 e2
  refine ⟨b, o + n, rfl, fun j u hj => ?_⟩
  have := hc j u hj
  rwa [show o + (n + i) * 1 + j = o + n + i * 1 + j from by omega] at this
set_option maxHeartbeats 8000000 in
theorem vFirst (p f : Nat) (Lv : Value) (vs : List Value) (all : List (List Str)) (since : Nat) (Ar : Option Addr) (nr cr : Nat) (reads : List Str) (w : World) (h : HisF w p f Lv vs all) (h1 : f ≤ since) (h2 : since ≤ all.length)
    (hr : RowsAt w 1 Ar (rwS reads)) (hnr : reads.length = nr) (hlr : nr ≤ 1000) :
    Calls Tryd.prog 21 #[.pointer (some ⟨p, 0, none⟩), .int .i64 (since : Nat), .slice Ar nr cr] w (Tells_ (.int .i64 (firstV all since reads : Nat)) w) := by
  refine via fun Q hQ => ?_
  have HQ := Lib.hid hQ
  have hal := (Below.refl w.heap.size w).alloc (Nat.le_refl _) (.cells #[.slice Ar nr cr] 23)
  have hbx : (w.alloc (.cells #[.slice Ar nr cr] 23)).cell? ⟨w.heap.size, 0, none⟩ = some (.slice Ar nr cr) := (Blk.new w #[.slice Ar nr cr] 23).at_ 0 rfl
  have h' := h.below hal
  have c0 := h'.h.b.at_ 0 rfl
  have c1 := h'.h.b.at_ 1 rfl
  simp only [List.getElem_toArray, List.getElem_cons_succ, List.getElem_cons_zero] at c0 c1
  have hfew := h.few
  have hLs := h'.h.ls
  have hshort := h.short
  have hdr : all.drop since = (all.drop f).drop (since - f) := by rw [List.drop_drop]; congr 1; omega
  have HDr := Lib.hid hdr
  have hown := h'.h.l
  have hvl : vs.length = all.length - f := by rw [h'.h.n, List.length_drop]
  have hLl : (all.drop f).length = all.length - f := List.length_drop
  have hSh : ∀ s ∈ all.drop f, s.length ≤ 1000000 := fun s hs => by have := hshort s (List.mem_of_mem_drop hs); omega
  have hvn := h'.h.n
  have hle := h.le
  generalize all.drop f = L at *
  obtain ⟨k, rfl⟩ : ∃ k, since = f + k := ⟨since - f, by omega⟩
  have hk : f + k - f = k := by omega
  rw [hk] at HDr hdr
  have hkn : k ≤ L.length := by omega
  have hsub : IntKind.i64.wrap (((f + k : Nat) : Int) - (f : Int)) = (k : Int) := by have := h.le; have := h.few; rw [IntKind.wrap_i64]; omega
  have hX : ∀ (A : Option Addr) (c : Nat), RowsAt (w.alloc (.cells #[.slice Ar nr cr] 23)) 1 A (lfR (vs.drop k)) → Calls Tryd.prog 36 #[.slice A (L.length - k) c, .func (.func 37) #[] #[.pointer (some ⟨w.heap.size, 0, none⟩)]] (World.drew (w.alloc (.cells #[.slice Ar nr cr] 23))) (FstPost ((L.drop k).findIdx? (hitB reads)) (World.drew (w.alloc (.cells #[.slice Ar nr cr] 23)))) := fun A c hA =>
    idxL A Ar c (L.length - k) cr nr w.heap.size (vs.drop k) (L.drop k) reads _ (hA.below (drew_below _ 1)) ((hLs.below (drew_below _ 1)).drop k) (by rw [List.length_drop]) (by have := hfew; have := hLl; omega) (fun s hs => hSh s (List.mem_of_mem_drop hs)) ((hr.below hal).below (drew_below _ 1)) hnr (by omega) (((drew_below _ 1).cell (World.block_lt_of_cell? _ _ hbx)).trans hbx)
  obtain ⟨A, c, e, hnc, hz, hrow⟩ := hown.slv'
  rw [lfR_len, hvn] at e hnc
  subst e
  have hcase : (A = none ∧ c = 0 ∧ L.length = 0 ∧ k = 0) ∨ (∃ g o, A = some ⟨g, o, none⟩ ∧ k = c) ∨ (∃ g o, A = some ⟨g, o, none⟩ ∧ ¬ c = k) := by
    rcases hown.1.2 with ⟨e, h0⟩ | ⟨g, cap, cur, e, _⟩
    · injection e with e1 e2 e3
      exact .inl ⟨e1, e3, by omega, by omega⟩
    · injection e with e1 e2 e3
      by_cases hck : c = k
      · exact .inr (.inl ⟨g, 0, e1, hck.symm⟩)
      · exact .inr (.inr ⟨g, 0, e1, hck⟩)
  have HX := Lib.hid hX
  have HAL := Lib.hid (below_then hal (drew_below _ 1))
  have hC0 : (World.drew (w.alloc (.cells #[.slice Ar nr cr] 23))).cell? ⟨p, 0, none⟩ = some (.int .i64 (f : Nat)) := ((drew_below _ 1).cell (World.block_lt_of_cell? _ _ c0)).trans c0
  have hC1 : (World.drew (w.alloc (.cells #[.slice Ar nr cr] 23))).cell? ⟨p, 1, none⟩ = some (.slice A L.length c) := ((drew_below _ 1).cell (World.block_lt_of_cell? _ _ c1)).trans c1
  clear h h' hQ hal hLs hshort hdr hSh hX hown hz hr hbx hk
  generalize hLn : L.length = n at *
  have HNL := Lib.hid hLn
  have hkf : f + k ≤ 1000 := by omega
  have hn1000 : n ≤ 1000 := by omega
  clear hLn hLl h1 h2 hfew hnr
  have hkn1 : (k : Int) ≤ (n : Int) := by omega
  have hkc1 : (k : Int) ≤ (c : Int) := by omega
  have hnc1 : (n : Int) ≤ (c : Int) := by omega

  generalize hsn : f + k = since at *
  have HSn := Lib.hid hsn
  clear hsn
  go_enter Tryd.func21, Tryd.ntmps21
  rcases hcase with ⟨rfl, rfl, rfl, rfl⟩ | ⟨g, o, rfl, rfl⟩ | ⟨g, o, rfl, hck⟩
  · have HRd := Lib.hid (show RowsAt (w.alloc (.cells #[.slice Ar nr cr] 23)) 1 none (lfR (vs.drop 0)) from hrow)
    have hI := HX.out (none) (0) HRd.out
    skip
    have HI := Lib.hid hI
    clear hI
    have HC0 := Lib.hid hC0
    have HC1 := Lib.hid hC1
    clear HX hC0 hC1 hrow
    go_wp2_with fail
    refine Rg.begin_ (fun x => x.cell? ⟨p, 0, none⟩ = some (.int .i64 (f : Nat)) ∧ x.cell? ⟨p, 1, none⟩ = some (.slice none 0 0)) 13 (by kernel_rfl) ?_
    have hS0 : (fun x => x.cell? ⟨p, 0, none⟩ = some (.int .i64 (f : Nat)) ∧ x.cell? ⟨p, 1, none⟩ = some (.slice none 0 0)) (World.drew (w.alloc (.cells #[.slice Ar nr cr] 23))) := ⟨HC0.out, HC1.out⟩
    refine Rg.take (i := 0) (v := ?_) rfl (by kernel_rfl) (fun _ _ _ h => h) hS0 (Or.inl ⟨by rfl, ?_⟩) ?_
    rotate_left
    · ((intro w hSw; (try dsimp only at hSw); go_simp) <;> (with_reducible rfl))
    try simp only [Act.put, List.setIfInBounds_toArray, List.set_cons_zero, List.set_cons_succ]
    refine Rg.take (i := 1) (v := ?_) rfl (by kernel_rfl) (fun _ _ _ h => h) hS0 (Or.inl ⟨by rfl, ?_⟩) ?_
    rotate_left
    · ((intro w hSw; (try dsimp only at hSw); go_simp) <;> (with_reducible rfl))
    try simp only [Act.put, List.setIfInBounds_toArray, List.set_cons_zero, List.set_cons_succ]
    refine Rg.take (i := 2) (v := ?_) rfl (by kernel_rfl) (fun _ _ _ h => h) hS0 (Or.inl ⟨by rfl, ?_⟩) ?_
    rotate_left
    · ((intro w hSw; (try dsimp only at hSw); go_simp) <;> (with_reducible rfl))
    try simp only [Act.put, List.setIfInBounds_toArray, List.set_cons_zero, List.set_cons_succ]
    refine Rg.take (i := 3) (v := ?_) rfl (by kernel_rfl) (fun _ _ _ h => h) hS0 (Or.inl ⟨by rfl, ?_⟩) ?_
    rotate_left
    · ((intro w hSw; (try dsimp only at hSw); go_simp) <;> (with_reducible rfl))
    try simp only [Act.put, List.setIfInBounds_toArray, List.set_cons_zero, List.set_cons_succ]
    refine Rg.take (i := 4) (v := ?_) rfl (by kernel_rfl) (fun _ _ _ h => h) hS0 (Or.inl ⟨by rfl, ?_⟩) ?_
    rotate_left
    · ((intro w hSw; (try dsimp only at hSw); go_simp) <;> (with_reducible rfl))
    try simp only [Act.put, List.setIfInBounds_toArray, List.set_cons_zero, List.set_cons_succ]
    refine Rg.take (i := 5) (v := ?_) rfl (by kernel_rfl) (fun _ _ _ h => h) hS0 (Or.inl ⟨by rfl, ?_⟩) ?_
    rotate_left
    · ((intro w hSw; (try dsimp only at hSw); go_simp) <;> (with_reducible rfl))
    try simp only [Act.put, List.setIfInBounds_toArray, List.set_cons_zero, List.set_cons_succ]
    refine Rg.take (i := 6) (v := ?_) rfl (by kernel_rfl) (fun _ _ _ h => h) hS0 (Or.inl ⟨by rfl, ?_⟩) ?_
    rotate_left
    · ((intro w hSw; (try dsimp only at hSw); go_simp) <;> (with_reducible rfl))
    try simp only [Act.put, List.setIfInBounds_toArray, List.set_cons_zero, List.set_cons_succ]
    refine Rg.take (i := 7) (v := ?_) rfl (by kernel_rfl) (fun _ _ _ h => h) hS0 (Or.inl ⟨by rfl, ?_⟩) ?_
    rotate_left
    · ((intro w hSw; (try dsimp only at hSw); go_simp) <;> (with_reducible rfl))
    try simp only [Act.put, List.setIfInBounds_toArray, List.set_cons_zero, List.set_cons_succ]
    refine Rg.take (i := 8) (v := ?_) rfl (by kernel_rfl) (fun _ _ _ h => h) hS0 (Or.inl ⟨by rfl, ?_⟩) ?_
    rotate_left
    · ((intro w hSw; (try dsimp only at hSw); go_simp) <;> (with_reducible rfl))
    try simp only [Act.put, List.setIfInBounds_toArray, List.set_cons_zero, List.set_cons_succ]
    refine Rg.take (i := 9) (v := ?_) rfl (by kernel_rfl) (fun _ _ _ h => h) hS0 (Or.inl ⟨by rfl, ?_⟩) ?_
    rotate_left
    · ((intro w hSw; (try dsimp only at hSw); go_simp) <;> (with_reducible rfl))
    try simp only [Act.put, List.setIfInBounds_toArray, List.set_cons_zero, List.set_cons_succ]
    refine Rg.take (i := 10) (v := ?_) rfl (by kernel_rfl) (fun _ _ _ h => h) hS0 (Or.inl ⟨by rfl, ?_⟩) ?_
    rotate_left
    · ((intro w hSw; (try dsimp only at hSw); go_simp) <;> (with_reducible rfl))
    try simp only [Act.put, List.setIfInBounds_toArray, List.set_cons_zero, List.set_cons_succ]
    refine Rg.one (i := 11) rfl (by kernel_rfl) (fun K hK => ?_)
    go_simp
    have hS1 : (fun x => x.cell? ⟨p, 0, none⟩ = some (.int .i64 (f : Nat)) ∧ x.cell? ⟨p, 1, none⟩ = some (.slice none 0 0)) (World.drew (w.alloc (.cells #[.slice Ar nr cr] 23))) := hS0
    refine hK.out _ _ (fun _ => hS1) ?_
    clear hK K
    try simp only [Act.put, List.setIfInBounds_toArray, List.set_cons_zero, List.set_cons_succ]
    refine Rg.one (i := 12) rfl (by kernel_rfl) (fun K hK => ?_)
    go_simp
    (with_reducible refine HI.out.mono ?_)
    rintro e w2 ⟨rfl, hb2⟩
    have HB2 := Lib.hid (below_then HAL.out hb2)
    have hS2' := (show w2.cell? ⟨p, 0, none⟩ = some (.int .i64 (f : Nat)) ∧ w2.cell? ⟨p, 1, none⟩ = some (.slice none 0 0) from ⟨(hb2.cell (World.block_lt_of_cell? _ _ hS0.1)).trans hS0.1, (hb2.cell (World.block_lt_of_cell? _ _ hS0.2)).trans hS0.2⟩)
    clear hb2 HI
    change K _ _
    have hS2 : (fun x => x.cell? ⟨p, 0, none⟩ = some (.int .i64 (f : Nat)) ∧ x.cell? ⟨p, 1, none⟩ = some (.slice none 0 0)) w2 := hS2'
    refine hK.out _ _ (fun _ => hS2) ?_
    clear hK K
    try simp only [Act.put, List.setIfInBounds_toArray, List.set_cons_zero, List.set_cons_succ]
    refine Rg.one (i := 13) rfl (by kernel_rfl) (fun K hK => ?_)
    go_simp
    refine hK.out _ _ (fun _ => hS2) ?_
    clear hK K
    try simp only [Act.put, List.setIfInBounds_toArray, List.set_cons_zero, List.set_cons_succ]
    refine Rg.done (by kernel_rfl) ?_ _
    have hz : ((L.drop 0).findIdx? (hitB reads) = none ∧ firstI ((L.drop 0).findIdx? (hitB reads)) = -1) ∨ ∃ i : Nat, (L.drop 0).findIdx? (hitB reads) = some i ∧ firstI ((L.drop 0).findIdx? (hitB reads)) = (i : Int) := by
      cases (L.drop 0).findIdx? (hitB reads) with
      | none => exact .inl ⟨rfl, rfl⟩
      | some i => exact .inr ⟨i, rfl, rfl⟩
    try rw [List.drop_zero] at hz
    generalize firstI _ = z at *
    rcases hz with ⟨hr, rfl⟩ | ⟨i, hr, rfl⟩
    · have HF := Lib.hid (show firstV all since reads = 0 from by rw [firstV, HDr.out]; (try rw [List.drop_zero]); rw [hr])
      have hneg : (-1 : Int) < 0 := by decide
      go_wp2_with fail
      exact HQ.out _ _ ⟨by rw [HF.out]; rfl, HB2.out⟩
    · have HF := Lib.hid (show firstV all since reads = since + i + 1 from by rw [firstV, HDr.out]; (try rw [List.drop_zero]); rw [hr])
      have hi := (List.findIdx?_eq_some_iff_getElem.1 hr).1
      try rw [List.length_drop] at hi
      rw [HNL.out] at hi
      have s1 : IntKind.i64.wrap ((since : Int) + (i : Int)) = ((since + i : Nat) : Int) := by rw [IntKind.wrap_i64]; omega
      have hw : IntKind.i64.wrap (((since + i : Nat) : Int) + 1) = ((since + i + 1 : Nat) : Int) := by rw [IntKind.wrap_i64]; omega
      have hw2 : IntKind.i64.wrap ((since : Int) + (i : Int) + 1) = ((since + i + 1 : Nat) : Int) := by rw [IntKind.wrap_i64]; omega
      have hi0 : ¬ ((i : Int) < 0) := by omega
      clear hr hi
      go_wp2_with fail
      exact HQ.out _ _ ⟨by rw [HF.out]; first | rfl | (rw [hw]; rfl) | (rw [hw2]; rfl) | go_num, HB2.out⟩
  · have HRd := Lib.hid (show RowsAt (w.alloc (.cells #[.slice Ar nr cr] 23)) 1 (some ⟨g, o, none⟩) (lfR (vs.drop k)) from by rw [List.drop_eq_nil_of_le (by omega)]; exact RowsAt.nil _ _ _)
    have hI := HX.out (some ⟨g, o, none⟩) (0) HRd.out
    rw [show n - k = 0 from by omega] at hI
    have HI := Lib.hid hI
    clear hI
    have HC0 := Lib.hid hC0
    have HC1 := Lib.hid hC1
    clear HX hC0 hC1 hrow
    go_wp2_with fail
    refine Rg.begin_ (fun x => x.cell? ⟨p, 0, none⟩ = some (.int .i64 (f : Nat)) ∧ x.cell? ⟨p, 1, none⟩ = some (.slice (some ⟨g, o, none⟩) n k)) 13 (by kernel_rfl) ?_
    have hS0 : (fun x => x.cell? ⟨p, 0, none⟩ = some (.int .i64 (f : Nat)) ∧ x.cell? ⟨p, 1, none⟩ = some (.slice (some ⟨g, o, none⟩) n k)) (World.drew (w.alloc (.cells #[.slice Ar nr cr] 23))) := ⟨HC0.out, HC1.out⟩
    refine Rg.take (i := 0) (v := ?_) rfl (by kernel_rfl) (fun _ _ _ h => h) hS0 (Or.inl ⟨by rfl, ?_⟩) ?_
    rotate_left
    · ((intro w hSw; (try dsimp only at hSw); go_simp) <;> (with_reducible rfl))
    try simp only [Act.put, List.setIfInBounds_toArray, List.set_cons_zero, List.set_cons_succ]
    refine Rg.take (i := 1) (v := ?_) rfl (by kernel_rfl) (fun _ _ _ h => h) hS0 (Or.inl ⟨by rfl, ?_⟩) ?_
    rotate_left
    · ((intro w hSw; (try dsimp only at hSw); go_simp) <;> (with_reducible rfl))
    try simp only [Act.put, List.setIfInBounds_toArray, List.set_cons_zero, List.set_cons_succ]
    refine Rg.take (i := 2) (v := ?_) rfl (by kernel_rfl) (fun _ _ _ h => h) hS0 (Or.inl ⟨by rfl, ?_⟩) ?_
    rotate_left
    · ((intro w hSw; (try dsimp only at hSw); go_simp) <;> (with_reducible rfl))
    try simp only [Act.put, List.setIfInBounds_toArray, List.set_cons_zero, List.set_cons_succ]
    refine Rg.take (i := 3) (v := ?_) rfl (by kernel_rfl) (fun _ _ _ h => h) hS0 (Or.inl ⟨by rfl, ?_⟩) ?_
    rotate_left
    · ((intro w hSw; (try dsimp only at hSw); go_simp) <;> (with_reducible rfl))
    try simp only [Act.put, List.setIfInBounds_toArray, List.set_cons_zero, List.set_cons_succ]
    refine Rg.take (i := 4) (v := ?_) rfl (by kernel_rfl) (fun _ _ _ h => h) hS0 (Or.inl ⟨by rfl, ?_⟩) ?_
    rotate_left
    · ((intro w hSw; (try dsimp only at hSw); go_simp) <;> (with_reducible rfl))
    try simp only [Act.put, List.setIfInBounds_toArray, List.set_cons_zero, List.set_cons_succ]
    refine Rg.take (i := 5) (v := ?_) rfl (by kernel_rfl) (fun _ _ _ h => h) hS0 (Or.inl ⟨by rfl, ?_⟩) ?_
    rotate_left
    · ((intro w hSw; (try dsimp only at hSw); go_simp) <;> (with_reducible rfl))
    try simp only [Act.put, List.setIfInBounds_toArray, List.set_cons_zero, List.set_cons_succ]
    refine Rg.take (i := 6) (v := ?_) rfl (by kernel_rfl) (fun _ _ _ h => h) hS0 (Or.inl ⟨by rfl, ?_⟩) ?_
    rotate_left
    · ((intro w hSw; (try dsimp only at hSw); go_simp) <;> (with_reducible rfl))
    try simp only [Act.put, List.setIfInBounds_toArray, List.set_cons_zero, List.set_cons_succ]
    refine Rg.take (i := 7) (v := ?_) rfl (by kernel_rfl) (fun _ _ _ h => h) hS0 (Or.inl ⟨by rfl, ?_⟩) ?_
    rotate_left
    · ((intro w hSw; (try dsimp only at hSw); go_simp) <;> (with_reducible rfl))
    try simp only [Act.put, List.setIfInBounds_toArray, List.set_cons_zero, List.set_cons_succ]
    refine Rg.take (i := 8) (v := ?_) rfl (by kernel_rfl) (fun _ _ _ h => h) hS0 (Or.inl ⟨by rfl, ?_⟩) ?_
    rotate_left
    · ((intro w hSw; (try dsimp only at hSw); go_simp) <;> (with_reducible rfl))
    try simp only [Act.put, List.setIfInBounds_toArray, List.set_cons_zero, List.set_cons_succ]
    refine Rg.take (i := 9) (v := ?_) rfl (by kernel_rfl) (fun _ _ _ h => h) hS0 (Or.inl ⟨by rfl, ?_⟩) ?_
    rotate_left
    · ((intro w hSw; (try dsimp only at hSw); go_simp) <;> (with_reducible rfl))
    try simp only [Act.put, List.setIfInBounds_toArray, List.set_cons_zero, List.set_cons_succ]
    refine Rg.take (i := 10) (v := ?_) rfl (by kernel_rfl) (fun _ _ _ h => h) hS0 (Or.inl ⟨by rfl, ?_⟩) ?_
    rotate_left
    · ((intro w hSw; (try dsimp only at hSw); go_simp) <;> (with_reducible rfl))
    try simp only [Act.put, List.setIfInBounds_toArray, List.set_cons_zero, List.set_cons_succ]
    refine Rg.one (i := 11) rfl (by kernel_rfl) (fun K hK => ?_)
    go_simp
    have hS1 : (fun x => x.cell? ⟨p, 0, none⟩ = some (.int .i64 (f : Nat)) ∧ x.cell? ⟨p, 1, none⟩ = some (.slice (some ⟨g, o, none⟩) n k)) (World.drew (w.alloc (.cells #[.slice Ar nr cr] 23))) := hS0
    refine hK.out _ _ (fun _ => hS1) ?_
    clear hK K
    try simp only [Act.put, List.setIfInBounds_toArray, List.set_cons_zero, List.set_cons_succ]
    refine Rg.one (i := 12) rfl (by kernel_rfl) (fun K hK => ?_)
    go_simp
    (with_reducible refine HI.out.mono ?_)
    rintro e w2 ⟨rfl, hb2⟩
    have HB2 := Lib.hid (below_then HAL.out hb2)
    have hS2' := (show w2.cell? ⟨p, 0, none⟩ = some (.int .i64 (f : Nat)) ∧ w2.cell? ⟨p, 1, none⟩ = some (.slice (some ⟨g, o, none⟩) n k) from ⟨(hb2.cell (World.block_lt_of_cell? _ _ hS0.1)).trans hS0.1, (hb2.cell (World.block_lt_of_cell? _ _ hS0.2)).trans hS0.2⟩)
    clear hb2 HI
    change K _ _
    have hS2 : (fun x => x.cell? ⟨p, 0, none⟩ = some (.int .i64 (f : Nat)) ∧ x.cell? ⟨p, 1, none⟩ = some (.slice (some ⟨g, o, none⟩) n k)) w2 := hS2'
    refine hK.out _ _ (fun _ => hS2) ?_
    clear hK K
    try simp only [Act.put, List.setIfInBounds_toArray, List.set_cons_zero, List.set_cons_succ]
    refine Rg.one (i := 13) rfl (by kernel_rfl) (fun K hK => ?_)
    go_simp
    refine hK.out _ _ (fun _ => hS2) ?_
    clear hK K
    try simp only [Act.put, List.setIfInBounds_toArray, List.set_cons_zero, List.set_cons_succ]
    refine Rg.done (by kernel_rfl) ?_ _
    have hz : ((L.drop k).findIdx? (hitB reads) = none ∧ firstI ((L.drop k).findIdx? (hitB reads)) = -1) ∨ ∃ i : Nat, (L.drop k).findIdx? (hitB reads) = some i ∧ firstI ((L.drop k).findIdx? (hitB reads)) = (i : Int) := by
      cases (L.drop k).findIdx? (hitB reads) with
      | none => exact .inl ⟨rfl, rfl⟩
      | some i => exact .inr ⟨i, rfl, rfl⟩
    try rw [List.drop_zero] at hz
    generalize firstI _ = z at *
    rcases hz with ⟨hr, rfl⟩ | ⟨i, hr, rfl⟩
    · have HF := Lib.hid (show firstV all since reads = 0 from by rw [firstV, HDr.out]; (try rw [List.drop_zero]); rw [hr])
      have hneg : (-1 : Int) < 0 := by decide
      go_wp2_with fail
      exact HQ.out _ _ ⟨by rw [HF.out]; rfl, HB2.out⟩
    · have HF := Lib.hid (show firstV all since reads = since + i + 1 from by rw [firstV, HDr.out]; (try rw [List.drop_zero]); rw [hr])
      have hi := (List.findIdx?_eq_some_iff_getElem.1 hr).1
      try rw [List.length_drop] at hi
      rw [HNL.out] at hi
      have s1 : IntKind.i64.wrap ((since : Int) + (i : Int)) = ((since + i : Nat) : Int) := by rw [IntKind.wrap_i64]; omega
      have hw : IntKind.i64.wrap (((since + i : Nat) : Int) + 1) = ((since + i + 1 : Nat) : Int) := by rw [IntKind.wrap_i64]; omega
      have hw2 : IntKind.i64.wrap ((since : Int) + (i : Int) + 1) = ((since + i + 1 : Nat) : Int) := by rw [IntKind.wrap_i64]; omega
      have hi0 : ¬ ((i : Int) < 0) := by omega
      clear hr hi
      go_wp2_with fail
      exact HQ.out _ _ ⟨by rw [HF.out]; first | rfl | (rw [hw]; rfl) | (rw [hw2]; rfl) | go_num, HB2.out⟩
  · have HRd := Lib.hid (show RowsAt (w.alloc (.cells #[.slice Ar nr cr] 23)) 1 (some ⟨g, o + k, none⟩) (lfR (vs.drop k)) from by have := rows_from k hrow; rwa [lfR, ← List.map_drop] at this)
    have hI := HX.out (some ⟨g, o + k, none⟩) (c - k) HRd.out
    skip
    have HI := Lib.hid hI
    clear hI
    have HC0 := Lib.hid hC0
    have HC1 := Lib.hid hC1
    clear HX hC0 hC1 hrow
    go_wp2_with fail
    refine Rg.begin_ (fun x => x.cell? ⟨p, 0, none⟩ = some (.int .i64 (f : Nat)) ∧ x.cell? ⟨p, 1, none⟩ = some (.slice (some ⟨g, o, none⟩) n c)) 13 (by kernel_rfl) ?_
    have hS0 : (fun x => x.cell? ⟨p, 0, none⟩ = some (.int .i64 (f : Nat)) ∧ x.cell? ⟨p, 1, none⟩ = some (.slice (some ⟨g, o, none⟩) n c)) (World.drew (w.alloc (.cells #[.slice Ar nr cr] 23))) := ⟨HC0.out, HC1.out⟩
    refine Rg.take (i := 0) (v := ?_) rfl (by kernel_rfl) (fun _ _ _ h => h) hS0 (Or.inl ⟨by rfl, ?_⟩) ?_
    rotate_left
    · ((intro w hSw; (try dsimp only at hSw); go_simp) <;> (with_reducible rfl))
    try simp only [Act.put, List.setIfInBounds_toArray, List.set_cons_zero, List.set_cons_succ]
    refine Rg.take (i := 1) (v := ?_) rfl (by kernel_rfl) (fun _ _ _ h => h) hS0 (Or.inl ⟨by rfl, ?_⟩) ?_
    rotate_left
    · ((intro w hSw; (try dsimp only at hSw); go_simp) <;> (with_reducible rfl))
    try simp only [Act.put, List.setIfInBounds_toArray, List.set_cons_zero, List.set_cons_succ]
    refine Rg.take (i := 2) (v := ?_) rfl (by kernel_rfl) (fun _ _ _ h => h) hS0 (Or.inl ⟨by rfl, ?_⟩) ?_
    rotate_left
    · ((intro w hSw; (try dsimp only at hSw); go_simp) <;> (with_reducible rfl))
    try simp only [Act.put, List.setIfInBounds_toArray, List.set_cons_zero, List.set_cons_succ]
    refine Rg.take (i := 3) (v := ?_) rfl (by kernel_rfl) (fun _ _ _ h => h) hS0 (Or.inl ⟨by rfl, ?_⟩) ?_
    rotate_left
    · ((intro w hSw; (try dsimp only at hSw); go_simp) <;> (with_reducible rfl))
    try simp only [Act.put, List.setIfInBounds_toArray, List.set_cons_zero, List.set_cons_succ]
    refine Rg.take (i := 4) (v := ?_) rfl (by kernel_rfl) (fun _ _ _ h => h) hS0 (Or.inl ⟨by rfl, ?_⟩) ?_
    rotate_left
    · ((intro w hSw; (try dsimp only at hSw); go_simp) <;> (with_reducible rfl))
    try simp only [Act.put, List.setIfInBounds_toArray, List.set_cons_zero, List.set_cons_succ]
    refine Rg.take (i := 5) (v := ?_) rfl (by kernel_rfl) (fun _ _ _ h => h) hS0 (Or.inl ⟨by rfl, ?_⟩) ?_
    rotate_left
    · ((intro w hSw; (try dsimp only at hSw); go_simp) <;> (with_reducible rfl))
    try simp only [Act.put, List.setIfInBounds_toArray, List.set_cons_zero, List.set_cons_succ]
    refine Rg.take (i := 6) (v := ?_) rfl (by kernel_rfl) (fun _ _ _ h => h) hS0 (Or.inl ⟨by rfl, ?_⟩) ?_
    rotate_left
    · ((intro w hSw; (try dsimp only at hSw); go_simp) <;> (with_reducible rfl))
    try simp only [Act.put, List.setIfInBounds_toArray, List.set_cons_zero, List.set_cons_succ]
    refine Rg.take (i := 7) (v := ?_) rfl (by kernel_rfl) (fun _ _ _ h => h) hS0 (Or.inl ⟨by rfl, ?_⟩) ?_
    rotate_left
    · ((intro w hSw; (try dsimp only at hSw); go_simp) <;> (with_reducible rfl))
    try simp only [Act.put, List.setIfInBounds_toArray, List.set_cons_zero, List.set_cons_succ]
    refine Rg.take (i := 8) (v := ?_) rfl (by kernel_rfl) (fun _ _ _ h => h) hS0 (Or.inl ⟨by rfl, ?_⟩) ?_
    rotate_left
    · ((intro w hSw; (try dsimp only at hSw); go_simp) <;> (with_reducible rfl))
    try simp only [Act.put, List.setIfInBounds_toArray, List.set_cons_zero, List.set_cons_succ]
    refine Rg.take (i := 9) (v := ?_) rfl (by kernel_rfl) (fun _ _ _ h => h) hS0 (Or.inl ⟨by rfl, ?_⟩) ?_
    rotate_left
    · ((intro w hSw; (try dsimp only at hSw); go_simp) <;> (with_reducible rfl))
    try simp only [Act.put, List.setIfInBounds_toArray, List.set_cons_zero, List.set_cons_succ]
    refine Rg.take (i := 10) (v := ?_) rfl (by kernel_rfl) (fun _ _ _ h => h) hS0 (Or.inl ⟨by rfl, ?_⟩) ?_
    rotate_left
    · ((intro w hSw; (try dsimp only at hSw); go_simp) <;> (with_reducible rfl))
    try simp only [Act.put, List.setIfInBounds_toArray, List.set_cons_zero, List.set_cons_succ]
    refine Rg.one (i := 11) rfl (by kernel_rfl) (fun K hK => ?_)
    go_simp
    have hS1 : (fun x => x.cell? ⟨p, 0, none⟩ = some (.int .i64 (f : Nat)) ∧ x.cell? ⟨p, 1, none⟩ = some (.slice (some ⟨g, o, none⟩) n c)) (World.drew (w.alloc (.cells #[.slice Ar nr cr] 23))) := hS0
    refine hK.out _ _ (fun _ => hS1) ?_
    clear hK K
    try simp only [Act.put, List.setIfInBounds_toArray, List.set_cons_zero, List.set_cons_succ]
    refine Rg.one (i := 12) rfl (by kernel_rfl) (fun K hK => ?_)
    go_simp
    (with_reducible refine HI.out.mono ?_)
    rintro e w2 ⟨rfl, hb2⟩
    have HB2 := Lib.hid (below_then HAL.out hb2)
    have hS2' := (show w2.cell? ⟨p, 0, none⟩ = some (.int .i64 (f : Nat)) ∧ w2.cell? ⟨p, 1, none⟩ = some (.slice (some ⟨g, o, none⟩) n c) from ⟨(hb2.cell (World.block_lt_of_cell? _ _ hS0.1)).trans hS0.1, (hb2.cell (World.block_lt_of_cell? _ _ hS0.2)).trans hS0.2⟩)
    clear hb2 HI
    change K _ _
    have hS2 : (fun x => x.cell? ⟨p, 0, none⟩ = some (.int .i64 (f : Nat)) ∧ x.cell? ⟨p, 1, none⟩ = some (.slice (some ⟨g, o, none⟩) n c)) w2 := hS2'
    refine hK.out _ _ (fun _ => hS2) ?_
    clear hK K
    try simp only [Act.put, List.setIfInBounds_toArray, List.set_cons_zero, List.set_cons_succ]
    refine Rg.one (i := 13) rfl (by kernel_rfl) (fun K hK => ?_)
    go_simp
    refine hK.out _ _ (fun _ => hS2) ?_
    clear hK K
    try simp only [Act.put, List.setIfInBounds_toArray, List.set_cons_zero, List.set_cons_succ]
    refine Rg.done (by kernel_rfl) ?_ _
    have hz : ((L.drop k).findIdx? (hitB reads) = none ∧ firstI ((L.drop k).findIdx? (hitB reads)) = -1) ∨ ∃ i : Nat, (L.drop k).findIdx? (hitB reads) = some i ∧ firstI ((L.drop k).findIdx? (hitB reads)) = (i : Int) := by
      cases (L.drop k).findIdx? (hitB reads) with
      | none => exact .inl ⟨rfl, rfl⟩
      | some i => exact .inr ⟨i, rfl, rfl⟩
    try rw [List.drop_zero] at hz
    generalize firstI _ = z at *
    rcases hz with ⟨hr, rfl⟩ | ⟨i, hr, rfl⟩
    · have HF := Lib.hid (show firstV all since reads = 0 from by rw [firstV, HDr.out]; (try rw [List.drop_zero]); rw [hr])
      have hneg : (-1 : Int) < 0 := by decide
      go_wp2_with fail
      exact HQ.out _ _ ⟨by rw [HF.out]; rfl, HB2.out⟩
    · have HF := Lib.hid (show firstV all since reads = since + i + 1 from by rw [firstV, HDr.out]; (try rw [List.drop_zero]); rw [hr])
      have hi := (List.findIdx?_eq_some_iff_getElem.1 hr).1
      try rw [List.length_drop] at hi
      rw [HNL.out] at hi
      have s1 : IntKind.i64.wrap ((since : Int) + (i : Int)) = ((since + i : Nat) : Int) := by rw [IntKind.wrap_i64]; omega
      have hw : IntKind.i64.wrap (((since + i : Nat) : Int) + 1) = ((since + i + 1 : Nat) : Int) := by rw [IntKind.wrap_i64]; omega
      have hw2 : IntKind.i64.wrap ((since : Int) + (i : Int) + 1) = ((since + i + 1 : Nat) : Int) := by rw [IntKind.wrap_i64]; omega
      have hi0 : ¬ ((i : Int) < 0) := by omega
      clear hr hi
      go_wp2_with fail
      exact HQ.out _ _ ⟨by rw [HF.out]; first | rfl | (rw [hw]; rfl) | (rw [hw2]; rfl) | go_num, HB2.out⟩
end Go.Proofs.YtkfciofpbnlmeaaDoor
