/- ValidPlays, walked. -/
import Derived.Test.YtkfciofpbnlmeaaDoorVm
import Derived.Test.YtkfciofpbnlmeaaDoorRg
import Derived.Deep.CutBlock
set_option linter.unusedVariables false
set_option linter.unusedSimpArgs false
set_option maxRecDepth 100000
namespace Go.Proofs.Rg
section
variable {P : Program} {ops : Array Oper} {Q : Exit → Act → World → Prop} {md : Region.Mode} {S S' : World → Prop} {z z' : Nat}
/-- When number z has come up nothing is asked of S any more. -/
theorem up : ∀ (n : Nat) (l : Array Bool) (a : Act) (w : World), l.getD z true = true → wpAny P md ops Q n l a w → wpL P md ops Q S z n l a w
  | 0, _, _, _, _, h => h
  | n + 1, l, a, w, hz, h => ⟨h.1, fun i hi => wpOp_mono (fun a' w' h' => by
      have hz2 : (l.setIfInBounds i true).getD z true = true := by
        by_cases e : i = z
        · subst e
          rw [Array.getD_eq_getD_getElem?, Array.getElem?_setIfInBounds]
          simp
          split <;> rfl
        · rw [getD_set_ne true e]; exact hz
      exact ⟨fun h0 => (by rw [hz2] at h0; cases h0), up n _ a' w' hz2 h'⟩) (h.2 i hi)⟩
/-- From there on another S may be told. -/
theorem switch {n : Nat} {l : Array Bool} {a : Act} {w : World} (hz : l.getD z true = true) (h : wpL P md ops Q S' z' n l a w) : wpL P md ops Q S z n l a w := up n l a w hz (any_of n l a w h)
theorem switchH {n : Nat} {l : Array Bool} {a : Act} {w : World} (hz : l.getD z true = true) (h : wpAnyH P md ops Q S' n l a w) : wpL P md ops Q S z n l a w := up n l a w hz (wpAny_of_held n l a w h)
end
end Go.Proofs.Rg
namespace Go.Proofs.YtkfciofpbnlmeaaDoor
open Go.Proofs.BL Go.Proofs.Peel Go.RowKit Go.Proofs.Ky Go.Proofs.Vl

theorem chk_nil {f n : Nat} {all : List (List Str)} (h1 : f ≤ n) (h2 : n ≤ all.length) : checkV f all n [] = 0 := by
  unfold checkV
  rw [if_neg (by omega), if_neg (by omega), Int.toNat_natCast, first_nil, if_neg (by decide)]
theorem chkNil (p f : Nat) (Lv : Value) (vs : List Value) (all : List (List Str)) (n : Nat) (w : World) (h : HisF w p f Lv vs all) (hE : ErrT w) (h1 : f ≤ n) (h2 : n ≤ all.length) :
    Calls Tryd.prog 10 #[.pointer (some ⟨p, 0, none⟩), .int .i64 (n : Nat), .slice none 0 0] w (Tells_ (.int .i64 0) w) := by
  have := vCheck p f Lv vs all n none 0 0 [] w h hE (RowsAt.nil _ _ _) rfl (by decide)
  rwa [chk_nil h1 h2] at this
/-- A call as it lies in memory: with its texts' slice. -/
abbrev Opm := Opv × Option Addr × Nat
def enO (x : Opm) : List Value := [.int .i64 x.1.kind, .bool x.1.near, .int .i64 x.1.n, .slice x.2.1 x.1.l.length x.2.2]
def rwO (l : List Opm) : List (List Value) := l.map enO
theorem opAt {w : World} {A : Option Addr} {l : List Opm} (h : RowsAt w 4 A (rwO l)) {i : Nat} {x : Opm} (hi : l[i]? = some x) :
    ∃ b o, A = some ⟨b, o, none⟩ ∧ w.cell? ⟨b, o + i * 4, none⟩ = some (.int .i64 x.1.kind) ∧ w.cell? ⟨b, o + i * 4 + 1, none⟩ = some (.bool x.1.near) ∧ w.cell? ⟨b, o + i * 4 + 2, none⟩ = some (.int .i64 x.1.n) ∧ w.cell? ⟨b, o + i * 4 + 3, none⟩ = some (.slice x.2.1 x.1.l.length x.2.2) := by
  obtain ⟨b, o, e, hc⟩ := h i (enO x) (by rw [rwO, List.getElem?_map, hi]; rfl)
  exact ⟨b, o, e, hc 0 _ rfl, hc 1 _ rfl, hc 2 _ rfl, hc 3 _ rfl⟩
set_option maxHeartbeats 16000000 in
theorem lawPlays (L : List Opm) (n : Nat) (hn : L.length = n) (A : Option Addr) (c : Nat) (W : World) (hE : ErrT W) (hr : RowsAt W 4 A (rwO L)) (hm : n ≤ 9223372036854775807)
    (hw : ∀ x ∈ L, RowsAt W 1 x.2.1 (rwS x.1.l) ∧ x.1.l.length ≤ 9223372036854775807 ∧ -9223372036854775808 ≤ x.1.n ∧ x.1.n ≤ 9223372036854775807) :
    Calls Tryd.prog 4 #[.slice A n c] W (LawPost W) := by
  refine via fun Q hQ => ?_
  have HQ := Lib.hid hQ
  have HE := Lib.hid (fun (x : World) (h : Sat [old W] x) => hE.below h.old_)
  have HR := Lib.hid hr
  have HWl := Lib.hid hw
  have HNL := Lib.hid hn
  have HNw := Lib.hid (vNew [old W] W (Sat.start W))
  clear hQ hE hr hw hn
  go_enter Tryd.func4, Tryd.ntmps4
  go_wp2_with fail
  (with_reducible refine HNw.out.mono ?_)
  rintro e w1 ⟨p, rfl, hS1⟩
  have hB0 : Both p w1.heap.size 0 [] [old W] (w1.alloc (.cells #[.slice none 0 0, .int .i64 0] 37)) := by
    refine ⟨none, 0, [], fun _ => rfl, Nat.le_refl _, ?_⟩
    have h1 := (hS1.alloc #[.slice none 0 0, .int .i64 0] 37)
    have h2 := (h1.roLnil.put (B := roR 1 none (lfR [])) (fun G => ⟨RowsAt.nil _ _ _, fun h => absurd rfl h⟩))
    exact h2.s2
  have HB0 := Lib.hid hB0
  clear hS1 hB0 HNw
  go_upto_block 0 with fail
  generalize w1.alloc (.cells #[.slice none 0 0, .int .i64 0] 37) = wb at *
  generalize w1.heap.size = q at *
  go_cut [] (fun wx => ∃ (f : Nat) (all : List (List Str)), Few f all 50 ∧ Hid (Both p q f all [old W] wx))
  case first =>
    go_wp2_with fail
    go_loopg [12] n (fun g x12 wr => ∃ (i f : Nat) (all : List (List Str)), i ≤ n ∧ i ≤ 50 ∧ g = n - i ∧ x12 = .int .i64 i ∧ Few f all i ∧ Hid (Both p q f all [old W] wr))
    case atStart => exact ⟨0, 0, [], Nat.zero_le _, Nat.zero_le _, rfl, rfl, ⟨Nat.le_refl _, Nat.le_refl _, fun s hs => by cases hs⟩, HB0⟩
    case round =>
      obtain ⟨i, f, all, hi, hi50, rfl, rfl, hfew, HB⟩ := hrel
      clear HB0
      by_cases hlt : i < n
      · have hx : L[i]? = some (L[i]'(by rw [HNL.out]; exact hlt)) := List.getElem?_eq_getElem _
        generalize L[i]'(by rw [HNL.out]; exact hlt) = o at hx
        have hbw : Below W.heap.size W wr := by obtain ⟨_, _, _, _, _, hS⟩ := HB.out; exact hS.drop.drop.drop.drop.old_
        obtain ⟨b, o', hA, k0, k1, k2, k3⟩ := opAt (HR.out.below hbw) hx
        have hwo := HWl.out o (List.mem_of_getElem? hx)
        obtain ⟨⟨kind, near, nn, l⟩, A5, c5⟩ := o
        simp only at k0 k1 k2 k3 hwo
        have hT := Blk.new wr #[.int .i64 kind, .bool near, .int .i64 nn, .slice A5 l.length c5] 39
        have hal := (Below.refl wr.heap.size wr).alloc (Nat.le_refl _) (.cells #[.int .i64 kind, .bool near, .int .i64 nn, .slice A5 l.length c5] 39)
        have HBa := Lib.hid (show Both p q f all [old W] (wr.alloc (.cells #[.int .i64 kind, .bool near, .int .i64 nn, .slice A5 l.length c5] 39)) from DhS.below HB.out hal)
        have HRo := Lib.hid ((hwo.1.below hbw).below hal)
        have HLo := Lib.hid hwo.2
        have HFew := Lib.hid hfew
        subst hA
        by_cases h50 : i < 50
        · have h50i : ¬ (50 : Int) ≤ (i : Int) := by omega
          have HT6 := Lib.hid (fun (x : World) (hb : Below (wr.alloc (.cells #[.int .i64 kind, .bool near, .int .i64 nn, .slice A5 l.length c5] 39)).heap.size (wr.alloc (.cells #[.int .i64 kind, .bool near, .int .i64 nn, .slice A5 l.length c5] 39)) x) => show x.cell? ⟨wr.heap.size, 0, none⟩ = some (.int .i64 kind) ∧ x.cell? ⟨wr.heap.size, 1, none⟩ = some (.bool near) ∧ x.cell? ⟨wr.heap.size, 2, none⟩ = some (.int .i64 nn) ∧ x.cell? ⟨wr.heap.size, 3, none⟩ = some (.slice A5 l.length c5) from ⟨(hT.below hb).at_ 0 rfl, (hT.below hb).at_ 1 rfl, (hT.below hb).at_ 2 rfl, (hT.below hb).at_ 3 rfl⟩)
          clear hx hwo hbw hfew HB hT hal
          go_wp2_with fail
          generalize wr.alloc (.cells #[.int .i64 kind, .bool near, .int .i64 nn, .slice A5 l.length c5] 39) = w6 at *
          generalize wr.heap.size = b6 at *
          have HStp := Lib.hid (lStep p q f i all ⟨kind, near, nn, l⟩ A5 c5 [old W] (World.drew w6) HE.out (DhS.below HBa.out (drew_below w6 1)) HFew.out (by omega) (HRo.out.below (drew_below w6 1)) HLo.out.1 HLo.out.2.1 HLo.out.2.2)
          generalize l.length = l5 at *
          refine Rg.begin_ (fun x => x.cell? ⟨b6, 0, none⟩ = some (.int .i64 kind) ∧ x.cell? ⟨b6, 1, none⟩ = some (.bool near) ∧ x.cell? ⟨b6, 2, none⟩ = some (.int .i64 nn) ∧ x.cell? ⟨b6, 3, none⟩ = some (.slice A5 l5 c5)) 3 (by kernel_rfl) ?_
          have hS0 : (fun x => x.cell? ⟨b6, 0, none⟩ = some (.int .i64 kind) ∧ x.cell? ⟨b6, 1, none⟩ = some (.bool near) ∧ x.cell? ⟨b6, 2, none⟩ = some (.int .i64 nn) ∧ x.cell? ⟨b6, 3, none⟩ = some (.slice A5 l5 c5)) (World.drew w6) := HT6.out _ (drew_below w6 1)
          refine Rg.take (i := 0) (v := ?_) rfl (by kernel_rfl) (fun _ _ _ h => h) hS0 (Or.inl ⟨by rfl, ?_⟩) ?_
          rotate_left
          · ((intro w hSw; (try dsimp only at hSw); go_simp) <;> (with_reducible rfl))
          try simp only [Act.put, List.setIfInBounds_toArray, List.set_cons_zero, List.set_cons_succ]
          refine Rg.take (i := 1) (v := ?_) rfl (by kernel_rfl) (fun _ _ _ h => h) hS0 (Or.inl ⟨by rfl, ?_⟩) ?_
          rotate_left
          · ((intro w hSw; (try dsimp only at hSw); go_simp) <;> (with_reducible rfl))
          try simp only [Act.put, List.setIfInBounds_toArray, List.set_cons_zero, List.set_cons_succ]
          refine Rg.take (i := 2) (v := ?_) rfl (by kernel_rfl) (fun _ _ _ h => h) hS0 (Or.inl ⟨by rfl, ?_⟩) ?_
          rotate_left
          · ((intro w hSw; (try dsimp only at hSw); go_simp) <;> (with_reducible rfl))
          try simp only [Act.put, List.setIfInBounds_toArray, List.set_cons_zero, List.set_cons_succ]
          refine Rg.one (i := 3) rfl (by kernel_rfl) (fun K hK => ?_)
          go_simp
          (with_reducible refine HStp.out.mono ?_)
          rintro e w2 ⟨rfl, f', all', hfw, hbo⟩
          have HFw := Lib.hid hfw
          have HBo := Lib.hid hbo
          obtain ⟨Ad, cd, vsd, _, hcd, hSd⟩ := hbo
          have HQ2 := Lib.hid (show w2.cell? ⟨q, 0, none⟩ = some (.slice Ad all'.length cd) ∧ w2.cell? ⟨q, 1, none⟩ = some (.int .i64 (f' : Nat)) from ⟨hSd.blk_.at_ 0 rfl, hSd.blk_.at_ 1 rfl⟩)
          have HCh := Lib.hid (show ∃ Lv vs, HisF w2 p f' Lv vs all' from Sat.hisF hSd.s3 hfw.a (by have := hfw.b; omega) hfw.c)
          obtain ⟨Lv, vs, hF⟩ := HCh.out
          have HNw := Lib.hid (fun (x : World) (hb : Below w2.heap.size w2 x) => vNow p f' Lv vs all' x (hF.below hb))
          have HFl := Lib.hid (fun (x : World) (hb : Below w2.heap.size w2 x) => vFloor p f' Lv vs all' x (hF.below hb))
          have HEx := Lib.hid (fun (x : World) (hb : Below w2.heap.size w2 x) => HE.out x ((hSd.below hb).drop.drop.drop.drop))
          have HCk := Lib.hid (fun (n : Nat) (hn1 : f' ≤ n) (hn2 : n ≤ all'.length) (x : World) (hb : Below w2.heap.size w2 x) => chkNil p f' Lv vs all' n x (hF.below hb) (HEx.out x hb) hn1 hn2)
          clear hfw hSd hF HStp
          generalize han : all'.length = an at *
          have HAn := Lib.hid han
          clear han
          change K _ _
          refine hK.out _ _ (fun h => absurd h (by decide)) ?_
          clear hK K
          refine Rg.switchH (S' := fun x => x.cell? ⟨q, 0, none⟩ = some (.slice Ad an cd) ∧ x.cell? ⟨q, 1, none⟩ = some (.int .i64 (f' : Nat))) (by kernel_rfl) ?_
          have hS1 : (fun x => x.cell? ⟨q, 0, none⟩ = some (.slice Ad an cd) ∧ x.cell? ⟨q, 1, none⟩ = some (.int .i64 (f' : Nat))) w2 := HQ2.out
          try simp only [Act.put, List.setIfInBounds_toArray, List.set_cons_zero, List.set_cons_succ]
          refine Rg.oneH (i := 4) rfl (by kernel_rfl) (fun K hK => ?_)
          go_simp
          refine hK.out _ _ hS1 ?_
          clear hK K
          try simp only [Act.put, List.setIfInBounds_toArray, List.set_cons_zero, List.set_cons_succ]
          refine Rg.oneH (i := 5) rfl (by kernel_rfl) (fun K hK => ?_)
          go_simp
          refine hK.out _ _ hS1 ?_
          clear hK K
          try simp only [Act.put, List.setIfInBounds_toArray, List.set_cons_zero, List.set_cons_succ]
          refine Rg.takeH (i := 6) (v := ?_) rfl (by kernel_rfl) (fun _ _ _ h => h) hS1 (Or.inl ⟨by rfl, ?_⟩) ?_
          rotate_left
          · ((intro w hSw; (try dsimp only at hSw); go_simp) <;> (with_reducible rfl))
          try simp only [Act.put, List.setIfInBounds_toArray, List.set_cons_zero, List.set_cons_succ]
          refine Rg.takeH (i := 8) (v := ?_) rfl (by kernel_rfl) (fun _ _ _ h => h) hS1 (Or.inl ⟨by rfl, ?_⟩) ?_
          rotate_left
          · ((intro w hSw; (try dsimp only at hSw); go_simp) <;> (with_reducible rfl))
          try simp only [Act.put, List.setIfInBounds_toArray, List.set_cons_zero, List.set_cons_succ]
          refine Rg.takeH (i := 9) (v := ?_) rfl (by kernel_rfl) (fun _ _ _ h => h) hS1 (Or.inl ⟨by rfl, ?_⟩) ?_
          rotate_left
          · ((intro w hSw; (try dsimp only at hSw); go_simp) <;> (with_reducible rfl))
          try simp only [Act.put, List.setIfInBounds_toArray, List.set_cons_zero, List.set_cons_succ]
          refine Rg.takeH (i := 10) (v := ?_) rfl (by kernel_rfl) (fun _ _ _ h => h) hS1 (Or.inl ⟨by rfl, ?_⟩) ?_
          rotate_left
          · ((intro w hSw; (try dsimp only at hSw); go_simp) <;> (with_reducible rfl))
          try simp only [Act.put, List.setIfInBounds_toArray, List.set_cons_zero, List.set_cons_succ]
          refine Rg.takeH (i := 11) (v := ?_) rfl (by kernel_rfl) (fun _ _ _ h => h) hS1 (Or.inl ⟨by rfl, ?_⟩) ?_
          rotate_left
          · ((intro w hSw; (try dsimp only at hSw); go_simp) <;> (with_reducible rfl))
          try simp only [Act.put, List.setIfInBounds_toArray, List.set_cons_zero, List.set_cons_succ]
          refine Rg.takeH (i := 12) (v := ?_) rfl (by kernel_rfl) (fun _ _ _ h => h) hS1 (Or.inl ⟨by rfl, ?_⟩) ?_
          rotate_left
          · ((intro w hSw; (try dsimp only at hSw); go_simp) <;> (with_reducible rfl))
          try simp only [Act.put, List.setIfInBounds_toArray, List.set_cons_zero, List.set_cons_succ]
          refine Rg.oneH (i := 7) rfl (by kernel_rfl) (fun K hK => ?_)
          go_simp
          (with_reducible refine (HNw.out w2 (Below.refl _ _)).mono ?_)
          rintro e w3 ⟨rfl, hb3⟩
          have HB3 := Lib.hid (hb3)
          have P := hS1
          have hS2' := (show w3.cell? ⟨q, 0, none⟩ = some (.slice Ad an cd) ∧ w3.cell? ⟨q, 1, none⟩ = some (.int .i64 (f' : Nat)) from ⟨(hb3.cell (World.block_lt_of_cell? _ _ P.1)).trans P.1, (hb3.cell (World.block_lt_of_cell? _ _ P.2)).trans P.2⟩)
          clear hb3 P
          change K _ _
          have hS2 : (fun x => x.cell? ⟨q, 0, none⟩ = some (.slice Ad an cd) ∧ x.cell? ⟨q, 1, none⟩ = some (.int .i64 (f' : Nat))) w3 := hS2'
          refine hK.out _ _ hS2 ?_
          clear hK K
          try simp only [Act.put, List.setIfInBounds_toArray, List.set_cons_zero, List.set_cons_succ]
          refine Rg.oneH (i := 13) rfl (by kernel_rfl) (fun K hK => ?_)
          go_simp
          refine hK.out _ _ hS2 ?_
          clear hK K
          try simp only [Act.put, List.setIfInBounds_toArray, List.set_cons_zero, List.set_cons_succ]
          refine Rg.oneH (i := 14) rfl (by kernel_rfl) (fun K hK => ?_)
          go_simp
          refine hK.out _ _ hS2 ?_
          clear hK K
          try simp only [Act.put, List.setIfInBounds_toArray, List.set_cons_zero, List.set_cons_succ]
          refine Rg.oneH (i := 15) rfl (by kernel_rfl) (fun K hK => ?_)
          go_simp
          refine hK.out _ _ hS2 ?_
          clear hK K
          try simp only [Act.put, List.setIfInBounds_toArray, List.set_cons_zero, List.set_cons_succ]
          refine Rg.takeH (i := 16) (v := ?_) rfl (by kernel_rfl) (fun _ _ _ h => h) hS2 (Or.inl ⟨by rfl, ?_⟩) ?_
          rotate_left
          · ((intro w hSw; (try dsimp only at hSw); go_simp) <;> (with_reducible rfl))
          try simp only [Act.put, List.setIfInBounds_toArray, List.set_cons_zero, List.set_cons_succ]
          refine Rg.takeH (i := 18) (v := ?_) rfl (by kernel_rfl) (fun _ _ _ h => h) hS2 (Or.inl ⟨by rfl, ?_⟩) ?_
          rotate_left
          · ((intro w hSw; (try dsimp only at hSw); go_simp) <;> (with_reducible rfl))
          try simp only [Act.put, List.setIfInBounds_toArray, List.set_cons_zero, List.set_cons_succ]
          refine Rg.takeH (i := 19) (v := ?_) rfl (by kernel_rfl) (fun _ _ _ h => h) hS2 (Or.inl ⟨by rfl, ?_⟩) ?_
          rotate_left
          · ((intro w hSw; (try dsimp only at hSw); go_simp) <;> (with_reducible rfl))
          try simp only [Act.put, List.setIfInBounds_toArray, List.set_cons_zero, List.set_cons_succ]
          refine Rg.takeH (i := 20) (v := ?_) rfl (by kernel_rfl) (fun _ _ _ h => h) hS2 (Or.inl ⟨by rfl, ?_⟩) ?_
          rotate_left
          · ((intro w hSw; (try dsimp only at hSw); go_simp) <;> (with_reducible rfl))
          try simp only [Act.put, List.setIfInBounds_toArray, List.set_cons_zero, List.set_cons_succ]
          refine Rg.takeH (i := 21) (v := ?_) rfl (by kernel_rfl) (fun _ _ _ h => h) hS2 (Or.inl ⟨by rfl, ?_⟩) ?_
          rotate_left
          · ((intro w hSw; (try dsimp only at hSw); go_simp) <;> (with_reducible rfl))
          try simp only [Act.put, List.setIfInBounds_toArray, List.set_cons_zero, List.set_cons_succ]
          refine Rg.oneH (i := 17) rfl (by kernel_rfl) (fun K hK => ?_)
          go_simp
          (with_reducible refine (HFl.out w3 HB3.out).mono ?_)
          rintro e w4 ⟨rfl, rfl⟩
          change K _ _
          have hS3 : (fun x => x.cell? ⟨q, 0, none⟩ = some (.slice Ad an cd) ∧ x.cell? ⟨q, 1, none⟩ = some (.int .i64 (f' : Nat))) w4 := hS2'
          refine hK.out _ _ hS3 ?_
          clear hK K
          try simp only [Act.put, List.setIfInBounds_toArray, List.set_cons_zero, List.set_cons_succ]
          refine Rg.oneH (i := 22) rfl (by kernel_rfl) (fun K hK => ?_)
          go_simp
          refine hK.out _ _ hS3 ?_
          clear hK K
          try simp only [Act.put, List.setIfInBounds_toArray, List.set_cons_zero, List.set_cons_succ]
          refine Rg.oneH (i := 23) rfl (by kernel_rfl) (fun K hK => ?_)
          go_simp
          refine hK.out _ _ hS3 ?_
          clear hK K
          try simp only [Act.put, List.setIfInBounds_toArray, List.set_cons_zero, List.set_cons_succ]
          refine Rg.oneH (i := 24) rfl (by kernel_rfl) (fun K hK => ?_)
          go_simp
          refine hK.out _ _ hS3 ?_
          clear hK K
          try simp only [Act.put, List.setIfInBounds_toArray, List.set_cons_zero, List.set_cons_succ]
          refine Rg.takeH (i := 25) (v := ?_) rfl (by kernel_rfl) (fun _ _ _ h => h) hS3 (Or.inl ⟨by rfl, ?_⟩) ?_
          rotate_left
          · ((intro w hSw; (try dsimp only at hSw); go_simp) <;> (with_reducible rfl))
          try simp only [Act.put, List.setIfInBounds_toArray, List.set_cons_zero, List.set_cons_succ]
          refine Rg.oneH (i := 26) rfl (by kernel_rfl) (fun K hK => ?_)
          go_simp
          refine hK.out _ _ hS3 ?_
          clear hK K
          try simp only [Act.put, List.setIfInBounds_toArray, List.set_cons_zero, List.set_cons_succ]
          refine Rg.oneH (i := 27) rfl (by kernel_rfl) (fun K hK => ?_)
          go_simp
          (with_reducible refine (HNw.out _ HB3.out).mono ?_)
          rintro e w5 ⟨rfl, hb5⟩
          have HB5 := Lib.hid (below_then HB3.out hb5)
          have P := hS3
          have hS4' := (show w5.cell? ⟨q, 0, none⟩ = some (.slice Ad an cd) ∧ w5.cell? ⟨q, 1, none⟩ = some (.int .i64 (f' : Nat)) from ⟨(hb5.cell (World.block_lt_of_cell? _ _ P.1)).trans P.1, (hb5.cell (World.block_lt_of_cell? _ _ P.2)).trans P.2⟩)
          clear hb5 P
          change K _ _
          have hS4 : (fun x => x.cell? ⟨q, 0, none⟩ = some (.slice Ad an cd) ∧ x.cell? ⟨q, 1, none⟩ = some (.int .i64 (f' : Nat))) w5 := hS4'
          refine hK.out _ _ hS4 ?_
          clear hK K
          try simp only [Act.put, List.setIfInBounds_toArray, List.set_cons_zero, List.set_cons_succ]
          refine Rg.oneH (i := 28) rfl (by kernel_rfl) (fun K hK => ?_)
          go_simp
          (with_reducible refine (HCk.out an (by have := HFw.out.a; have := HAn.out; omega) (by have := HAn.out; omega) _ HB5.out).mono ?_)
          rintro e w7 ⟨rfl, hb7⟩
          have HB7 := Lib.hid (below_then HB5.out hb7)
          have P := hS4
          have hS5' := (show w7.cell? ⟨q, 0, none⟩ = some (.slice Ad an cd) ∧ w7.cell? ⟨q, 1, none⟩ = some (.int .i64 (f' : Nat)) from ⟨(hb7.cell (World.block_lt_of_cell? _ _ P.1)).trans P.1, (hb7.cell (World.block_lt_of_cell? _ _ P.2)).trans P.2⟩)
          clear hb7 P
          change K _ _
          have hS5 : (fun x => x.cell? ⟨q, 0, none⟩ = some (.slice Ad an cd) ∧ x.cell? ⟨q, 1, none⟩ = some (.int .i64 (f' : Nat))) w7 := hS5'
          refine hK.out _ _ hS5 ?_
          clear hK K
          try simp only [Act.put, List.setIfInBounds_toArray, List.set_cons_zero, List.set_cons_succ]
          refine Rg.oneH (i := 29) rfl (by kernel_rfl) (fun K hK => ?_)
          go_simp
          refine hK.out _ _ hS5 ?_
          clear hK K
          try simp only [Act.put, List.setIfInBounds_toArray, List.set_cons_zero, List.set_cons_succ]
          refine Rg.oneH (i := 30) rfl (by kernel_rfl) (fun K hK => ?_)
          go_simp
          refine hK.out _ _ hS5 ?_
          clear hK K
          try simp only [Act.put, List.setIfInBounds_toArray, List.set_cons_zero, List.set_cons_succ]
          refine Rg.oneH (i := 31) rfl (by kernel_rfl) (fun K hK => ?_)
          go_simp
          refine hK.out _ _ hS5 ?_
          clear hK K
          try simp only [Act.put, List.setIfInBounds_toArray, List.set_cons_zero, List.set_cons_succ]
          refine Rg.takeH (i := 32) (v := ?_) rfl (by kernel_rfl) (fun _ _ _ h => h) hS5 (Or.inl ⟨by rfl, ?_⟩) ?_
          rotate_left
          · ((intro w hSw; (try dsimp only at hSw); go_simp) <;> (with_reducible rfl))
          try simp only [Act.put, List.setIfInBounds_toArray, List.set_cons_zero, List.set_cons_succ]
          refine Rg.oneH (i := 33) rfl (by kernel_rfl) (fun K hK => ?_)
          go_simp
          refine hK.out _ _ hS5 ?_
          clear hK K
          try simp only [Act.put, List.setIfInBounds_toArray, List.set_cons_zero, List.set_cons_succ]
          refine Rg.oneH (i := 34) rfl (by kernel_rfl) (fun K hK => ?_)
          go_simp
          (with_reducible refine (HFl.out w7 HB7.out).mono ?_)
          rintro e w8 ⟨rfl, rfl⟩
          change K _ _
          have hS6 : (fun x => x.cell? ⟨q, 0, none⟩ = some (.slice Ad an cd) ∧ x.cell? ⟨q, 1, none⟩ = some (.int .i64 (f' : Nat))) w8 := hS5'
          refine hK.out _ _ hS6 ?_
          clear hK K
          try simp only [Act.put, List.setIfInBounds_toArray, List.set_cons_zero, List.set_cons_succ]
          refine Rg.oneH (i := 35) rfl (by kernel_rfl) (fun K hK => ?_)
          go_simp
          (with_reducible refine (HCk.out f' (Nat.le_refl _) (by have := HFw.out.a; have := HAn.out; omega) _ HB7.out).mono ?_)
          rintro e w9 ⟨rfl, hb9⟩
          have HB9 := Lib.hid (below_then HB7.out hb9)
          have P := hS6
          have hS7' := (show w9.cell? ⟨q, 0, none⟩ = some (.slice Ad an cd) ∧ w9.cell? ⟨q, 1, none⟩ = some (.int .i64 (f' : Nat)) from ⟨(hb9.cell (World.block_lt_of_cell? _ _ P.1)).trans P.1, (hb9.cell (World.block_lt_of_cell? _ _ P.2)).trans P.2⟩)
          clear hb9 P
          change K _ _
          have hS7 : (fun x => x.cell? ⟨q, 0, none⟩ = some (.slice Ad an cd) ∧ x.cell? ⟨q, 1, none⟩ = some (.int .i64 (f' : Nat))) w9 := hS7'
          refine hK.out _ _ hS7 ?_
          clear hK K
          try simp only [Act.put, List.setIfInBounds_toArray, List.set_cons_zero, List.set_cons_succ]
          refine Rg.oneH (i := 36) rfl (by kernel_rfl) (fun K hK => ?_)
          go_simp
          refine hK.out _ _ hS7 ?_
          clear hK K
          try simp only [Act.put, List.setIfInBounds_toArray, List.set_cons_zero, List.set_cons_succ]
          refine Rg.oneH (i := 37) rfl (by kernel_rfl) (fun K hK => ?_)
          go_simp
          refine hK.out _ _ hS7 ?_
          clear hK K
          try simp only [Act.put, List.setIfInBounds_toArray, List.set_cons_zero, List.set_cons_succ]
          refine wpAnyH_done (by kernel_rfl) ?_ _
          have HBf := Lib.hid (show Both p q f' all' [old W] w9 from DhS.below HBo.out HB9.out)
          go_wp2_with fail
          go_roundg (n - (i + 1))
          case measure => omega
          case rel => exact ⟨i + 1, f', all', by omega, by omega, rfl, by go_num, HFw.out, HBf⟩
        · have h50i : (50 : Int) ≤ (i : Int) := by omega
          have hie : i = 50 := by omega
          subst hie
          clear hx hwo hbw
          go_wp2_with fail
          go_meet
          exact ⟨f, all, hfew, HBa⟩
      · have hin : i = n := by omega
        have hf50 : Few f all 50 := ⟨hfew.a, by have := hfew.b; omega, hfew.c⟩
        subst hin
        go_wp2_with fail
        go_meet
        exact ⟨f, all, hf50, HB⟩
  case rest =>
    obtain ⟨f, all, hfew, HB⟩ := hcut
    have HBc : Hid (DhS q f all (hisP p f all :: [old W]) wc) := HB
    obtain ⟨Ad, cd, vsd, _, hcd, hSd⟩ := HBc.out
    obtain ⟨Lv, vs, hF⟩ := Sat.hisF hSd.s3 hfew.a (by have := hfew.b; omega) hfew.c
    have HQ0 := Lib.hid (fun (x : World) (hb : Below wc.heap.size wc x) => show x.cell? ⟨q, 0, none⟩ = some (.slice Ad all.length cd) from (hSd.below hb).blk_.at_ 0 rfl)
    have HOl := Lib.hid (fun (x : World) (hb : Below wc.heap.size wc x) => (hSd.below hb).drop.drop.drop.drop.old_)
    have HNw := Lib.hid (vNow p f Lv vs all (World.drew wc) (hF.below (drew_below wc 1)))
    have HAw := Lib.hid (fun (x : World) (hb : Below wc.heap.size wc x) => lawake x (HE.out x (hSd.below hb).drop.drop.drop.drop))
    clear hSd hF HB HBc hfew HB0
    generalize all.length = an at *
    go_wp2_with fail
    refine Rg.beginH (fun x => x.cell? ⟨q, 0, none⟩ = some (.slice Ad an cd)) (by kernel_rfl) ?_
    have hS0 : (fun x => x.cell? ⟨q, 0, none⟩ = some (.slice Ad an cd)) (World.drew wc) := HQ0.out _ (drew_below wc 1)
    refine Rg.takeH (i := 0) (v := ?_) rfl (by kernel_rfl) (fun _ _ _ h => h) hS0 (Or.inl ⟨by rfl, ?_⟩) ?_
    rotate_left
    · ((intro w hSw; (try dsimp only at hSw); go_simp) <;> (with_reducible rfl))
    try simp only [Act.put, List.setIfInBounds_toArray, List.set_cons_zero, List.set_cons_succ]
    refine Rg.takeH (i := 2) (v := ?_) rfl (by kernel_rfl) (fun _ _ _ h => h) hS0 (Or.inl ⟨by rfl, ?_⟩) ?_
    rotate_left
    · ((intro w hSw; (try dsimp only at hSw); go_simp) <;> (with_reducible rfl))
    try simp only [Act.put, List.setIfInBounds_toArray, List.set_cons_zero, List.set_cons_succ]
    refine Rg.takeH (i := 3) (v := ?_) rfl (by kernel_rfl) (fun _ _ _ h => h) hS0 (Or.inl ⟨by rfl, ?_⟩) ?_
    rotate_left
    · ((intro w hSw; (try dsimp only at hSw); go_simp) <;> (with_reducible rfl))
    try simp only [Act.put, List.setIfInBounds_toArray, List.set_cons_zero, List.set_cons_succ]
    refine Rg.takeH (i := 4) (v := ?_) rfl (by kernel_rfl) (fun _ _ _ h => h) hS0 (Or.inl ⟨by rfl, ?_⟩) ?_
    rotate_left
    · ((intro w hSw; (try dsimp only at hSw); go_simp) <;> (with_reducible rfl))
    try simp only [Act.put, List.setIfInBounds_toArray, List.set_cons_zero, List.set_cons_succ]
    refine Rg.takeH (i := 5) (v := ?_) rfl (by kernel_rfl) (fun _ _ _ h => h) hS0 (Or.inl ⟨by rfl, ?_⟩) ?_
    rotate_left
    · ((intro w hSw; (try dsimp only at hSw); go_simp) <;> (with_reducible rfl))
    try simp only [Act.put, List.setIfInBounds_toArray, List.set_cons_zero, List.set_cons_succ]
    refine Rg.takeH (i := 6) (v := ?_) rfl (by kernel_rfl) (fun _ _ _ h => h) hS0 (Or.inl ⟨by rfl, ?_⟩) ?_
    rotate_left
    · ((intro w hSw; (try dsimp only at hSw); go_simp) <;> (with_reducible rfl))
    try simp only [Act.put, List.setIfInBounds_toArray, List.set_cons_zero, List.set_cons_succ]
    refine Rg.oneH (i := 1) rfl (by kernel_rfl) (fun K hK => ?_)
    go_simp
    (with_reducible refine HNw.out.mono ?_)
    rintro e w2 ⟨rfl, hb2⟩
    have HB2 := Lib.hid (below_then (drew_below wc 1) hb2)
    have hS1' := HQ0.out _ HB2.out
    clear hb2
    change K _ _
    have hS1 : (fun x => x.cell? ⟨q, 0, none⟩ = some (.slice Ad an cd)) w2 := hS1'
    refine hK.out _ _ hS1 ?_
    clear hK K
    try simp only [Act.put, List.setIfInBounds_toArray, List.set_cons_zero, List.set_cons_succ]
    refine Rg.oneH (i := 7) rfl (by kernel_rfl) (fun K hK => ?_)
    go_simp
    refine hK.out _ _ hS1 ?_
    clear hK K
    try simp only [Act.put, List.setIfInBounds_toArray, List.set_cons_zero, List.set_cons_succ]
    refine Rg.oneH (i := 8) rfl (by kernel_rfl) (fun K hK => ?_)
    go_simp
    refine hK.out _ _ hS1 ?_
    clear hK K
    try simp only [Act.put, List.setIfInBounds_toArray, List.set_cons_zero, List.set_cons_succ]
    refine Rg.oneH (i := 9) rfl (by kernel_rfl) (fun K hK => ?_)
    go_simp
    (with_reducible refine (HAw.out w2 HB2.out).mono ?_)
    rintro e w3 ⟨rfl, hb3⟩
    have HB3 := Lib.hid (HOl.out w3 (below_then HB2.out hb3))
    have hS2' := HQ0.out _ (below_then HB2.out hb3)
    clear hb3
    change K _ _
    have hS2 : (fun x => x.cell? ⟨q, 0, none⟩ = some (.slice Ad an cd)) w3 := hS2'
    refine hK.out _ _ hS2 ?_
    clear hK K
    try simp only [Act.put, List.setIfInBounds_toArray, List.set_cons_zero, List.set_cons_succ]
    refine Rg.oneH (i := 10) rfl (by kernel_rfl) (fun K hK => ?_)
    go_simp
    refine hK.out _ _ hS2 ?_
    clear hK K
    try simp only [Act.put, List.setIfInBounds_toArray, List.set_cons_zero, List.set_cons_succ]
    refine Rg.oneH (i := 11) rfl (by kernel_rfl) (fun K hK => ?_)
    go_simp
    refine hK.out _ _ hS2 ?_
    clear hK K
    try simp only [Act.put, List.setIfInBounds_toArray, List.set_cons_zero, List.set_cons_succ]
    refine wpAnyH_done (by kernel_rfl) ?_ _
    go_wp2_with fail
    exact HQ.out _ _ ⟨rfl, HB3.out⟩
end Go.Proofs.YtkfciofpbnlmeaaDoor
