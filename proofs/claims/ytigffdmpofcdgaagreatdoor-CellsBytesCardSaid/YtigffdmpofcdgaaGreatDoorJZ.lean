/- CellsBytes, walked. -/
import Derived.Test.YtigffdmpofcdgaaGreatDoorJY
import Derived.Test.YtigffdmpofcdgaaGreatDoorJL
import Derived.Test.YtigffdmpofcdgaaGreatDoorJK
section
set_option linter.unusedVariables false
set_option linter.unusedSimpArgs false
set_option maxRecDepth 100000
namespace Go.Proofs.YtigffdmpofcdgaaGreatDoor
open Go.Proofs.BL Go.Proofs.Peel Go.RowKit Go.Proofs.Ky

def LawPost (W : World) (e : Ending) (W' : World) : Prop := e = .returned (.bool true) ∧ Below W.heap.size W W'
theorem xor8 (x y : Int) : ∃ u : UInt8, bits BinOp.xor IntKind.u8 x y = (u.toNat : Int) := by
  obtain ⟨z, hz⟩ : ∃ z : Int, bits BinOp.xor IntKind.u8 x y = IntKind.u8.wrap z := ⟨_, rfl⟩
  refine ⟨UInt8.ofNat (z % 256).toNat, ?_⟩
  rw [hz]
  show z % 256 = _
  simp
  omega
theorem in64_of {x : Int} (h : in64 x) : -9223372036854775808 ≤ x ∧ x ≤ 9223372036854775807 := h
theorem cut_ok {l : List Cg} (hw : ∀ o ∈ l, in64 o.2.1) : (cutCs l).length ≤ 20 ∧ ∀ x ∈ cutCs l, CgOk x := by
  refine ⟨by rw [cutCs, List.length_map, List.length_take]; exact Nat.min_le_left _ _, fun x hx => ?_⟩
  obtain ⟨y, hy, rfl⟩ := List.mem_map.1 hx
  have hi := in64_of (hw y (List.mem_of_mem_take hy))
  refine ⟨?_, hi.1, hi.2⟩
  show (cut20 y.1).size ≤ 1000
  unfold cut20
  split
  · rw [ByteArray.size_extract]
    omega
  · omega
theorem chB_len1 {l : List Cg} (h : l.length ≤ 4096) (hok : ∀ x ∈ l, CgOk x) : (chB l).length ≤ l.length * 2000 + 9 := by
  have h1 : ∀ l : List Cg, (∀ x ∈ l, CgOk x) → ((l.map cgB).flatten).length ≤ l.length * 2000 := by
    intro l
    induction l with
    | nil => intro _; simp
    | cons x l ih =>
      intro hok
      have h2 := ih (fun y hy => hok y (by simp [hy]))
      have hx := hok x (by simp)
      have h3 := strB_len x.1 (by have := hx.1; omega)
      have h4 := natB_len (zig x.2.1) (zig_lt _ hx.2.1 hx.2.2)
      have h5 : (cgN x).length ≤ 9 := by unfold cgN; split; exact h4; exact Nat.zero_le _
      have h6 : (yesB x.2.2).length = 1 := rfl
      have := hx.1
      rw [List.map_cons, List.flatten_cons, List.length_append, cgB, List.length_append, List.length_append, List.length_cons, Nat.succ_mul]
      omega
  have h2 := h1 l hok
  have h3 := natB_len l.length (by omega)
  rw [chB, List.length_append]
  omega
theorem chB_len {l : List Cg} (h : l.length ≤ 4096) (hok : ∀ x ∈ l, CgOk x) : (chB l).length ≤ 1000000000 := by
  have := chB_len1 h hok
  have : l.length * 2000 ≤ 4096 * 2000 := Nat.mul_le_mul_right _ h
  omega
theorem DecPost.out_ {r : Option (List Cg)} {w w' : World} {e : Ending} (h : DecPost r w e w') : ∃ (l : List Cg) (A : Option Addr) (c : Nat) (k : Int), r.getD [] = l ∧ e = .returned (.tuple #[.slice A l.length c, .int .i64 k]) ∧ (if r.isSome then 0 else 6) = k ∧ l.length ≤ c ∧ RowsAt w' 3 A (rwC l) ∧ Below w.heap.size w w' := by
  obtain ⟨A, c, h1, h2, h3, h4⟩ := h
  exact ⟨_, A, c, _, rfl, h1, rfl, h2, h3, h4⟩
theorem RDecPost.out_ {r : Option (List Cg)} {w w' : World} {e : Ending} (h : RDecPost r w e w') {l : List Cg} (hl : r.getD [] = l) : ∃ (A : Option Addr) (c : Nat) (k : Bool), e = .returned (.tuple #[.slice A l.length c, .bool k]) ∧ r.isSome = k ∧ l.length ≤ c ∧ RowsAt w' 3 A (rwC l) ∧ Below w.heap.size w w' := by
  obtain ⟨A, c, h1, h2, h3, h4⟩ := h
  subst hl
  exact ⟨A, c, _, h1, rfl, h2, h3, h4⟩
theorem dec_small {bs : List UInt8} {l : List Cg} (h : (decC bs).getD [] = l) : l.length ≤ 4096 := by
  cases hd : decC bs with
  | none => rw [hd] at h; subst h; exact Nat.zero_le _
  | some l' => rw [hd] at h; subst h; exact (dec_one hd).2.1
set_option maxHeartbeats 16000000 in
theorem lawBytes (l : List Cg) (at_ : Int) (by_ : Int) (ot : List UInt8) (A0 : Option Addr) (c0 : Nat) (A3 : Option Addr) (c3 : Nat) (W : World) (hE : ErrT W)
    (hc0 : l.length ≤ c0) (hr0 : RowsAt W 3 A0 (rwC l)) (hm0 : l.length ≤ 9223372036854775807) (hw0 : ∀ o ∈ l, in64 o.2.1)
    (hat : in64 at_) (hc3 : ot.length ≤ c3) (hr3 : RowsAt W 1 A3 (bys ot)) (hm3 : c3 ≤ 9223372036854775807) :
    Calls Tryz.prog 3 #[.slice A0 l.length c0, .int .i64 at_, .int .u8 by_, .slice A3 ot.length c3] W (LawPost W) := by
  refine via fun Q hQ => ?_
  have HQ := Lib.hid hQ
  have HCh := Lib.hid (lchanges A0 c0 l W hr0 hm0 hc0)
  have HE := Lib.hid hE
  have hlc := cut_ok hw0
  generalize cutCs l = lc at *
  obtain ⟨hll, hok⟩ := hlc
  have HOK := Lib.hid hok
  have HLB1 := Lib.hid (show (chB lc).length ≤ 100000 from by have := chB_len1 (l := lc) (by omega) hok; omega)
  have HLB := Lib.hid (chB_len (l := lc) (by omega) hok)
  have hot : ∃ (n c : Nat) (o2 : List UInt8), o2.length = n ∧ n ≤ 200 ∧ n ≤ c ∧ RowsAt W 1 A3 (bys o2) ∧ ((ot.length ≤ 200 ∧ n = ot.length ∧ c = c3) ∨ (200 < ot.length ∧ n = 200 ∧ c = c3 ∧ ∃ b o, A3 = some ⟨b, o, none⟩)) := by
    by_cases h : ot.length ≤ 200
    · exact ⟨_, _, ot, rfl, h, hc3, hr3, .inl ⟨h, rfl, rfl⟩⟩
    · refine ⟨200, c3, ot.take 200, by rw [List.length_take]; omega, by omega, by omega, ?_, .inr ⟨by omega, rfl, rfl, ?_⟩⟩
      · have := hr3.take 200
        rwa [← List.map_take] at this
      · obtain ⟨x, xs, e⟩ := List.exists_cons_of_ne_nil (show ot ≠ [] from fun e => by rw [e] at h; simp at h)
        subst e
        obtain ⟨b, o, e, _⟩ := hr3 0 (enB x) rfl
        exact ⟨b, o, e⟩
  obtain ⟨n3, c3', o2, hn3, h200, hc3', hr3', hot⟩ := hot
  have HO2 := Lib.hid hr3'
  have HN3 := Lib.hid hn3
  clear hr3' hn3 hr3 hr0 hw0 hQ hE hok hm0
  go_enter Tryz.func3, Tryz.ntmps3
  go_wp2_with fail
  (with_reducible refine HCh.out.mono ?_)
  rintro e w1 ⟨v1, rfl, ho1, hb1⟩
  obtain ⟨A1, c1, e1, h1, _, hr1⟩ := ho1.slv'
  subst e1
  rw [rwC_len] at h1 ⊢
  have HB1 := Lib.hid hb1
  have HO := Lib.hid (lours A1 c1 lc w1 hr1 (by omega) h1)
  have HR1 := Lib.hid hr1
  have HA1 := Lib.hid (fun (a : Addr) (ha : A1 = some a) => (ho1.1.lt a.block (by rw [ha]; rfl)).2)
  clear ho1 hb1 hr1 HCh
  rcases hot with ⟨h2, hn, hcc⟩ | ⟨h2, hn, hcc, b3, o3, hA3⟩
  all_goals
    generalize ot.length = on at *
    subst hcc
    first
    | (subst hn
       have h2j : ¬ (200 : Int) < (n3 : Int) := by omega
       go_wp2_with fail)
    | (have h2j : (200 : Int) < (on : Int) := by omega
       rw [hA3]
       go_wp2_with fail
       rw [← hn, ← hA3]
       clear hn hA3)
    (with_reducible refine HO.out.mono ?_)
    rintro e w2 ⟨v2, rfl, ho2, hb2⟩
    obtain ⟨A2, c2, e2, h2', _, hr2⟩ := ho2.slv'
    subst e2
    rw [rwC_len] at h2' ⊢
    have HB2 := Lib.hid (below_then HB1.out hb2)
    have HS2 := Lib.hid hb2.size
    have HEn := Lib.hid (cEncode A2 c2 lc w2 hr2 (by omega) h2' HOK.out HLB.out)
    have HR2 := Lib.hid (HR1.out.below hb2)
    clear ho2 hb2 hr2 HO
    go_wp2_with fail
    (with_reducible refine HEn.out.mono ?_)
    rintro e w4 ⟨v9, rfl, ho9, hb9⟩
    obtain ⟨g9, c9, e9, _, hr9⟩ := own_bys ho9 (by simp [chB, natB])
    subst e9
    have HB4 := Lib.hid (below_then HB2.out hb9)
    have HR4 := Lib.hid (HR2.out.below hb9)
    have HCV := Lib.hid (fun (x : World) (h : Below w4.heap.size w4 x) => run_str (P := Tryz.prog) x 23 9 5 Tryz.underlying23 Tryz.underlying5 Tryz.underlying9 (some ⟨g9, 0, none⟩) (chB lc).length c9 (chB lc) rfl (hr9.below h))
    have HRE := Lib.hid (rEncode A1 c1 lc w4.drew (HR4.out.below (drew_below w4 1)) (by omega) h1 HOK.out HLB.out)
    have HG9 := Lib.hid (show W.heap.size ≤ g9 from Nat.le_trans HB2.out.size (ho9.1.lt g9 rfl).1)
    have HG1 := Lib.hid (show w1.heap.size ≤ g9 from Nat.le_trans HS2.out (ho9.1.lt g9 rfl).1)
    have HO9 := Lib.hid ho9
    clear ho9 hb9 HEn
    go_wp2_with fail
    refine Rg.beginH (fun x => (convert 23 9 (.slice (some ⟨g9, 0, none⟩) (chB lc).length c9)).run Tryz.prog x = .ok (.string ⟨(chB lc).toArray⟩) x) (by kernel_rfl) ?_
    have hS0 : (fun x => (convert 23 9 (.slice (some ⟨g9, 0, none⟩) (chB lc).length c9)).run Tryz.prog x = .ok (.string ⟨(chB lc).toArray⟩) x) (World.drew w4) := HCV.out _ (drew_below w4 1)
    refine Rg.takeH (i := 0) (v := ?_) rfl (by kernel_rfl) (fun _ _ _ h => h) hS0 (Or.inl ⟨by rfl, ?_⟩) ?_
    rotate_left
    · ((intro w hSw; (try dsimp only at hSw); go_simp) <;> (with_reducible rfl))
    try simp only [Act.put, List.setIfInBounds_toArray, List.set_cons_zero, List.set_cons_succ]
    refine Rg.takeH (i := 1) (v := ?_) rfl (by kernel_rfl) (fun _ _ _ h => h) hS0 (Or.inl ⟨by rfl, ?_⟩) ?_
    rotate_left
    · ((intro w hSw; (try dsimp only at hSw); go_simp) <;> (with_reducible rfl))
    try simp only [Act.put, List.setIfInBounds_toArray, List.set_cons_zero, List.set_cons_succ]
    refine Rg.takeH (i := 2) (v := ?_) rfl (by kernel_rfl) (fun _ _ _ h => h) hS0 (Or.inl ⟨by rfl, ?_⟩) ?_
    rotate_left
    · ((intro w hSw; (try dsimp only at hSw); go_simp) <;> (with_reducible rfl))
    try simp only [Act.put, List.setIfInBounds_toArray, List.set_cons_zero, List.set_cons_succ]
    refine Rg.oneH (i := 3) rfl (by kernel_rfl) (fun K hK => ?_)
    go_simp
    (with_reducible refine HRE.out.mono ?_)
    rintro e w5 ⟨v5, rfl, ho5, hb5⟩
    obtain ⟨g5, c5, e5, _, hr5⟩ := own_bys ho5 (by simp [chB, natB])
    subst e5
    have HB5 := Lib.hid (below_then (drew_below w4 1) hb5)
    have hcv5 := run_str (P := Tryz.prog) w5 23 9 5 Tryz.underlying23 Tryz.underlying5 Tryz.underlying9 (some ⟨g5, 0, none⟩) (chB lc).length c5 (chB lc) rfl (hr5)
    have hS1' := HCV.out _ HB5.out
    clear ho5 hb5 hr5
    change K _ _
    have hS1 : (fun x => (convert 23 9 (.slice (some ⟨g9, 0, none⟩) (chB lc).length c9)).run Tryz.prog x = .ok (.string ⟨(chB lc).toArray⟩) x) w5 := hS1'
    refine hK.out _ _ hS1 ?_
    clear hK K
    try simp only [Act.put, List.setIfInBounds_toArray, List.set_cons_zero, List.set_cons_succ]
    refine Rg.oneH (i := 4) rfl (by kernel_rfl) (fun K hK => ?_)
    go_simp
    refine hK.out _ _ hS1 ?_
    clear hK K
    try simp only [Act.put, List.setIfInBounds_toArray, List.set_cons_zero, List.set_cons_succ]
    refine Rg.oneH (i := 5) rfl (by kernel_rfl) (fun K hK => ?_)
    go_simp
    refine hK.out _ _ hS1 ?_
    clear hK K
    try simp only [Act.put, List.setIfInBounds_toArray, List.set_cons_zero, List.set_cons_succ]
    refine wpAnyH_done (by kernel_rfl) ?_ _
    have HO10 := Lib.hid (HO9.out.below HB5.out)
    have HB10 := Lib.hid (below_then HB4.out HB5.out)
    have HR10 := Lib.hid (HR4.out.below HB5.out)
    have hnb : 0 < (chB lc).length := by simp [chB, natB]
    have HNB := Lib.hid (show (bys (chB lc)).length = (chB lc).length from bys_len _)
    clear hS0 hS1 hS1' hcv5 HB5 HCV HRE HO9 HB4 HR4 HR2 HB2
    generalize hnl : (chB lc).length = nb at *
    have HNb := Lib.hid hnl
    clear hnl
    have hnbb : ((nb : Int) == 0) = false := int_diff (by omega)
    have hnb1 : (0 : Int) < (nb : Int) := by omega
    have hnb2 : (nb : Int) ≤ 1000000000 := by have := HLB.out; omega
    have z1 : -(nb : Int) < at_.tmod nb := by have := Int.tmod_lt_of_pos (-at_) hnb1; rw [Int.neg_tmod] at this; omega
    have z2 : at_.tmod nb < nb := Int.tmod_lt_of_pos at_ hnb1
    generalize hz : at_.tmod nb = z at z1 z2
    have hj : (∃ j : Nat, z = -(j : Int) ∧ -(j : Int) < 0 ∧ j < nb) ∨ (∃ j : Nat, z = (j : Int) ∧ ¬ (j : Int) < 0 ∧ j < nb) := by
      by_cases h : z < 0
      · exact .inl ⟨(-z).toNat, by omega, by omega, by omega⟩
      · exact .inr ⟨z.toNat, by omega, by omega, by omega⟩
    have HHJ : ∀ j : Nat, j < nb → ∃ x : UInt8, (chB lc)[j]? = some x := fun j h => ⟨_, List.getElem?_eq_getElem (by rw [HNb.out]; exact h)⟩
    rcases hj with ⟨j, rfl, hj0, hjn⟩ | ⟨j, rfl, hj0, hjn⟩
    all_goals
      obtain ⟨x, hx⟩ := HHJ j hjn
      have hrow : (bys (chB lc))[j]? = some (enB x) := by rw [bys, List.getElem?_map, hx]; rfl
      obtain ⟨k1, k2⟩ := own_at HO10.out hrow 0 rfl
      rw [Nat.mul_one, Nat.add_zero] at k1 k2
      obtain ⟨y, hy⟩ := xor8 x.toNat by_
      have hS := own_set HO10.out hrow 0 (by decide) (.int .u8 y.toNat)
      rw [Nat.mul_one, Nat.add_zero] at hS
      have hjI : (j : Int) < (nb : Int) := by omega
      have hb11 := below_fr HB10.out (show W.heap.size ≤ g9 from HG9.out) (fr_set w5 g9 j (.int .u8 y.toNat))
      have hf11 := fr_set w5 g9 j (.int .u8 y.toNat)
      clear HHJ
      go_wp2_with fail
      have HR6 := HR10.out.fr hf11 (fun a ha h => by have h : a.block = g9 := h; have := HA1.out a ha; have := HG1.out; omega)
      have HO6 := Lib.hid (show Own (w5.setCell ⟨g9, j, none⟩ (.int .u8 y.toNat)) w2.heap.size 5 1 (.slice (some ⟨g9, 0, none⟩) nb c9) (bys ((chB lc).set j y)) from by rw [bys, List.map_set]; exact hS)
      have HP6 := Lib.hid (HO2.out.below hb11)
      have HB6 := Lib.hid hb11
      have HRE := Lib.hid (rEncode A1 c1 lc _ HR6 (by omega) h1 HOK.out (by rw [HNb.out]; exact HLB.out))
      clear hb11 hf11 HR6 hS k1 k2 hrow hx hy HO10 HB10 HR10 HR1
      generalize w5.setCell ⟨g9, j, none⟩ (.int .u8 y.toNat) = w6 at *
      (with_reducible refine HRE.out.mono ?_)
      rintro e w7 ⟨v7, rfl, ho7, hb7⟩
      obtain ⟨g7, c7, e7, h7, hr7⟩ := own_bys ho7 (by simp [chB, natB])
      rw [HNb.out] at e7
      subst e7
      have hal := (Below.refl w7.heap.size w7).alloc (Nat.le_refl _) (.cells #[.slice (some ⟨g7, 0, none⟩) nb c7, .slice (some ⟨g9, 0, none⟩) nb c9, .slice A3 n3 c3'] 23)
      obtain ⟨A9', c9', e9', h9', _, hr9'⟩ := HO6.out.slv'
      have FX : ∀ i : Nat, i < 3 → ∃ (bs : List UInt8) (A : Option Addr) (c : Nat), (w7.alloc (.cells #[.slice (some ⟨g7, 0, none⟩) nb c7, .slice (some ⟨g9, 0, none⟩) nb c9, .slice A3 n3 c3'] 23)).cell? ⟨w7.heap.size, i, none⟩ = some (.slice A bs.length c) ∧ bs.length ≤ c ∧ RowsAt (w7.alloc (.cells #[.slice (some ⟨g7, 0, none⟩) nb c7, .slice (some ⟨g9, 0, none⟩) nb c9, .slice A3 n3 c3'] 23)) 1 A (bys bs) ∧ bs.length ≤ 1000000 := by
        have hB := Blk.new w7 #[.slice (some ⟨g7, 0, none⟩) nb c7, .slice (some ⟨g9, 0, none⟩) nb c9, .slice A3 n3 c3'] 23
        have hlb := HLB1.out
        intro i hi
        match i, hi with
        | 0, _ => exact ⟨chB lc, some ⟨g7, 0, none⟩, c7, by rw [HNb.out]; exact hB.at_ 0 rfl, h7, hr7.below hal, by rw [HNb.out]; omega⟩
        | 1, _ =>
          injection e9' with e1 e2 e3
          subst e1 e3
          rw [bys_len] at e2 h9'
          refine ⟨(chB lc).set j y, some ⟨g9, 0, none⟩, c9, ?_, h9', (hr9'.below hb7).below hal, by rw [List.length_set, HNb.out]; omega⟩
          rw [← e2]
          exact hB.at_ 1 rfl
        | 2, _ => exact ⟨o2, A3, c3', by rw [HN3.out]; exact hB.at_ 2 rfl, by rw [HN3.out]; exact hc3', (HP6.out.below hb7).below hal, by rw [HN3.out]; omega⟩
      have HFX := Lib.hid FX
      have HBL := Lib.hid (below_then (below_then HB6.out hb7) hal)
      clear FX hal ho7 hb7 hr7 e9' hr9' HO6 HP6 HB6 HRE
      go_wp2_with fail
      generalize w7.heap.size = tL at *
      generalize w7.alloc (.cells #[.slice (some ⟨g7, 0, none⟩) nb c7, .slice (some ⟨g9, 0, none⟩) nb c9, .slice A3 n3 c3'] 23) = wL at *
      go_loopg [56] 3 (fun g x56 ws => ∃ i : Nat, i ≤ 3 ∧ g = 3 - i ∧ x56 = .int .i64 i ∧ Hid (Below wL.heap.size wL ws))
      case atStart => exact ⟨0, by decide, rfl, rfl, Lib.hid (Below.refl _ _)⟩
      case round =>
        obtain ⟨i, hi, rfl, rfl, HBw⟩ := hrel
        by_cases hlt : i < 3
        · have hlti : (i : Int) < 3 := by omega
          obtain ⟨bs, A, c, k0, hx1, hx2, hx3⟩ := HFX.out i hlt
          have k0 := (HBw.out.cell (World.block_lt_of_cell? _ _ k0)).trans k0
          have hxr := hx2.below HBw.out
          have HWw := Lib.hid (below_then HBL.out HBw.out)
          have HDc := Lib.hid (cDecode A c bs wr hx1 hxr (HE.out.below HWw.out) hx3)
          have HXr := Lib.hid hxr
          have HX1 := Lib.hid hx1
          have HX3 := Lib.hid hx3
          clear hx1 hx2 hx3 hxr
          generalize hbn : bs.length = bn at *
          have HBn := Lib.hid hbn
          clear hbn
          go_wp2_with fail
          (with_reducible refine HDc.out.mono ?_)
          rintro e w8 hd8
          obtain ⟨lg, A8, c8, k8, hlg, rfl, hk8, h8, hr8, hb8⟩ := hd8.out_
          have HK8 := Lib.hid hk8
          clear hk8
          have hls := dec_small hlg
          have hxr8 := HXr.out.below hb8
          have HRd := Lib.hid (show Calls Tryz.prog 9 #[.slice A bn c] w8 (RDecPost (decC bs) w8) from by rw [← HBn.out]; exact rDecode A c bs w8 (by rw [HBn.out]; exact HX1.out) hxr8 (by rw [HBn.out]; exact HX3.out))
          have HR8 := Lib.hid hr8
          have HB8 := Lib.hid (below_then HBw.out hb8)
          have HX8 := Lib.hid hxr8
          have HLG := Lib.hid hlg
          clear hd8 hr8 hb8 HDc HXr hxr8
          go_wp2_with fail
          (with_reducible refine HRd.out.mono ?_)
          rintro e w9 hd9
          obtain ⟨A9, c9'', k9, rfl, hk9, h9, hr9, hb9⟩ := hd9.out_ hlg
          have HK9 := Lib.hid hk9
          clear hk9
          have HP1 := Lib.hid (lplain A8 c8 lg w9.drew ((HR8.out.below hb9).below (drew_below w9 1)) (by omega) h8)
          have HR9 := Lib.hid hr9
          have HR89 := Lib.hid (HR8.out.below hb9)
          have HB9 := Lib.hid (below_then HB8.out hb9)
          have HX9 := Lib.hid (HX8.out.below hb9)
          clear hd9 hr9 hb9 HRd HR8 HB8 HX8 hlg
          cases hD : decC bs with
          | none =>
            have e8 : k8 = 6 := by rw [← HK8.out, hD]; rfl
            have e9 : k9 = false := by rw [← HK9.out, hD]; rfl
            subst e8 e9
            go_wp2_with fail
            refine Rg.beginH (fun x => True) (by kernel_rfl) ?_
            have hS0 : (fun x => True) (World.drew w9) := trivial
            refine Rg.takeH (i := 0) (v := ?_) rfl (by kernel_rfl) (fun _ _ _ h => h) hS0 (Or.inl ⟨by rfl, ?_⟩) ?_
            rotate_left
            · ((intro w hSw; (try dsimp only at hSw); go_simp) <;> (with_reducible rfl))
            try simp only [Act.put, List.setIfInBounds_toArray, List.set_cons_zero, List.set_cons_succ]
            refine Rg.takeH (i := 1) (v := ?_) rfl (by kernel_rfl) (fun _ _ _ h => h) hS0 (Or.inl ⟨by rfl, ?_⟩) ?_
            rotate_left
            · ((intro w hSw; (try dsimp only at hSw); go_simp) <;> (with_reducible rfl))
            try simp only [Act.put, List.setIfInBounds_toArray, List.set_cons_zero, List.set_cons_succ]
            refine Rg.takeH (i := 2) (v := ?_) rfl (by kernel_rfl) (fun _ _ _ h => h) hS0 (Or.inl ⟨by rfl, ?_⟩) ?_
            rotate_left
            · ((intro w hSw; (try dsimp only at hSw); go_simp) <;> (with_reducible rfl))
            try simp only [Act.put, List.setIfInBounds_toArray, List.set_cons_zero, List.set_cons_succ]
            refine Rg.takeH (i := 3) (v := ?_) rfl (by kernel_rfl) (fun _ _ _ h => h) hS0 (Or.inl ⟨by rfl, ?_⟩) ?_
            rotate_left
            · ((intro w hSw; (try dsimp only at hSw); go_simp) <;> (with_reducible rfl))
            try simp only [Act.put, List.setIfInBounds_toArray, List.set_cons_zero, List.set_cons_succ]
            refine Rg.takeH (i := 4) (v := ?_) rfl (by kernel_rfl) (fun _ _ _ h => h) hS0 (Or.inl ⟨by rfl, ?_⟩) ?_
            rotate_left
            · ((intro w hSw; (try dsimp only at hSw); go_simp) <;> (with_reducible rfl))
            try simp only [Act.put, List.setIfInBounds_toArray, List.set_cons_zero, List.set_cons_succ]
            refine Rg.takeH (i := 5) (v := ?_) rfl (by kernel_rfl) (fun _ _ _ h => h) hS0 (Or.inl ⟨by rfl, ?_⟩) ?_
            rotate_left
            · ((intro w hSw; (try dsimp only at hSw); go_simp) <;> (with_reducible rfl))
            try simp only [Act.put, List.setIfInBounds_toArray, List.set_cons_zero, List.set_cons_succ]
            refine Rg.takeH (i := 6) (v := ?_) rfl (by kernel_rfl) (fun _ _ _ h => h) hS0 (Or.inl ⟨by rfl, ?_⟩) ?_
            rotate_left
            · ((intro w hSw; (try dsimp only at hSw); go_simp) <;> (with_reducible rfl))
            try simp only [Act.put, List.setIfInBounds_toArray, List.set_cons_zero, List.set_cons_succ]
            refine Rg.takeH (i := 7) (v := ?_) rfl (by kernel_rfl) (fun _ _ _ h => h) hS0 (Or.inl ⟨by rfl, ?_⟩) ?_
            rotate_left
            · ((intro w hSw; (try dsimp only at hSw); go_simp) <;> (with_reducible rfl))
            try simp only [Act.put, List.setIfInBounds_toArray, List.set_cons_zero, List.set_cons_succ]
            refine Rg.takeH (i := 8) (v := ?_) rfl (by kernel_rfl) (fun _ _ _ h => h) hS0 (Or.inl ⟨by rfl, ?_⟩) ?_
            rotate_left
            · ((intro w hSw; (try dsimp only at hSw); go_simp) <;> (with_reducible rfl))
            try simp only [Act.put, List.setIfInBounds_toArray, List.set_cons_zero, List.set_cons_succ]
            refine Rg.takeH (i := 9) (v := ?_) rfl (by kernel_rfl) (fun _ _ _ h => h) hS0 (Or.inl ⟨by rfl, ?_⟩) ?_
            rotate_left
            · ((intro w hSw; (try dsimp only at hSw); go_simp) <;> (with_reducible rfl))
            try simp only [Act.put, List.setIfInBounds_toArray, List.set_cons_zero, List.set_cons_succ]
            refine Rg.takeH (i := 10) (v := ?_) rfl (by kernel_rfl) (fun _ _ _ h => h) hS0 (Or.inl ⟨by rfl, ?_⟩) ?_
            rotate_left
            · ((intro w hSw; (try dsimp only at hSw); go_simp) <;> (with_reducible rfl))
            try simp only [Act.put, List.setIfInBounds_toArray, List.set_cons_zero, List.set_cons_succ]
            refine Rg.takeH (i := 11) (v := ?_) rfl (by kernel_rfl) (fun _ _ _ h => h) hS0 (Or.inl ⟨by rfl, ?_⟩) ?_
            rotate_left
            · ((intro w hSw; (try dsimp only at hSw); go_simp) <;> (with_reducible rfl))
            try simp only [Act.put, List.setIfInBounds_toArray, List.set_cons_zero, List.set_cons_succ]
            refine Rg.takeH (i := 12) (v := ?_) rfl (by kernel_rfl) (fun _ _ _ h => h) hS0 (Or.inl ⟨by rfl, ?_⟩) ?_
            rotate_left
            · ((intro w hSw; (try dsimp only at hSw); go_simp) <;> (with_reducible rfl))
            try simp only [Act.put, List.setIfInBounds_toArray, List.set_cons_zero, List.set_cons_succ]
            refine Rg.takeH (i := 13) (v := ?_) rfl (by kernel_rfl) (fun _ _ _ h => h) hS0 (Or.inl ⟨by rfl, ?_⟩) ?_
            rotate_left
            · ((intro w hSw; (try dsimp only at hSw); go_simp) <;> (with_reducible rfl))
            try simp only [Act.put, List.setIfInBounds_toArray, List.set_cons_zero, List.set_cons_succ]
            refine Rg.takeH (i := 15) (v := ?_) rfl (by kernel_rfl) (fun _ _ _ h => h) hS0 (Or.inl ⟨by rfl, ?_⟩) ?_
            rotate_left
            · ((intro w hSw; (try dsimp only at hSw); go_simp) <;> (with_reducible rfl))
            try simp only [Act.put, List.setIfInBounds_toArray, List.set_cons_zero, List.set_cons_succ]
            refine Rg.oneH (i := 14) rfl (by kernel_rfl) (fun K hK => ?_)
            go_simp
            (with_reducible refine HP1.out.mono ?_)
            rintro e x1 ⟨y1, rfl, hoy, hby⟩
            obtain ⟨Ay, cy, ey, hy1, _, hry⟩ := hoy.slv'
            subst ey
            rw [rwC_len] at hy1 ⊢
            have hbx := below_then (drew_below w9 1) hby
            have HP2 := Lib.hid (lalike Ay A9 cy c9'' lg x1 hry (HR9.out.below hbx) (by omega) hy1 h9)
            have HBx := Lib.hid hbx
            clear hoy hby hry hbx
            change K _ _
            have hS1 : (fun x => True) x1 := trivial
            refine hK.out _ _ hS1 ?_
            clear hK K
            try simp only [Act.put, List.setIfInBounds_toArray, List.set_cons_zero, List.set_cons_succ]
            refine Rg.oneH (i := 16) rfl (by kernel_rfl) (fun K hK => ?_)
            go_simp
            (with_reducible refine HP2.out.mono ?_)
            rintro e x2 ⟨rfl, hby⟩
            have HBy := Lib.hid (below_then HBx.out hby)
            clear hby
            change K _ _
            have hS2 : (fun x => True) x2 := trivial
            refine hK.out _ _ hS2 ?_
            clear hK K
            try simp only [Act.put, List.setIfInBounds_toArray, List.set_cons_zero, List.set_cons_succ]
            refine Rg.oneH (i := 17) rfl (by kernel_rfl) (fun K hK => ?_)
            go_simp
            refine hK.out _ _ hS2 ?_
            clear hK K
            try simp only [Act.put, List.setIfInBounds_toArray, List.set_cons_zero, List.set_cons_succ]
            refine Rg.oneH (i := 18) rfl (by kernel_rfl) (fun K hK => ?_)
            go_simp
            refine hK.out _ _ hS2 ?_
            clear hK K
            try simp only [Act.put, List.setIfInBounds_toArray, List.set_cons_zero, List.set_cons_succ]
            refine Rg.oneH (i := 19) rfl (by kernel_rfl) (fun K hK => ?_)
            go_simp
            refine hK.out _ _ hS2 ?_
            clear hK K
            try simp only [Act.put, List.setIfInBounds_toArray, List.set_cons_zero, List.set_cons_succ]
            refine Rg.oneH (i := 20) rfl (by kernel_rfl) (fun K hK => ?_)
            go_simp
            refine hK.out _ _ hS2 ?_
            clear hK K
            try simp only [Act.put, List.setIfInBounds_toArray, List.set_cons_zero, List.set_cons_succ]
            refine Rg.oneH (i := 21) rfl (by kernel_rfl) (fun K hK => ?_)
            go_simp
            refine hK.out _ _ hS2 ?_
            clear hK K
            try simp only [Act.put, List.setIfInBounds_toArray, List.set_cons_zero, List.set_cons_succ]
            refine Rg.takeH (i := 22) (v := undef) rfl (by kernel_rfl) (fun _ _ _ h => h) hS2 (Or.inr ⟨by rfl, rfl⟩) ?_
            try simp only [Act.put, List.setIfInBounds_toArray, List.set_cons_zero, List.set_cons_succ]
            refine Rg.takeH (i := 23) (v := undef) rfl (by kernel_rfl) (fun _ _ _ h => h) hS2 (Or.inr ⟨by rfl, rfl⟩) ?_
            try simp only [Act.put, List.setIfInBounds_toArray, List.set_cons_zero, List.set_cons_succ]
            refine Rg.takeH (i := 24) (v := undef) rfl (by kernel_rfl) (fun _ _ _ h => h) hS2 (Or.inr ⟨by rfl, rfl⟩) ?_
            try simp only [Act.put, List.setIfInBounds_toArray, List.set_cons_zero, List.set_cons_succ]
            refine Rg.oneH (i := 25) rfl (by kernel_rfl) (fun K hK => ?_)
            go_simp
            refine hK.out _ _ hS2 ?_
            clear hK K
            try simp only [Act.put, List.setIfInBounds_toArray, List.set_cons_zero, List.set_cons_succ]
            refine Rg.oneH (i := 26) rfl (by kernel_rfl) (fun K hK => ?_)
            go_simp
            refine hK.out _ _ hS2 ?_
            clear hK K
            try simp only [Act.put, List.setIfInBounds_toArray, List.set_cons_zero, List.set_cons_succ]
            refine Rg.oneH (i := 27) rfl (by kernel_rfl) (fun K hK => ?_)
            go_simp
            refine hK.out _ _ hS2 ?_
            clear hK K
            try simp only [Act.put, List.setIfInBounds_toArray, List.set_cons_zero, List.set_cons_succ]
            refine Rg.oneH (i := 28) rfl (by kernel_rfl) (fun K hK => ?_)
            go_simp
            refine hK.out _ _ hS2 ?_
            clear hK K
            try simp only [Act.put, List.setIfInBounds_toArray, List.set_cons_zero, List.set_cons_succ]
            refine Rg.oneH (i := 29) rfl (by kernel_rfl) (fun K hK => ?_)
            go_simp
            refine hK.out _ _ hS2 ?_
            clear hK K
            try simp only [Act.put, List.setIfInBounds_toArray, List.set_cons_zero, List.set_cons_succ]
            refine wpAnyH_done (by kernel_rfl) ?_ _
            go_wp2_with fail
            go_roundg (3 - (i + 1))
            case measure => omega
            case rel => exact ⟨i + 1, by omega, rfl, by go_num, Lib.hid (below_then HB9.out HBy.out)⟩
          | some l' =>
            have e8 : k8 = 0 := by rw [← HK8.out, hD]; rfl
            have e9 : k9 = true := by rw [← HK9.out, hD]; rfl
            subst e8 e9
            have HCX := Lib.hid (fun (x : World) (h : Below w9.heap.size w9 x) => run_str (P := Tryz.prog) x 23 9 5 Tryz.underlying23 Tryz.underlying5 Tryz.underlying9 A bn c bs HBn.out.symm (HX9.out.below h))
            have e10 : lg = l' := by rw [← HLG.out, hD]; rfl
            subst e10
            obtain ⟨d1, d2, d3⟩ := dec_one hD
            go_wp2_with fail
            refine Rg.beginH (fun x => (convert 23 9 (.slice A bn c)).run Tryz.prog x = .ok (.string ⟨(bs).toArray⟩) x) (by kernel_rfl) ?_
            have hS0 : (fun x => (convert 23 9 (.slice A bn c)).run Tryz.prog x = .ok (.string ⟨(bs).toArray⟩) x) (World.drew w9) := HCX.out _ (drew_below w9 1)
            refine Rg.takeH (i := 0) (v := ?_) rfl (by kernel_rfl) (fun _ _ _ h => h) hS0 (Or.inl ⟨by rfl, ?_⟩) ?_
            rotate_left
            · ((intro w hSw; (try dsimp only at hSw); go_simp) <;> (with_reducible rfl))
            try simp only [Act.put, List.setIfInBounds_toArray, List.set_cons_zero, List.set_cons_succ]
            refine Rg.takeH (i := 1) (v := ?_) rfl (by kernel_rfl) (fun _ _ _ h => h) hS0 (Or.inl ⟨by rfl, ?_⟩) ?_
            rotate_left
            · ((intro w hSw; (try dsimp only at hSw); go_simp) <;> (with_reducible rfl))
            try simp only [Act.put, List.setIfInBounds_toArray, List.set_cons_zero, List.set_cons_succ]
            refine Rg.takeH (i := 2) (v := ?_) rfl (by kernel_rfl) (fun _ _ _ h => h) hS0 (Or.inl ⟨by rfl, ?_⟩) ?_
            rotate_left
            · ((intro w hSw; (try dsimp only at hSw); go_simp) <;> (with_reducible rfl))
            try simp only [Act.put, List.setIfInBounds_toArray, List.set_cons_zero, List.set_cons_succ]
            refine Rg.takeH (i := 3) (v := ?_) rfl (by kernel_rfl) (fun _ _ _ h => h) hS0 (Or.inl ⟨by rfl, ?_⟩) ?_
            rotate_left
            · ((intro w hSw; (try dsimp only at hSw); go_simp) <;> (with_reducible rfl))
            try simp only [Act.put, List.setIfInBounds_toArray, List.set_cons_zero, List.set_cons_succ]
            refine Rg.takeH (i := 4) (v := ?_) rfl (by kernel_rfl) (fun _ _ _ h => h) hS0 (Or.inl ⟨by rfl, ?_⟩) ?_
            rotate_left
            · ((intro w hSw; (try dsimp only at hSw); go_simp) <;> (with_reducible rfl))
            try simp only [Act.put, List.setIfInBounds_toArray, List.set_cons_zero, List.set_cons_succ]
            refine Rg.takeH (i := 5) (v := ?_) rfl (by kernel_rfl) (fun _ _ _ h => h) hS0 (Or.inl ⟨by rfl, ?_⟩) ?_
            rotate_left
            · ((intro w hSw; (try dsimp only at hSw); go_simp) <;> (with_reducible rfl))
            try simp only [Act.put, List.setIfInBounds_toArray, List.set_cons_zero, List.set_cons_succ]
            refine Rg.takeH (i := 6) (v := ?_) rfl (by kernel_rfl) (fun _ _ _ h => h) hS0 (Or.inl ⟨by rfl, ?_⟩) ?_
            rotate_left
            · ((intro w hSw; (try dsimp only at hSw); go_simp) <;> (with_reducible rfl))
            try simp only [Act.put, List.setIfInBounds_toArray, List.set_cons_zero, List.set_cons_succ]
            refine Rg.takeH (i := 7) (v := ?_) rfl (by kernel_rfl) (fun _ _ _ h => h) hS0 (Or.inl ⟨by rfl, ?_⟩) ?_
            rotate_left
            · ((intro w hSw; (try dsimp only at hSw); go_simp) <;> (with_reducible rfl))
            try simp only [Act.put, List.setIfInBounds_toArray, List.set_cons_zero, List.set_cons_succ]
            refine Rg.takeH (i := 8) (v := undef) rfl (by kernel_rfl) (fun _ _ _ h => h) hS0 (Or.inr ⟨by rfl, rfl⟩) ?_
            try simp only [Act.put, List.setIfInBounds_toArray, List.set_cons_zero, List.set_cons_succ]
            refine Rg.takeH (i := 9) (v := undef) rfl (by kernel_rfl) (fun _ _ _ h => h) hS0 (Or.inr ⟨by rfl, rfl⟩) ?_
            try simp only [Act.put, List.setIfInBounds_toArray, List.set_cons_zero, List.set_cons_succ]
            refine Rg.takeH (i := 10) (v := ?_) rfl (by kernel_rfl) (fun _ _ _ h => h) hS0 (Or.inl ⟨by rfl, ?_⟩) ?_
            rotate_left
            · ((intro w hSw; (try dsimp only at hSw); go_simp) <;> (with_reducible rfl))
            try simp only [Act.put, List.setIfInBounds_toArray, List.set_cons_zero, List.set_cons_succ]
            refine Rg.takeH (i := 11) (v := ?_) rfl (by kernel_rfl) (fun _ _ _ h => h) hS0 (Or.inl ⟨by rfl, ?_⟩) ?_
            rotate_left
            · ((intro w hSw; (try dsimp only at hSw); go_simp) <;> (with_reducible rfl))
            try simp only [Act.put, List.setIfInBounds_toArray, List.set_cons_zero, List.set_cons_succ]
            refine Rg.takeH (i := 12) (v := ?_) rfl (by kernel_rfl) (fun _ _ _ h => h) hS0 (Or.inl ⟨by rfl, ?_⟩) ?_
            rotate_left
            · ((intro w hSw; (try dsimp only at hSw); go_simp) <;> (with_reducible rfl))
            try simp only [Act.put, List.setIfInBounds_toArray, List.set_cons_zero, List.set_cons_succ]
            refine Rg.takeH (i := 13) (v := ?_) rfl (by kernel_rfl) (fun _ _ _ h => h) hS0 (Or.inl ⟨by rfl, ?_⟩) ?_
            rotate_left
            · ((intro w hSw; (try dsimp only at hSw); go_simp) <;> (with_reducible rfl))
            try simp only [Act.put, List.setIfInBounds_toArray, List.set_cons_zero, List.set_cons_succ]
            refine Rg.takeH (i := 15) (v := ?_) rfl (by kernel_rfl) (fun _ _ _ h => h) hS0 (Or.inl ⟨by rfl, ?_⟩) ?_
            rotate_left
            · ((intro w hSw; (try dsimp only at hSw); go_simp) <;> (with_reducible rfl))
            try simp only [Act.put, List.setIfInBounds_toArray, List.set_cons_zero, List.set_cons_succ]
            refine Rg.oneH (i := 14) rfl (by kernel_rfl) (fun K hK => ?_)
            go_simp
            (with_reducible refine HP1.out.mono ?_)
            rintro e x1 ⟨y1, rfl, hoy, hby⟩
            obtain ⟨Ay, cy, ey, hy1, _, hry⟩ := hoy.slv'
            subst ey
            rw [rwC_len] at hy1 ⊢
            have hbx := below_then (drew_below w9 1) hby
            have HP2 := Lib.hid (lalike Ay A9 cy c9'' lg x1 hry (HR9.out.below hbx) (by omega) hy1 h9)
            have HBx := Lib.hid hbx
            clear hoy hby hry hbx
            change K _ _
            have hS1 : (fun x => (convert 23 9 (.slice A bn c)).run Tryz.prog x = .ok (.string ⟨(bs).toArray⟩) x) x1 := HCX.out _ HBx.out
            refine hK.out _ _ hS1 ?_
            clear hK K
            try simp only [Act.put, List.setIfInBounds_toArray, List.set_cons_zero, List.set_cons_succ]
            refine Rg.oneH (i := 16) rfl (by kernel_rfl) (fun K hK => ?_)
            go_simp
            (with_reducible refine HP2.out.mono ?_)
            rintro e x2 ⟨rfl, hby⟩
            have HBy := Lib.hid (below_then HBx.out hby)
            clear hby
            have HEx := Lib.hid (cEncode A8 c8 lg x2 (HR89.out.below HBy.out) (by omega) h8 d3 (chB_len d2 d3))
            change K _ _
            have hS2 : (fun x => (convert 23 9 (.slice A bn c)).run Tryz.prog x = .ok (.string ⟨(bs).toArray⟩) x) x2 := HCX.out _ HBy.out
            refine hK.out _ _ hS2 ?_
            clear hK K
            try simp only [Act.put, List.setIfInBounds_toArray, List.set_cons_zero, List.set_cons_succ]
            refine Rg.oneH (i := 17) rfl (by kernel_rfl) (fun K hK => ?_)
            go_simp
            refine hK.out _ _ hS2 ?_
            clear hK K
            try simp only [Act.put, List.setIfInBounds_toArray, List.set_cons_zero, List.set_cons_succ]
            refine Rg.oneH (i := 18) rfl (by kernel_rfl) (fun K hK => ?_)
            go_simp
            refine hK.out _ _ hS2 ?_
            clear hK K
            try simp only [Act.put, List.setIfInBounds_toArray, List.set_cons_zero, List.set_cons_succ]
            refine Rg.oneH (i := 19) rfl (by kernel_rfl) (fun K hK => ?_)
            go_simp
            refine hK.out _ _ hS2 ?_
            clear hK K
            try simp only [Act.put, List.setIfInBounds_toArray, List.set_cons_zero, List.set_cons_succ]
            refine Rg.oneH (i := 20) rfl (by kernel_rfl) (fun K hK => ?_)
            go_simp
            refine hK.out _ _ hS2 ?_
            clear hK K
            try simp only [Act.put, List.setIfInBounds_toArray, List.set_cons_zero, List.set_cons_succ]
            refine Rg.oneH (i := 21) rfl (by kernel_rfl) (fun K hK => ?_)
            go_simp
            refine hK.out _ _ hS2 ?_
            clear hK K
            try simp only [Act.put, List.setIfInBounds_toArray, List.set_cons_zero, List.set_cons_succ]
            refine Rg.takeH (i := 22) (v := ?_) rfl (by kernel_rfl) (fun _ _ _ h => h) hS2 (Or.inl ⟨by rfl, ?_⟩) ?_
            rotate_left
            · ((intro w hSw; (try dsimp only at hSw); go_simp) <;> (with_reducible rfl))
            try simp only [Act.put, List.setIfInBounds_toArray, List.set_cons_zero, List.set_cons_succ]
            refine Rg.takeH (i := 25) (v := ?_) rfl (by kernel_rfl) (fun _ _ _ h => h) hS2 (Or.inl ⟨by rfl, ?_⟩) ?_
            rotate_left
            · ((intro w hSw; (try dsimp only at hSw); go_simp) <;> (with_reducible rfl))
            try simp only [Act.put, List.setIfInBounds_toArray, List.set_cons_zero, List.set_cons_succ]
            refine Rg.takeH (i := 26) (v := ?_) rfl (by kernel_rfl) (fun _ _ _ h => h) hS2 (Or.inl ⟨by rfl, ?_⟩) ?_
            rotate_left
            · ((intro w hSw; (try dsimp only at hSw); go_simp) <;> (with_reducible rfl))
            try simp only [Act.put, List.setIfInBounds_toArray, List.set_cons_zero, List.set_cons_succ]
            refine Rg.oneH (i := 23) rfl (by kernel_rfl) (fun K hK => ?_)
            go_simp
            (with_reducible refine HEx.out.mono ?_)
            rintro e x3 ⟨vx, rfl, hox, hbx3⟩
            obtain ⟨gx, cx, ex, _, hrx⟩ := own_bys hox (by simp [chB, natB])
            subst ex
            have HBz := Lib.hid (below_then HBy.out hbx3)
            have hcvx := run_str (P := Tryz.prog) x3 23 9 5 Tryz.underlying23 Tryz.underlying5 Tryz.underlying9 (some ⟨gx, 0, none⟩) (chB lg).length cx (chB lg) rfl (hrx)
            rw [d1] at hcvx ⊢
            clear hox hbx3 hrx
            change K _ _
            have hS3 : (fun x => (convert 23 9 (.slice A bn c)).run Tryz.prog x = .ok (.string ⟨(bs).toArray⟩) x) x3 := HCX.out _ HBz.out
            refine hK.out _ _ hS3 ?_
            clear hK K
            try simp only [Act.put, List.setIfInBounds_toArray, List.set_cons_zero, List.set_cons_succ]
            refine Rg.oneH (i := 24) rfl (by kernel_rfl) (fun K hK => ?_)
            go_simp
            refine hK.out _ _ hS3 ?_
            clear hK K
            try simp only [Act.put, List.setIfInBounds_toArray, List.set_cons_zero, List.set_cons_succ]
            refine Rg.oneH (i := 27) rfl (by kernel_rfl) (fun K hK => ?_)
            go_simp
            refine hK.out _ _ hS3 ?_
            clear hK K
            try simp only [Act.put, List.setIfInBounds_toArray, List.set_cons_zero, List.set_cons_succ]
            refine Rg.oneH (i := 28) rfl (by kernel_rfl) (fun K hK => ?_)
            go_simp
            refine hK.out _ _ hS3 ?_
            clear hK K
            try simp only [Act.put, List.setIfInBounds_toArray, List.set_cons_zero, List.set_cons_succ]
            refine Rg.oneH (i := 29) rfl (by kernel_rfl) (fun K hK => ?_)
            go_simp
            refine hK.out _ _ hS3 ?_
            clear hK K
            try simp only [Act.put, List.setIfInBounds_toArray, List.set_cons_zero, List.set_cons_succ]
            refine wpAnyH_done (by kernel_rfl) ?_ _
            go_wp2_with fail
            go_roundg (3 - (i + 1))
            case measure => omega
            case rel => exact ⟨i + 1, by omega, rfl, by go_num, Lib.hid (below_then HB9.out HBz.out)⟩
        · obtain rfl : i = 3 := by omega
          have HWw := Lib.hid (below_then HBL.out HBw.out)
          have HAw := Lib.hid (lawake [old wr] wr ((Sat.start wr).old_err (HE.out.below HWw.out)))
          go_wp2_with fail
          (with_reducible refine HAw.out.mono ?_)
          rintro e w8 ⟨rfl, hS8⟩
          have HB8 := Lib.hid (below_then HWw.out hS8.drop.old_)
          clear hS8
          go_wp2_with fail
          exact HQ.out _ _ ⟨rfl, HB8.out⟩
end Go.Proofs.YtigffdmpofcdgaaGreatDoor
end
