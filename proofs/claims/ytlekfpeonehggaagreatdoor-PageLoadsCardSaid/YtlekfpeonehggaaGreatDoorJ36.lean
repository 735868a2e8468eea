/- Package page: read. -/
import Derived.Test.YtlekfpeonehggaaGreatDoorJ35
section
set_option linter.unusedVariables false
set_option linter.unusedSimpArgs false
set_option maxRecDepth 100000
namespace Go.Proofs.YtlekfpeonehggaaGreatDoor
open Go.Proofs.BL Go.Proofs.Peel Go.RowKit Go.Proofs.Ky

theorem results_leaf {P : Program} {fn : Func} {p u : Tmp} {ty : TypeId} (h : fn.results = #[.cell p ty, .tmp u]) (tmps : Array Value) (w : World) (g : Nat) (T : TypeId) (cs : Array Value) (d : TypeDesc) (hp : tmps.getD p undef = .pointer (some ⟨g, 0, none⟩)) (hB : Blk w g cs T)
    (hu : P.underlying ty = some d) (hd : (match d with | .struct _ | .array _ _ => true | _ => false) = true) (hi : (P.info? ty).map (·.size) = some cs.size) : (results fn tmps).run P w = .ok (.tuple #[.agg cs, tmps.getD u undef]) w := by
  have e : tmps[p]?.getD undef = .pointer (some ⟨g, 0, none⟩) := by simpa using hp
  simp [results, h, e, asAddr, run_loadVar_row w g T ty cs (0, 0) d hB hu hd hi]
/-- The last key, or no letter. -/
def lastK (l : List Rw) : ByteArray := match l.getLast? with | some r => r.1 | none => ⟨#[]⟩
theorem lastK_snoc (l : List Rw) (x : Rw) : lastK (l ++ [x]) = x.1 := by unfold lastK; rw [List.getLast?_concat]
theorem up_snoc {m : List Rw} {x : Rw} (h : Up tx m) (hx : m = [] ∨ tx.lt (lastK m) x.1 = true) : Up tx (m ++ [x]) := by
  unfold Up at *
  rw [List.pairwise_append]
  refine ⟨h, List.pairwise_singleton _ _, fun a ha b hb => ?_⟩
  rw [List.mem_singleton] at hb
  subst hb
  rcases hx with rfl | hx
  · cases ha
  · rcases List.eq_nil_or_concat m with rfl | ⟨i, z, rfl⟩
    · cases ha
    · rw [List.concat_eq_append] at *
      rw [lastK_snoc] at hx
      rcases List.mem_append.1 ha with ha | ha
      · rw [List.pairwise_append] at h
        exact tx.tr _ _ _ (h.2.2 a ha z (by simp)) hx
      · rw [List.mem_singleton] at ha
        subst ha; exact hx
theorem up_bad {m t : List Rw} {x : Rw} (hm : m ≠ []) (hx : tx.lt (lastK m) x.1 = false) : upB (m ++ x :: t) = false := by
  cases h : upB (m ++ x :: t) with
  | false => rfl
  | true =>
    have h1 := (upB_iff _).1 h
    unfold Up at h1
    rw [List.pairwise_append] at h1
    rcases List.eq_nil_or_concat m with rfl | ⟨i, z, rfl⟩
    · exact absurd rfl hm
    · rw [List.concat_eq_append] at *
      rw [lastK_snoc] at hx
      have := h1.2.2 z (by simp) x (by simp)
      rw [hx] at this; cases this
theorem rdPage_no {bs : List UInt8} {most : Nat} {prev : List Rw} {a : Nat} (h : ¬ ((rdNat bs a []).2.2 = [] ∧ 1 ≤ (rdNat bs a []).1 ∧ (rdNat bs a []).1 ≤ most)) : rdPage bs most prev a = none := if_neg h
theorem rdPage_bad {bs : List UInt8} {most : Nat} {prev : List Rw} {a : Nat} (h : goR bs (rdNat bs a []).1 (rdNat bs a []).2.1 = none) : rdPage bs most prev a = none := by
  unfold rdPage
  split
  · rw [h]; rfl
  · rfl
theorem rdPage_ord {bs : List UInt8} {most : Nat} {prev : List Rw} {a : Nat} (h : ∀ y, goR bs (rdNat bs a []).1 (rdNat bs a []).2.1 = some y → upB (prev ++ y.1) = false) : rdPage bs most prev a = none := by
  unfold rdPage
  split
  · cases hg : goR bs (rdNat bs a []).1 (rdNat bs a []).2.1 with
    | none => rfl
    | some y =>
      show (if upB (prev ++ y.1) = true then some y else none) = none
      rw [h y hg]; rfl
  · rfl
theorem rdPage_ok {bs : List UInt8} {most : Nat} {prev : List Rw} {a : Nat} {y : List Rw × Nat} (h0 : (rdNat bs a []).2.2 = [] ∧ 1 ≤ (rdNat bs a []).1 ∧ (rdNat bs a []).1 ≤ most) (h : goR bs (rdNat bs a []).1 (rdNat bs a []).2.1 = some y) (hu : Up tx (prev ++ y.1)) : rdPage bs most prev a = some y := by
  unfold rdPage
  rw [if_pos h0, h]
  show (if upB (prev ++ y.1) = true then some y else none) = some y
  rw [if_pos ((upB_iff _).2 hu)]
theorem rdNat_zero {bs : List UInt8} {a : Nat} (h : ¬ (rdNat bs a []).2.2 = []) : (rdNat bs a []).1 = 0 := by
  unfold rdNat at *
  rw [if_pos rfl] at *
  split at h
  · exact absurd rfl h
  · rfl
def ReadOk (s pr : Nat) (most n : Int) (L : Value) (bs : List UInt8) (W : World) (ls : List Part) (y : List Rw × Nat) (e : Ending) (w' : World) : Prop :=
  ∃ v, e = .returned (.tuple #[.agg #[v], .nilIface]) ∧ Sat (ownR v 29 2 (rwR y.1) :: stB s most (n + y.1.length) L :: rdx pr s bs y.2 [] W :: ls) w'
def ReadNo (s pr : Nat) (bs : List UInt8) (W : World) (ls : List Part) (e : Ending) (w' : World) : Prop :=
  ∃ Av nv cv ve ck, e = .returned (.tuple #[.agg #[.slice Av nv cv], ve]) ∧ ck ≠ [] ∧ ∃ a' c', Sat (chn ve ck :: rdx pr s bs a' c' W :: ls) w'
def ReadPost (s pr : Nat) (most n : Int) (L : Value) (bs : List UInt8) (W : World) (ls : List Part) (r : Option (List Rw × Nat)) (e : Ending) (w' : World) : Prop :=
  (∀ y, r = some y → ReadOk s pr most n L bs W ls y e w') ∧ (r = none → ReadNo s pr bs W ls e w')
theorem Sat.own1 {A : Part} {l : List Part} {w : World} {v : Value} {E : TypeId} {sz : Nat} {rows : List (List Value)} (h : Sat (A :: ownR v E sz rows :: l) w) : ∃ B c, v = .slice B rows.length c ∧ rows.length ≤ c ∧ (B = none → c = 0) ∧ RowsAt w sz B rows := h.s1.own_.slv'
set_option maxHeartbeats 8000000 in
theorem pgRead (s pr : Nat) (most : Nat) (L : Value) (prev : List Rw) (bs : List UInt8) (a : Nat) (W w : World) (ls : List Part) (hm1 : 2 ≤ most) (hm2 : most ≤ 64) (hL : ∀ x : UInt8, L ≠ .int .u8 x.toNat) (hp : prev.length ≤ 256) (hu : Up tx prev) (hl : bs.length ≤ 1000000)
    (hE : ErrT W) (h : Sat (stB s most prev.length L :: rdx pr s bs a [] W :: ls) w) :
    Calls Tryz.prog 19 #[.pointer (some ⟨s, 0, none⟩), .pointer (some ⟨pr, 0, none⟩), .string (lastK prev)] w (ReadPost s pr most prev.length L bs W ls (rdPage bs most prev a)) := by
  refine via fun Q hQ => ?_
  have HQ := Lib.hid hQ
  have hS0 := h.alloc #[.slice none 0 0] 59
  have HN := Lib.hid (mNat _ (by omega) hS0.s2.rd_)
  have HS0 := Lib.hid hS0
  have HE := Lib.hid hE
  have HNo := Lib.hid (rdPage_no (bs := bs) (most := most) (prev := prev) (a := a))
  have HBd := Lib.hid (rdPage_bad (bs := bs) (most := most) (prev := prev) (a := a))
  have HOr := Lib.hid (rdPage_ord (bs := bs) (most := most) (prev := prev) (a := a))
  have HOk := Lib.hid (fun y => rdPage_ok (bs := bs) (most := most) (prev := prev) (a := a) (y := y))
  have HTl := Lib.hid (tells_nat bs a (.inl rfl))
  have hk64 := rdNat_lt bs a []
  have hz0 := rdNat_zero (bs := bs) (a := a)
  clear hQ hS0 hE h
  generalize rdPage bs most prev a = D at *
  generalize rdNat bs a [] = st at *
  obtain ⟨k, a1, c1⟩ := st
  simp only at hk64 hz0
  go_enter Tryz.func19, Tryz.ntmps19
  go_wp2_with fail
  (with_reducible refine HN.out.mono ?_)
  rintro e w1 ⟨rfl, hR1, hf1⟩
  have hb0 := HS0.out.s1.blk_
  have hb1 := hb0.fr hf1 (fun e => by have e : s = pr := e; have := HS0.out.s2.rdLt; omega)
  have HS1 := Lib.hid (HS0.out.s2.rdStep (show Rd w1 pr bs a1 c1 from hR1) hf1 hb1 hL)
  clear hR1 hf1 hb0 hb1 HN HS0
  generalize w.heap.size = c6 at *
  have g0 := HS1.out.s2.blk_.at_ 0 rfl
  simp only [List.getElem_toArray, List.getElem_cons_succ, List.getElem_cons_zero] at g0
  by_cases hk : 1 ≤ k ∧ k ≤ most
  · obtain ⟨hk1, hk2⟩ := hk
    have hc1 : c1 = [] := Classical.byContradiction fun h => by have := hz0 h; omega
    subst hc1
    have hkI1 : decide ((k : Int) < 1) = false := decide_eq_false (by omega)
    have hkI3 : decide (k < 1) = false := decide_eq_false (by omega)
    have hkI4 : decide (most < k) = false := decide_eq_false (by omega)
    have hmw : IntKind.u64.wrap (most : Int) = (most : Int) := u64_of most (by omega)
    have hkI2 : decide ((most : Int) < (k : Int)) = false := decide_eq_false (by omega)
    have HM0 := Lib.hid (MidR.start bs k a1)
    have HBd2 := Lib.hid (show goR bs k a1 = none → D = none from HBd.out)
    have HOr2 := Lib.hid (show (∀ y, goR bs k a1 = some y → upB (prev ++ y.1) = false) → D = none from HOr.out)
    have HOk2 := Lib.hid (fun y (h : goR bs k a1 = some y) (hu : Up tx (prev ++ y.1)) => (show D = some y from HOk.out y ⟨rfl, hk1, hk2⟩ h hu))
    have HS2 := Lib.hid (((HS1.out.alloc #[.slice none 0 0] 59).nilR 29 2).s1.s4.t2)
    clear HNo HBd HOr HOk HTl hz0 HS1
    generalize goR bs k a1 = R at *
    go_wp2_with fail
    generalize w1.heap.size = t9 at *
    go_loopg [2, 10] k (fun g x2 x10 wr => ∃ (l : List Rw) (a2 : Nat) (c2 : List Lk) (v : Value), l.length ≤ k ∧ g = k - l.length ∧ x10 = .int .u64 (l.length : Nat) ∧ x2 = .string (lastK (prev ++ l)) ∧ Hid (MidR bs R k l a2 c2) ∧ Hid (Up tx (prev ++ l)) ∧ Hid (Sat (blk t9 #[v] 59 :: ownR v 29 2 (rwR l) :: stB s most ((prev.length : Int) + (l.length : Int)) L :: rdx pr s bs a2 c2 W :: blk c6 #[.slice none 0 0] 59 :: ls) wr))
    case atStart => exact ⟨[], a1, [], .slice none 0 0, Nat.zero_le _, rfl, rfl, by rw [List.append_nil], HM0, Lib.hid (by rw [List.append_nil]; exact hu), HS2⟩
    case round =>
      obtain ⟨l, a2, c2, v, hlk, rfl, rfl, rfl, HMi, HUp, HSr⟩ := hrel
      clear HM0 HS2
      have HEr := Lib.hid (HE.out.below HSr.out.s3.rdOld)
      obtain ⟨Av, cv, ev, _, _, _⟩ := HSr.out.own1
      subst ev
      by_cases hlt : l.length < k
      · have hltI : (l.length : Int) < (k : Int) := by omega
        go_wp2_with fail
        (with_reducible refine (mErr wr HEr.out HSr.out.s3.rd_).mono ?_)
        rintro e w3 ⟨rfl, hb3⟩
        have HS3 := Lib.hid (HSr.out.below hb3)
        clear hb3 HSr HEr
        by_cases hc : c2 = []
        · subst hc
          have HNx := Lib.hid (HMi.out.next hlt)
          have HLl := Lib.hid (show ((rwR l).length + 1) * 24 ≤ 140737488355328 from by rw [rwR_len]; omega)
          have hM := mStr w3 16 (by omega) (by decide) (by decide) HS3.out.s3.rd_
          have hsx : stepR bs a2 [] = (((rdStr bs a2 [] 16).1, (rdNum bs (rdStr bs a2 [] 16).2.1 (rdStr bs a2 [] 16).2.2).1), (rdNum bs (rdStr bs a2 [] 16).2.1 (rdStr bs a2 [] 16).2.2).2) := rfl
          have HSX := Lib.hid hsx
          clear hsx
          generalize rdStr bs a2 [] 16 = st1 at *
          obtain ⟨kk, a3, c3⟩ := st1
          have HM1 := Lib.hid hM
          clear hM
          go_wp2_with fail
          (with_reducible refine HM1.out.mono ?_)
          rintro e w4 ⟨rfl, hR4, hf4⟩
          have hb4 := HS3.out.s2.blk_.fr hf4 (fun e => by have e : s = pr := e; have := HS3.out.s3.rdLt; omega)
          have HS4 := Lib.hid (HS3.out.s3.rdStep (show Rd w4 pr bs a3 c3 from hR4) hf4 hb4 hL)
          have hM := mNum w4 (by omega) HS4.out.rd_
          have HSX2 := Lib.hid (show stepR bs a2 [] = ((kk, (rdNum bs a3 c3).1), (rdNum bs a3 c3).2) from HSX.out)
          clear hR4 hf4 hb4 HS3 HM1 HSX
          generalize rdNum bs a3 c3 = st2 at *
          obtain ⟨nn, a4, c4⟩ := st2
          have HM2 := Lib.hid hM
          clear hM
          go_wp2_with fail
          (with_reducible refine HM2.out.mono ?_)
          rintro e w5 ⟨rfl, hR5, hf5⟩
          have hb5 := HS4.out.s3.blk_.fr hf5 (fun e => by have e : s = pr := e; have := HS4.out.rdLt; omega)
          have HS5 := HS4.out.rdStep (show Rd w5 pr bs a4 c4 from hR5) hf5 hb5 hL
          have HS6 := Lib.hid (HS5.alloc #[.string kk, .int .i64 nn] 29)
          have HSX3 := Lib.hid (show stepR bs a2 [] = ((kk, nn), a4, c4) from HSX2.out)
          have HNx2 := Lib.hid (show MidR bs R k (l ++ [(kk, nn)]) a4 c4 from by have := HNx.out; rw [HSX3.out] at this; exact this)
          have hst := HS6.out.s4.blk_
          have s2 := hst.at_ 2 rfl
          simp only [List.getElem_toArray, List.getElem_cons_succ, List.getElem_cons_zero] at s2
          clear hR5 hf5 hb5 HS4 HM2 HS5 HSX2 HSX3 HNx hst
          have hmz : (prev ++ l).length = prev.length + l.length := List.length_append
          have hcmp : ((prev ++ l) ≠ [] ∧ tx.lt (lastK (prev ++ l)) kk = false ∧ (0 : Int) < (prev.length : Int) + (l.length : Int)) ∨ (((prev ++ l) = [] ∨ tx.lt (lastK (prev ++ l)) kk = true) ∧ (tx.lt (lastK (prev ++ l)) kk = true ∨ ¬ (0 : Int) < (prev.length : Int) + (l.length : Int))) := by
            cases hx : tx.lt (lastK (prev ++ l)) kk with
            | true => exact .inr ⟨.inr rfl, .inl rfl⟩
            | false =>
              by_cases h0 : prev ++ l = []
              · refine .inr ⟨.inl h0, .inr ?_⟩
                rw [h0] at hmz
                simp at hmz
                omega
              · refine .inl ⟨h0, rfl, ?_⟩
                have := List.length_pos_iff.2 h0
                omega
          have hle := less_tx kk (lastK (prev ++ l))
          have hcase : (tx.lt (lastK (prev ++ l)) kk = true ∧ Op.bytesLess kk.toList (lastK (prev ++ l)).toList = false ∧ (kk.toList == (lastK (prev ++ l)).toList) = false) ∨ (tx.lt (lastK (prev ++ l)) kk = false ∧ Op.bytesLess kk.toList (lastK (prev ++ l)).toList = true) ∨ (tx.lt (lastK (prev ++ l)) kk = false ∧ Op.bytesLess kk.toList (lastK (prev ++ l)).toList = false ∧ (kk.toList == (lastK (prev ++ l)).toList) = true) := by
            cases hx : tx.lt (lastK (prev ++ l)) kk with
            | true => exact .inl ⟨rfl, hle.trans (tx_as hx), str_diff (tx_ne hx).symm⟩
            | false =>
              cases hy : tx.lt kk (lastK (prev ++ l)) with
              | true => exact .inr (.inl ⟨rfl, hle.trans hy⟩)
              | false => exact .inr (.inr ⟨rfl, hle.trans hy, str_same (tx.tot _ _ hy hx)⟩)
          have HLK := Lib.hid (show lastK (prev ++ (l ++ [(kk, nn)])) = kk from by rw [← List.append_assoc, lastK_snoc])
          have HU1 := Lib.hid (fun (h : (prev ++ l) = [] ∨ tx.lt (lastK (prev ++ l)) kk = true) => (show Up tx (prev ++ (l ++ [(kk, nn)])) from by rw [← List.append_assoc]; exact up_snoc HUp.out h))
          have HU2 := Lib.hid (fun (h1 : (prev ++ l) ≠ []) (h2 : tx.lt (lastK (prev ++ l)) kk = false) => (show D = none from by
            by_cases hc4 : c4 = []
            · refine HOr2.out (fun y hy => ?_)
              obtain ⟨t, ht⟩ := HNx2.out.pre hy
              rw [ht, show prev ++ (l ++ [(kk, nn)] ++ t) = (prev ++ l) ++ (kk, nn) :: t from by simp]
              exact up_bad h1 h2
            · exact HBd2.out (HNx2.out.bad hc4)))
          clear hle HUp HMi HBd2 HOr2 HOk2
          generalize lastK (prev ++ l) = lst at *
          generalize hpl : (prev.length : Int) + (l.length : Int) = pl at *
          rcases hcmp with ⟨h0, h1, h2⟩ | ⟨hA, hB⟩
          · have HD := Lib.hid (HU2.out h0 h1)
            have hcase2 : (Op.bytesLess kk.toList lst.toList = true) ∨ (Op.bytesLess kk.toList lst.toList = false ∧ (kk.toList == lst.toList) = true) := by
              rcases hcase with ⟨hx, _⟩ | ⟨_, hx⟩ | ⟨_, hx⟩
              · rw [h1] at hx; cases hx
              · exact .inl hx
              · exact .inr hx
            clear hcase HU1 HU2 h1 h0 HNx2 HLK
            have m0d := HS6.out.drew.blk_.at_ 0 rfl
            simp only [List.getElem_toArray, List.getElem_cons_succ, List.getElem_cons_zero] at m0d
            rcases hcase2 with hx1 | ⟨hx1, hx2⟩
            all_goals
            go_wp2_with fail
            generalize w5.heap.size = t11 at *
            generalize (w5.alloc (.cells #[.string kk, .int .i64 nn] 29)) = w6 at *
            refine Rg.begin_ (fun x => x.cell? ⟨t11, 0, none⟩ = some (.string kk)) 6 (by kernel_rfl) ?_
            have hS0 : (fun x => x.cell? ⟨t11, 0, none⟩ = some (.string kk)) (World.drew w6) := m0d
            refine Rg.take (i := 0) (v := ?_) rfl (by kernel_rfl) (fun _ _ _ h => h) hS0 (Or.inl ⟨by rfl, ?_⟩) ?_
            rotate_left
            · ((intro w hSw; (try dsimp only at hSw); go_simp) <;> (with_reducible rfl))
            try simp only [Act.put, List.setIfInBounds_toArray, List.set_cons_zero, List.set_cons_succ]
            refine Rg.take (i := 1) (v := ?_) rfl (by kernel_rfl) (fun _ _ _ h => h) hS0 (Or.inl ⟨by rfl, ?_⟩) ?_
            rotate_left
            · ((intro w hSw; (try dsimp only at hSw); go_simp) <;> (with_reducible rfl))
            try simp only [Act.put, List.setIfInBounds_toArray, List.set_cons_zero, List.set_cons_succ]
            refine Rg.take (i := 2) (v := ?_) rfl (by kernel_rfl) (fun _ _ _ h => h) hS0 (Or.inl ⟨by rfl, ?_⟩) ?_
            rotate_left
            · ((intro w hSw; (try dsimp only at hSw); go_simp) <;> (with_reducible rfl))
            try simp only [Act.put, List.setIfInBounds_toArray, List.set_cons_zero, List.set_cons_succ]
            refine Rg.one (i := 3) rfl (by kernel_rfl) (fun K hK => ?_)
            go_simp
            (with_reducible refine (fnew 6 w6.drew).mono ?_)
            rintro e x1 ⟨v1, rfl, hc1, hbx1⟩
            have hc1 : Chn x1 v1 [.num 6] := hc1
            have m0a := (hbx1.cell (World.block_lt_of_cell? _ _ m0d)).trans m0d
            change K _ _
            have hS1 : (fun x => x.cell? ⟨t11, 0, none⟩ = some (.string kk)) x1 := m0a
            refine hK.out _ _ (fun _ => hS1) ?_
            clear hK K
            try simp only [Act.put, List.setIfInBounds_toArray, List.set_cons_zero, List.set_cons_succ]
            refine Rg.one (i := 4) rfl (by kernel_rfl) (fun K hK => ?_)
            go_simp
            (with_reducible refine (fin_ kk v1 [.num 6] x1 hc1).mono ?_)
            rintro e x2 ⟨v2, rfl, hcn, hbx2⟩
            have hcn : Chn x2 v2 (.in_ kk :: [.num 6]) := hcn
            have m0b := (hbx2.cell (World.block_lt_of_cell? _ _ m0a)).trans m0a
            have hSx := (((HS6.out.drew.below hbx1).below hbx2).s5.err (Below.refl _ _) hcn).s1
            have q0 := hSx.blk_.at_ 0 rfl
            have q1 := hSx.blk_.free 0
            simp only [List.getElem_toArray, List.getElem_cons_succ, List.getElem_cons_zero] at q0
            have hSy : Sat (blk c6 #[.slice none 0 0] 59 :: _) (x2.setCell ⟨c6, 0, none⟩ (.slice none 0 0)) := hSx.set 0 (.slice none 0 0)
            have q2 := hSy.s2.blk_.at_ 0 rfl
            simp only [List.getElem_toArray, List.getElem_cons_succ, List.getElem_cons_zero] at q2
            have HB9 := Lib.hid hSy.blk_
            have HS9 := Lib.hid hSy.drop.s1.drop.s2.drop.s2.drop.s2.drop
            clear hSx hSy hbx1 hbx2
            change K _ _
            have hS2 : (fun x => x.cell? ⟨t11, 0, none⟩ = some (.string kk)) x2 := m0b
            refine hK.out _ _ (fun _ => hS2) ?_
            clear hK K
            try simp only [Act.put, List.setIfInBounds_toArray, List.set_cons_zero, List.set_cons_succ]
            refine Rg.one (i := 5) rfl (by kernel_rfl) (fun K hK => ?_)
            go_simp
            have hS3 : (fun x => x.cell? ⟨t11, 0, none⟩ = some (.string kk)) (x2.setCell ⟨c6, 0, none⟩ (.slice none 0 0)) := q2
            refine hK.out _ _ (fun _ => hS3) ?_
            clear hK K
            try simp only [Act.put, List.setIfInBounds_toArray, List.set_cons_zero, List.set_cons_succ]
            refine Rg.one (i := 6) rfl (by kernel_rfl) (fun K hK => ?_)
            go_simp
            refine hK.out _ _ (fun _ => hS3) ?_
            clear hK K
            try simp only [Act.put, List.setIfInBounds_toArray, List.set_cons_zero, List.set_cons_succ]
            refine Rg.done (by kernel_rfl) ?_ _
            go_wp2_with fail
            refine bodyPost_ret (results_leaf rfl _ _ c6 _ _ _ rfl HB9.out Tryz.underlying59 rfl (by kernel_rfl)) rfl ?_
            exact HQ.out _ _ ⟨fun y hy => (by rw [HD.out] at hy; cases hy), fun _ => ⟨_, _, _, v2, _, rfl, by simp, a4, c4, HS9.out⟩⟩
          · have HUU := Lib.hid (HU1.out hA)
            have n9 := HS6.out.s2.blk_.at_ 0 rfl
            simp only [List.getElem_toArray, List.getElem_cons_succ, List.getElem_cons_zero] at n9
            have HS7 := Lib.hid HS6.out.drop.s2
            have hcase2 : (Op.bytesLess kk.toList lst.toList = false ∧ (kk.toList == lst.toList) = false) ∨ (Op.bytesLess kk.toList lst.toList = true ∧ ¬ (0 : Int) < pl) ∨ (Op.bytesLess kk.toList lst.toList = false ∧ (kk.toList == lst.toList) = true ∧ ¬ (0 : Int) < pl) := by
              rcases hcase with ⟨_, hx⟩ | ⟨h0, hx⟩ | ⟨h0, hx1, hx2⟩
              · exact .inl hx
              · exact .inr (.inl ⟨hx, hB.resolve_left (by rw [h0]; simp)⟩)
              · exact .inr (.inr ⟨hx1, hx2, hB.resolve_left (by rw [h0]; simp)⟩)
            clear hcase HU1 HU2 hA hB HS6
            rcases hcase2 with ⟨hx1, hx2⟩ | ⟨hx1, hx2⟩ | ⟨hx1, hx2, hx3⟩
            all_goals
              go_wp2_with (at_builtin; refine Classical.byContradiction fun hcontra => ?_)
              refine hcontra ?_
              clear hcontra
              refine satApp (W := (w5.alloc (.cells #[.string kk, .int .i64 nn] 29))) 29 2 24 (.agg #[.string ⟨#[]⟩, .int .i64 0]) rfl (.tmp 69) (.tmp 71) 27 rfl Tryz.underlying27 (by kernel_rfl) rfl (by decide) (by decide) _ (rwR l) (enR (kk, nn)) rfl _ rfl (by simp) rfl (enR_one _) HS7.out rfl HLl.out ?_
              intro v7 w7 hS7
              obtain ⟨A7, c7, e7, _, _, _⟩ := hS7.own_.slv'
              have e8 : (rwR l ++ [enR (kk, nn)]).length = (rwR l).length + 1 := by rw [List.length_append]; rfl
              rw [e8] at e7
              subst e7
              have k0 := hS7.s2.blk_.at_ 0 rfl
              have k1 := hS7.s2.blk_.free 0
              simp only [List.getElem_toArray, List.getElem_cons_succ, List.getElem_cons_zero] at k0
              have hS8 : Sat (blk t9 #[.slice A7 ((rwR l).length + 1) c7] 59 :: _) (w7.setCell ⟨t9, 0, none⟩ (.slice A7 ((rwR l).length + 1) c7)) := hS7.s2.set 0 (.slice A7 ((rwR l).length + 1) c7)
              have k2 := hS8.s3.blk_.at_ 2 rfl
              have k3 := hS8.s3.blk_.free 2
              simp only [List.getElem_toArray, List.getElem_cons_succ, List.getElem_cons_zero] at k2
              have hpb : 0 ≤ pl ∧ pl ≤ 400 := by omega
              obtain ⟨hpb1, hpb2⟩ := hpb
              have hS9 : Sat (stB s most (pl + 1) L :: _) ((w7.setCell ⟨t9, 0, none⟩ (.slice A7 ((rwR l).length + 1) c7)).setCell ⟨s, 2, none⟩ (.int .i64 (pl + 1))) := hS8.s3.set 2 (.int .i64 (pl + 1))
              have HS9 := Lib.hid hS9.t2
              have HN1 := Lib.hid (show (prev.length : Int) + ((l ++ [(kk, nn)]).length : Int) = pl + 1 from by rw [List.length_append, ← hpl]; simp; omega)
              have HRW := Lib.hid (show rwR l ++ [enR (kk, nn)] = rwR (l ++ [(kk, nn)]) from by simp [rwR])
              clear hS7 hS8 hS9 HS7 hpl
              go_wp2_with fail
              go_roundg (k - (l.length + 1))
              case measure => omega
              case rel => exact ⟨l ++ [(kk, nn)], a4, c4, .slice A7 ((rwR l).length + 1) c7, by simp; omega, by simp, by simp, by rw [HLK.out], HNx2, HUU, Lib.hid (by rw [HN1.out, ← HRW.out]; exact HS9.out)⟩
        · have hne : ¬ codeOf c2 = 0 := fun h => hc (tells_nil HMi.out.2.1 h)
          have hnb : (codeOf c2 == 0) = false := int_diff hne
          have HD := Lib.hid (HBd2.out (HMi.out.bad hc))
          have hSd := HS3.out.drew
          have d9 := hSd.blk_.at_ 0 rfl
          simp only [List.getElem_toArray, List.getElem_cons_succ, List.getElem_cons_zero] at d9
          go_wp2_with fail
          refine Rg.begin_ (fun x => x.cell? ⟨t9, 0, none⟩ = some (.slice Av (rwR l).length cv)) 5 (by kernel_rfl) ?_
          have hS0 : (fun x => x.cell? ⟨t9, 0, none⟩ = some (.slice Av (rwR l).length cv)) (World.drew w3) := d9
          refine Rg.take (i := 0) (v := ?_) rfl (by kernel_rfl) (fun _ _ _ h => h) hS0 (Or.inl ⟨by rfl, ?_⟩) ?_
          rotate_left
          · ((intro w hSw; (try dsimp only at hSw); go_simp) <;> (with_reducible rfl))
          try simp only [Act.put, List.setIfInBounds_toArray, List.set_cons_zero, List.set_cons_succ]
          refine Rg.take (i := 1) (v := ?_) rfl (by kernel_rfl) (fun _ _ _ h => h) hS0 (Or.inl ⟨by rfl, ?_⟩) ?_
          rotate_left
          · ((intro w hSw; (try dsimp only at hSw); go_simp) <;> (with_reducible rfl))
          try simp only [Act.put, List.setIfInBounds_toArray, List.set_cons_zero, List.set_cons_succ]
          refine Rg.one (i := 2) rfl (by kernel_rfl) (fun K hK => ?_)
          go_simp
          (with_reducible refine (mErr w3.drew (HE.out.below hSd.s3.rdOld) hSd.s3.rd_).mono ?_)
          rintro e x1 ⟨rfl, hbx1⟩
          have d9a := (hbx1.cell (World.block_lt_of_cell? _ _ d9)).trans d9
          change K _ _
          have hS1 : (fun x => x.cell? ⟨t9, 0, none⟩ = some (.slice Av (rwR l).length cv)) x1 := d9a
          refine hK.out _ _ (fun _ => hS1) ?_
          clear hK K
          try simp only [Act.put, List.setIfInBounds_toArray, List.set_cons_zero, List.set_cons_succ]
          refine Rg.one (i := 3) rfl (by kernel_rfl) (fun K hK => ?_)
          go_simp
          (with_reducible refine (fnew (codeOf c2) x1).mono ?_)
          rintro e x2 ⟨v2, rfl, hcn, hbx2⟩
          have d9b := (hbx2.cell (World.block_lt_of_cell? _ _ d9a)).trans d9a
          have hcn : Chn x2 v2 [.num (codeOf c2)] := by rw [if_neg hne] at hcn; exact hcn
          have hSx := ((hSd.below hbx1).err hbx2 hcn).s5
          have q0 := hSx.blk_.at_ 0 rfl
          have q1 := hSx.blk_.free 0
          simp only [List.getElem_toArray, List.getElem_cons_succ, List.getElem_cons_zero] at q0
          have hSy : Sat (blk c6 #[.slice Av (rwR l).length cv] 59 :: _) (x2.setCell ⟨c6, 0, none⟩ (.slice Av (rwR l).length cv)) := hSx.set 0 (.slice Av (rwR l).length cv)
          have q2 := hSy.s2.blk_.at_ 0 rfl
          simp only [List.getElem_toArray, List.getElem_cons_succ, List.getElem_cons_zero] at q2
          have HB9 := Lib.hid hSy.blk_
          have HS9 := Lib.hid hSy.drop.s1.drop.s1.drop.s1.drop
          clear hSx hSy hbx1 hbx2 hSd
          change K _ _
          have hS2 : (fun x => x.cell? ⟨t9, 0, none⟩ = some (.slice Av (rwR l).length cv)) x2 := d9b
          refine hK.out _ _ (fun _ => hS2) ?_
          clear hK K
          try simp only [Act.put, List.setIfInBounds_toArray, List.set_cons_zero, List.set_cons_succ]
          refine Rg.one (i := 4) rfl (by kernel_rfl) (fun K hK => ?_)
          go_simp
          have hS3 : (fun x => x.cell? ⟨t9, 0, none⟩ = some (.slice Av (rwR l).length cv)) (x2.setCell ⟨c6, 0, none⟩ (.slice Av (rwR l).length cv)) := q2
          refine hK.out _ _ (fun _ => hS3) ?_
          clear hK K
          try simp only [Act.put, List.setIfInBounds_toArray, List.set_cons_zero, List.set_cons_succ]
          refine Rg.one (i := 5) rfl (by kernel_rfl) (fun K hK => ?_)
          go_simp
          refine hK.out _ _ (fun _ => hS3) ?_
          clear hK K
          try simp only [Act.put, List.setIfInBounds_toArray, List.set_cons_zero, List.set_cons_succ]
          refine Rg.done (by kernel_rfl) ?_ _
          go_wp2_with fail
          refine bodyPost_ret (results_leaf rfl _ _ c6 _ _ _ rfl HB9.out Tryz.underlying59 rfl (by kernel_rfl)) rfl ?_
          exact HQ.out _ _ ⟨fun y hy => (by rw [HD.out] at hy; cases hy), fun _ => ⟨_, _, _, v2, _, rfl, by simp, a2, c2, HS9.out⟩⟩
      · have hltI : ¬ (l.length : Int) < (k : Int) := by omega
        by_cases hc : c2 = []
        · subst hc
          have HD := Lib.hid (HOk2.out _ (HMi.out.done hlt) HUp.out)
          have hSd := HSr.out.drew
          have d9 := hSd.blk_.at_ 0 rfl
          simp only [List.getElem_toArray, List.getElem_cons_succ, List.getElem_cons_zero] at d9
          go_wp2_with fail
          refine Rg.begin_ (fun x => x.cell? ⟨t9, 0, none⟩ = some (.slice Av (rwR l).length cv)) 5 (by kernel_rfl) ?_
          have hS0 : (fun x => x.cell? ⟨t9, 0, none⟩ = some (.slice Av (rwR l).length cv)) (World.drew wr) := d9
          refine Rg.take (i := 0) (v := ?_) rfl (by kernel_rfl) (fun _ _ _ h => h) hS0 (Or.inl ⟨by rfl, ?_⟩) ?_
          rotate_left
          · ((intro w hSw; (try dsimp only at hSw); go_simp) <;> (with_reducible rfl))
          try simp only [Act.put, List.setIfInBounds_toArray, List.set_cons_zero, List.set_cons_succ]
          refine Rg.take (i := 1) (v := ?_) rfl (by kernel_rfl) (fun _ _ _ h => h) hS0 (Or.inl ⟨by rfl, ?_⟩) ?_
          rotate_left
          · ((intro w hSw; (try dsimp only at hSw); go_simp) <;> (with_reducible rfl))
          try simp only [Act.put, List.setIfInBounds_toArray, List.set_cons_zero, List.set_cons_succ]
          refine Rg.one (i := 2) rfl (by kernel_rfl) (fun K hK => ?_)
          go_simp
          (with_reducible refine (mErr wr.drew (HE.out.below hSd.s3.rdOld) hSd.s3.rd_).mono ?_)
          rintro e x1 ⟨rfl, hbx1⟩
          have d9a := (hbx1.cell (World.block_lt_of_cell? _ _ d9)).trans d9
          change K _ _
          have hS1 : (fun x => x.cell? ⟨t9, 0, none⟩ = some (.slice Av (rwR l).length cv)) x1 := d9a
          refine hK.out _ _ (fun _ => hS1) ?_
          clear hK K
          try simp only [Act.put, List.setIfInBounds_toArray, List.set_cons_zero, List.set_cons_succ]
          refine Rg.one (i := 3) rfl (by kernel_rfl) (fun K hK => ?_)
          go_simp
          (with_reducible refine (fnew (codeOf []) x1).mono ?_)
          rintro e x2 ⟨v2, rfl, hcn, hbx2⟩
          have d9b := (hbx2.cell (World.block_lt_of_cell? _ _ d9a)).trans d9a
          obtain rfl : v2 = .nilIface := hcn
          have hSx := ((hSd.below hbx1).below hbx2).s4
          have q0 := hSx.blk_.at_ 0 rfl
          have q1 := hSx.blk_.free 0
          simp only [List.getElem_toArray, List.getElem_cons_succ, List.getElem_cons_zero] at q0
          have hSy : Sat (blk c6 #[.slice Av (rwR l).length cv] 59 :: _) (x2.setCell ⟨c6, 0, none⟩ (.slice Av (rwR l).length cv)) := hSx.set 0 (.slice Av (rwR l).length cv)
          have q2 := hSy.s1.blk_.at_ 0 rfl
          simp only [List.getElem_toArray, List.getElem_cons_succ, List.getElem_cons_zero] at q2
          have HB9 := Lib.hid hSy.blk_
          have HS9 := Lib.hid hSy.drop.drop
          clear hSx hSy hbx1 hbx2 hSd
          change K _ _
          have hS2 : (fun x => x.cell? ⟨t9, 0, none⟩ = some (.slice Av (rwR l).length cv)) x2 := d9b
          refine hK.out _ _ (fun _ => hS2) ?_
          clear hK K
          try simp only [Act.put, List.setIfInBounds_toArray, List.set_cons_zero, List.set_cons_succ]
          refine Rg.one (i := 4) rfl (by kernel_rfl) (fun K hK => ?_)
          go_simp
          have hS3 : (fun x => x.cell? ⟨t9, 0, none⟩ = some (.slice Av (rwR l).length cv)) (x2.setCell ⟨c6, 0, none⟩ (.slice Av (rwR l).length cv)) := q2
          refine hK.out _ _ (fun _ => hS3) ?_
          clear hK K
          try simp only [Act.put, List.setIfInBounds_toArray, List.set_cons_zero, List.set_cons_succ]
          refine Rg.one (i := 5) rfl (by kernel_rfl) (fun K hK => ?_)
          go_simp
          refine hK.out _ _ (fun _ => hS3) ?_
          clear hK K
          try simp only [Act.put, List.setIfInBounds_toArray, List.set_cons_zero, List.set_cons_succ]
          refine Rg.done (by kernel_rfl) ?_ _
          go_wp2_with fail
          refine bodyPost_ret (results_leaf rfl _ _ c6 _ _ _ rfl HB9.out Tryz.underlying59 rfl (by kernel_rfl)) rfl ?_
          exact HQ.out _ _ ⟨fun y hy => (by rw [HD.out] at hy; cases hy; exact ⟨_, rfl, HS9.out⟩), fun hn => (by rw [HD.out] at hn; cases hn)⟩
        · have hne : ¬ codeOf c2 = 0 := fun h => hc (tells_nil HMi.out.2.1 h)
          have HD := Lib.hid (HBd2.out (HMi.out.bad hc))
          have hSd := HSr.out.drew
          have d9 := hSd.blk_.at_ 0 rfl
          simp only [List.getElem_toArray, List.getElem_cons_succ, List.getElem_cons_zero] at d9
          go_wp2_with fail
          refine Rg.begin_ (fun x => x.cell? ⟨t9, 0, none⟩ = some (.slice Av (rwR l).length cv)) 5 (by kernel_rfl) ?_
          have hS0 : (fun x => x.cell? ⟨t9, 0, none⟩ = some (.slice Av (rwR l).length cv)) (World.drew wr) := d9
          refine Rg.take (i := 0) (v := ?_) rfl (by kernel_rfl) (fun _ _ _ h => h) hS0 (Or.inl ⟨by rfl, ?_⟩) ?_
          rotate_left
          · ((intro w hSw; (try dsimp only at hSw); go_simp) <;> (with_reducible rfl))
          try simp only [Act.put, List.setIfInBounds_toArray, List.set_cons_zero, List.set_cons_succ]
          refine Rg.take (i := 1) (v := ?_) rfl (by kernel_rfl) (fun _ _ _ h => h) hS0 (Or.inl ⟨by rfl, ?_⟩) ?_
          rotate_left
          · ((intro w hSw; (try dsimp only at hSw); go_simp) <;> (with_reducible rfl))
          try simp only [Act.put, List.setIfInBounds_toArray, List.set_cons_zero, List.set_cons_succ]
          refine Rg.one (i := 2) rfl (by kernel_rfl) (fun K hK => ?_)
          go_simp
          (with_reducible refine (mErr wr.drew (HE.out.below hSd.s3.rdOld) hSd.s3.rd_).mono ?_)
          rintro e x1 ⟨rfl, hbx1⟩
          have d9a := (hbx1.cell (World.block_lt_of_cell? _ _ d9)).trans d9
          change K _ _
          have hS1 : (fun x => x.cell? ⟨t9, 0, none⟩ = some (.slice Av (rwR l).length cv)) x1 := d9a
          refine hK.out _ _ (fun _ => hS1) ?_
          clear hK K
          try simp only [Act.put, List.setIfInBounds_toArray, List.set_cons_zero, List.set_cons_succ]
          refine Rg.one (i := 3) rfl (by kernel_rfl) (fun K hK => ?_)
          go_simp
          (with_reducible refine (fnew (codeOf c2) x1).mono ?_)
          rintro e x2 ⟨v2, rfl, hcn, hbx2⟩
          have d9b := (hbx2.cell (World.block_lt_of_cell? _ _ d9a)).trans d9a
          have hcn : Chn x2 v2 [.num (codeOf c2)] := by rw [if_neg hne] at hcn; exact hcn
          have hSx := ((hSd.below hbx1).err hbx2 hcn).s5
          have q0 := hSx.blk_.at_ 0 rfl
          have q1 := hSx.blk_.free 0
          simp only [List.getElem_toArray, List.getElem_cons_succ, List.getElem_cons_zero] at q0
          have hSy : Sat (blk c6 #[.slice Av (rwR l).length cv] 59 :: _) (x2.setCell ⟨c6, 0, none⟩ (.slice Av (rwR l).length cv)) := hSx.set 0 (.slice Av (rwR l).length cv)
          have q2 := hSy.s2.blk_.at_ 0 rfl
          simp only [List.getElem_toArray, List.getElem_cons_succ, List.getElem_cons_zero] at q2
          have HB9 := Lib.hid hSy.blk_
          have HS9 := Lib.hid hSy.drop.s1.drop.s1.drop.s1.drop
          clear hSx hSy hbx1 hbx2 hSd
          change K _ _
          have hS2 : (fun x => x.cell? ⟨t9, 0, none⟩ = some (.slice Av (rwR l).length cv)) x2 := d9b
          refine hK.out _ _ (fun _ => hS2) ?_
          clear hK K
          try simp only [Act.put, List.setIfInBounds_toArray, List.set_cons_zero, List.set_cons_succ]
          refine Rg.one (i := 4) rfl (by kernel_rfl) (fun K hK => ?_)
          go_simp
          have hS3 : (fun x => x.cell? ⟨t9, 0, none⟩ = some (.slice Av (rwR l).length cv)) (x2.setCell ⟨c6, 0, none⟩ (.slice Av (rwR l).length cv)) := q2
          refine hK.out _ _ (fun _ => hS3) ?_
          clear hK K
          try simp only [Act.put, List.setIfInBounds_toArray, List.set_cons_zero, List.set_cons_succ]
          refine Rg.one (i := 5) rfl (by kernel_rfl) (fun K hK => ?_)
          go_simp
          refine hK.out _ _ (fun _ => hS3) ?_
          clear hK K
          try simp only [Act.put, List.setIfInBounds_toArray, List.set_cons_zero, List.set_cons_succ]
          refine Rg.done (by kernel_rfl) ?_ _
          go_wp2_with fail
          refine bodyPost_ret (results_leaf rfl _ _ c6 _ _ _ rfl HB9.out Tryz.underlying59 rfl (by kernel_rfl)) rfl ?_
          exact HQ.out _ _ ⟨fun y hy => (by rw [HD.out] at hy; cases hy), fun _ => ⟨_, _, _, v2, _, rfl, by simp, a2, c2, HS9.out⟩⟩
  · have hD := HNo.out (fun h => hk ⟨h.2.1, h.2.2⟩)
    have HD := Lib.hid hD
    have hkk : (k : Int) < 1 ∨ (¬ (k : Int) < 1 ∧ (most : Int) < (k : Int)) := by omega
    have hmw : IntKind.u64.wrap (most : Int) = (most : Int) := u64_of most (by omega)
    clear hD
    rcases hkk with h1 | ⟨h1, h2⟩
    all_goals
      have g0d : w1.drew.cell? ⟨s, 0, none⟩ = _ := g0
      go_wp2_with fail
      refine Rg.begin_ (fun x => x.cell? ⟨s, 0, none⟩ = some (.int .i64 (most : Nat))) 11 (by kernel_rfl) ?_
      have hS0 : (fun x => x.cell? ⟨s, 0, none⟩ = some (.int .i64 (most : Nat))) (World.drew w1) := g0d
      refine Rg.take (i := 0) (v := ?_) rfl (by kernel_rfl) (fun _ _ _ h => h) hS0 (Or.inl ⟨by rfl, ?_⟩) ?_
      rotate_left
      · ((intro w hSw; (try dsimp only at hSw); go_simp) <;> (with_reducible rfl))
      try simp only [Act.put, List.setIfInBounds_toArray, List.set_cons_zero, List.set_cons_succ]
      refine Rg.take (i := 1) (v := ?_) rfl (by kernel_rfl) (fun _ _ _ h => h) hS0 (Or.inl ⟨by rfl, ?_⟩) ?_
      rotate_left
      · ((intro w hSw; (try dsimp only at hSw); go_simp) <;> (with_reducible rfl))
      try simp only [Act.put, List.setIfInBounds_toArray, List.set_cons_zero, List.set_cons_succ]
      refine Rg.take (i := 2) (v := ?_) rfl (by kernel_rfl) (fun _ _ _ h => h) hS0 (Or.inl ⟨by rfl, ?_⟩) ?_
      rotate_left
      · ((intro w hSw; (try dsimp only at hSw); go_simp) <;> (with_reducible rfl))
      try simp only [Act.put, List.setIfInBounds_toArray, List.set_cons_zero, List.set_cons_succ]
      refine Rg.take (i := 3) (v := ?_) rfl (by kernel_rfl) (fun _ _ _ h => h) hS0 (Or.inl ⟨by rfl, ?_⟩) ?_
      rotate_left
      · ((intro w hSw; (try dsimp only at hSw); go_simp) <;> (with_reducible rfl))
      try simp only [Act.put, List.setIfInBounds_toArray, List.set_cons_zero, List.set_cons_succ]
      refine Rg.take (i := 4) (v := ?_) rfl (by kernel_rfl) (fun _ _ _ h => h) hS0 (Or.inl ⟨by rfl, ?_⟩) ?_
      rotate_left
      · ((intro w hSw; (try dsimp only at hSw); go_simp) <;> (with_reducible rfl))
      try simp only [Act.put, List.setIfInBounds_toArray, List.set_cons_zero, List.set_cons_succ]
      refine Rg.take (i := 5) (v := ?_) rfl (by kernel_rfl) (fun _ _ _ h => h) hS0 (Or.inl ⟨by rfl, ?_⟩) ?_
      rotate_left
      · ((intro w hSw; (try dsimp only at hSw); go_simp) <;> (with_reducible rfl))
      try simp only [Act.put, List.setIfInBounds_toArray, List.set_cons_zero, List.set_cons_succ]
      refine Rg.take (i := 6) (v := ?_) rfl (by kernel_rfl) (fun _ _ _ h => h) hS0 (Or.inl ⟨by rfl, ?_⟩) ?_
      rotate_left
      · ((intro w hSw; (try dsimp only at hSw); go_simp) <;> (with_reducible rfl))
      try simp only [Act.put, List.setIfInBounds_toArray, List.set_cons_zero, List.set_cons_succ]
      refine Rg.take (i := 7) (v := ?_) rfl (by kernel_rfl) (fun _ _ _ h => h) hS0 (Or.inl ⟨by rfl, ?_⟩) ?_
      rotate_left
      · ((intro w hSw; (try dsimp only at hSw); go_simp) <;> (with_reducible rfl))
      try simp only [Act.put, List.setIfInBounds_toArray, List.set_cons_zero, List.set_cons_succ]
      refine Rg.one (i := 8) rfl (by kernel_rfl) (fun K hK => ?_)
      go_simp
      (with_reducible refine (fnew 6 w1.drew).mono ?_)
      rintro e w2 ⟨v2, rfl, hc2, hb2⟩
      have hS1' := (hb2.cell (World.block_lt_of_cell? _ _ g0d)).trans g0d
      have HC2 := Lib.hid (show Chn w2 v2 [.num 6] from hc2)
      have HB2 := Lib.hid (below_then (drew_below w1 1) hb2)
      clear hc2 hb2
      change K _ _
      have hS1 : (fun x => x.cell? ⟨s, 0, none⟩ = some (.int .i64 (most : Nat))) w2 := hS1'
      refine hK.out _ _ (fun _ => hS1) ?_
      clear hK K
      try simp only [Act.put, List.setIfInBounds_toArray, List.set_cons_zero, List.set_cons_succ]
      refine Rg.one (i := 9) rfl (by kernel_rfl) (fun K hK => ?_)
      go_simp
      (with_reducible refine (fbound most _ v2 [.num 6] w2 HC2.out).mono ?_)
      rintro e w3 ⟨v3, rfl, hc3, hb3⟩
      have hS2' := (hb3.cell (World.block_lt_of_cell? _ _ hS1')).trans hS1'
      have hc3 : Chn w3 v3 (.bnd _ _ :: [.num 6]) := hc3
      have hS3 := HS1.out.err (below_then HB2.out hb3) hc3
      have k0 := hS3.s2.blk_.at_ 0 rfl
      have k1 := hS3.s2.blk_.free 0
      simp only [List.getElem_toArray, List.getElem_cons_succ, List.getElem_cons_zero] at k0
      have hS4 : Sat (blk c6 #[.slice none 0 0] 59 :: _) (w3.setCell ⟨c6, 0, none⟩ (.slice none 0 0)) := hS3.s2.set 0 (.slice none 0 0)
      have m0 := hS4.blk_.at_ 0 rfl
      simp only [List.getElem_toArray, List.getElem_cons_succ, List.getElem_cons_zero] at m0
      have q0 := hS4.s3.blk_.at_ 0 rfl
      simp only [List.getElem_toArray, List.getElem_cons_succ, List.getElem_cons_zero] at q0
      have HB4 := Lib.hid hS4.blk_
      have HS4 := Lib.hid hS4.drop.s2.drop
      clear hc3 hb3 hS3 hS4
      change K _ _
      have hS2 : (fun x => x.cell? ⟨s, 0, none⟩ = some (.int .i64 (most : Nat))) w3 := hS2'
      refine hK.out _ _ (fun _ => hS2) ?_
      clear hK K
      try simp only [Act.put, List.setIfInBounds_toArray, List.set_cons_zero, List.set_cons_succ]
      refine Rg.one (i := 10) rfl (by kernel_rfl) (fun K hK => ?_)
      go_simp
      have hS3 : (fun x => x.cell? ⟨s, 0, none⟩ = some (.int .i64 (most : Nat))) (w3.setCell ⟨c6, 0, none⟩ (.slice none 0 0)) := q0
      refine hK.out _ _ (fun _ => hS3) ?_
      clear hK K
      try simp only [Act.put, List.setIfInBounds_toArray, List.set_cons_zero, List.set_cons_succ]
      refine Rg.one (i := 11) rfl (by kernel_rfl) (fun K hK => ?_)
      go_simp
      refine hK.out _ _ (fun _ => hS3) ?_
      clear hK K
      try simp only [Act.put, List.setIfInBounds_toArray, List.set_cons_zero, List.set_cons_succ]
      refine Rg.done (by kernel_rfl) ?_ _
      go_wp2_with fail
      refine bodyPost_ret (results_leaf rfl _ _ c6 _ _ _ rfl HB4.out Tryz.underlying59 rfl (by kernel_rfl)) rfl ?_
      exact HQ.out _ _ ⟨fun y hy => (by rw [HD.out] at hy; cases hy), fun _ => ⟨_, _, _, v3, _, rfl, by simp, a1, c1, HS4.out⟩⟩
end Go.Proofs.YtlekfpeonehggaaGreatDoor
end
