/- Chapter 16: the law's step. -/
import Derived.Test.YtkfciofpbnlmeaaDoorVl
import Derived.Deep.DeepCutAuto
set_option linter.unusedVariables false
set_option linter.unusedSimpArgs false
set_option maxRecDepth 100000
namespace Go.Proofs.YtkfciofpbnlmeaaDoor
open Go.Proofs.BL Go.Proofs.Peel Go.RowKit Go.Proofs.Ky Go.Proofs.Vl

structure Opv where
  kind : Int
  near : Bool
  n : Int
  l : List Str
/-- Both histories, side by side. -/
def Both (p q f : Nat) (all : List (List Str)) (ls : List Part) (w : World) : Prop := DhS q f all (hisP p f all :: ls) w
structure Few (f : Nat) (all : List (List Str)) (k : Nat) : Prop where
  a : f ≤ all.length
  b : all.length ≤ k
  c : ∀ s ∈ all, s.length ≤ 1000
def StepPost (p q k : Nat) (ls : List Part) (e : Ending) (w' : World) : Prop := e = .returned (.bool true) ∧ ∃ f' all', Few f' all' (k + 1) ∧ Both p q f' all' ls w'
theorem DhS.below {q f : Nat} {all : List (List Str)} {ls : List Part} {w w' : World} (h : DhS q f all ls w) (hb : Below w.heap.size w w') : DhS q f all ls w' := by
  obtain ⟨A, c, vs, h1, h2, h3⟩ := h
  exact ⟨A, c, vs, h1, h2, h3.below hb⟩
theorem DhS.front {q f : Nat} {all : List (List Str)} {B : Part} {ls : List Part} {w : World} (h : DhS q f all (B :: ls) w) : ∃ (A : Option Addr) (c : Nat) (vs : List Value), (A = none → c = 0) ∧ all.length ≤ c ∧ Sat (B :: dhB q f (.slice A all.length c) :: roR 1 A (lfR vs) :: roL vs all :: ls) w := by
  obtain ⟨A, c, vs, h1, h2, h3⟩ := h
  exact ⟨A, c, vs, h1, h2, h3.s3⟩
theorem DhS.back {q f : Nat} {all : List (List Str)} {B : Part} {ls : List Part} {w : World} {A : Option Addr} {c : Nat} {vs : List Value} (h1 : A = none → c = 0) (h2 : all.length ≤ c) (h : Sat (B :: dhB q f (.slice A all.length c) :: roR 1 A (lfR vs) :: roL vs all :: ls) w) : DhS q f all (B :: ls) w := ⟨A, c, vs, h1, h2, h.t3⟩
theorem DhS.tail {q f : Nat} {all : List (List Str)} {ls ls' : List Part} {w : World} (h : DhS q f all ls w) (H : ∀ (a b c : Part), Sat (a :: b :: c :: ls) w → Sat (a :: b :: c :: ls') w) : DhS q f all ls' w := by
  obtain ⟨A, c, vs, h1, h2, h3⟩ := h
  exact ⟨A, c, vs, h1, h2, H _ _ _ h3⟩
theorem fst_yes {f : Nat} {all : List (List Str)} {n : Int} {reads : List Str} (h : checkV f all n reads = 23) : ∃ s : Nat, n = s ∧ s ≤ all.length ∧ fstT f all n reads = (((firstV all s reads : Nat) : Int), true) := by
  have hn : 0 ≤ n ∧ n ≤ all.length := by
    unfold checkV at h
    by_cases h1 : n < 0 ∨ n > all.length
    · rw [if_pos h1] at h; cases h
    · constructor
      · exact Int.not_lt.1 (fun h2 => h1 (.inl h2))
      · exact Int.not_lt.1 (fun h2 => h1 (.inr h2))
  refine ⟨n.toNat, by omega, by omega, ?_⟩
  rw [fstT, if_pos h]
theorem fst_no {f : Nat} {all : List (List Str)} {n : Int} {reads : List Str} (h : ¬ checkV f all n reads = 23) : fstT f all n reads = (0, false) := by rw [fstT, if_neg h]
theorem keys_yes {f : Nat} {all : List (List Str)} {n : Int} (h1 : (f : Int) < n) (h2 : n ≤ all.length) : ∃ i s, n = ((i + 1 : Nat) : Int) ∧ all[i]? = some s ∧ keysT f all n = s := by
  have hi : (n - 1).toNat < all.length := by omega
  refine ⟨(n - 1).toNat, all[(n - 1).toNat], by omega, List.getElem?_eq_getElem hi, ?_⟩
  rw [keysT, if_pos ⟨h1, h2⟩, List.getD, List.getElem?_eq_getElem hi]
  rfl
theorem keys_short {f k : Nat} {all : List (List Str)} {nn : Int} (h : ∀ s ∈ all, s.length ≤ k) : (keysT f all nn).length ≤ k := by
  unfold keysT
  split
  · rw [List.getD]
    cases hg : all[(nn - 1).toNat]? with
    | none => simp
    | some s => exact h s (List.mem_of_getElem? hg)
  · simp
theorem stepEnd {p q f k : Nat} {all : List (List Str)} {B : Part} {ls : List Part} {w w' : World} (h : DhS q f all (hisP p f all :: B :: ls) w) (hw : Few f all k) (hb : Below w.heap.size w w') : ∃ f' all', Few f' all' (k + 1) ∧ Both p q f' all' ls w' :=
  ⟨f, all, ⟨hw.a, by have := hw.b; omega, hw.c⟩, (h.below hb).tail (fun a b c h => h.s4.drop)⟩
set_option maxHeartbeats 16000000 in
theorem lStep (p q f k : Nat) (all : List (List Str)) (o : Opv) (A : Option Addr) (c : Nat) (ls : List Part) (w : World) (hE : ∀ w', Sat ls w' → ErrT w') (h : Both p q f all ls w) (hw : Few f all k) (hk : k ≤ 100)
    (hr : RowsAt w 1 A (rwS o.l)) (hl : o.l.length ≤ 9223372036854775807) (hn1 : -9223372036854775808 ≤ o.n) (hn2 : o.n ≤ 9223372036854775807) :
    Calls Tryd.prog 12 #[.pointer (some ⟨p, 0, none⟩), .pointer (some ⟨q, 0, none⟩), .agg #[.int .i64 o.kind, .bool o.near, .int .i64 o.n, .slice A o.l.length c]] w (StepPost p q k ls) := by
  refine via fun Q hQ => ?_
  obtain ⟨kind, near, N, L⟩ := o
  simp only at hr hl hn1 hn2
  have HQ := Lib.hid hQ
  have HE := Lib.hid hE
  have HW := Lib.hid hw
  have HBo := Lib.hid h
  have hal := (Below.refl w.heap.size w).alloc (Nat.le_refl _) (.cells #[.int .i64 kind, .bool near, .int .i64 N, .slice A L.length c] 39)
  have HSo := Lib.hid (lSome A L.length c L _ (hr.below hal) rfl hl)
  have hbx := Blk.new w #[.int .i64 kind, .bool near, .int .i64 N, .slice A L.length c] 39
  have HAL := Lib.hid hal
  clear hQ hE h hr hal
  go_enter Tryd.func12, Tryd.ntmps12
  go_wp2_with fail
  (with_reducible refine HSo.out.mono ?_)
  rintro e w1 ⟨v7, rfl, ho7, hb1⟩
  have hbx := hbx.below hb1
  have hB0 := HBo.out.below (below_then HAL.out hb1)
  have hB0m : DhS q f all (hisP p f all :: ls) w1 := hB0
  obtain ⟨A7, c7, e7, hc7, hz7, _⟩ := ho7.slv'
  rw [rwS_len] at e7 hc7
  subst e7
  have HB1 : Hid (DhS q f all (hisP p f all :: roR 1 A7 (rwS (someL L)) :: ls) w1) := Lib.hid (by
    obtain ⟨Ad, cd, vs, h1, h2, h3⟩ := HBo.out.below HAL.out
    obtain ⟨A7', c7', e, _, _, h4⟩ := (h3.made hb1 ho7).still
    injection e with e1 _ e3
    subst e1
    refine ⟨Ad, cd, vs, h1, h2, ?_⟩
    exact h4.s4.s4.s4.s4)
  clear HBo hB0 hB0m HSo HAL ho7 hb1
  generalize w.heap.size = b5 at *
  have HLl := Lib.hid (someL_len L)
  generalize hl7 : (someL L).length = n7 at *
  have HN7 := Lib.hid hl7
  clear hl7
  generalize someL L = l at *
  have k0 := hbx.at_ 0 rfl
  have k1 := hbx.at_ 1 rfl
  have k2 := hbx.at_ 2 rfl
  simp only [List.getElem_toArray, List.getElem_cons_succ, List.getElem_cons_zero] at k0 k1 k2
  have hlen : ∃ (Ad : Option Addr) (cd : Nat), w1.cell? ⟨q, 0, none⟩ = some (.slice Ad all.length cd) := by
    obtain ⟨Ad, cd, vs, h1, h2, h3⟩ := HB1.out
    exact ⟨Ad, cd, h3.blk_.at_ 0 rfl⟩
  obtain ⟨Ad, cd, q0⟩ := hlen
  have hb1000 := hw.b
  go_upto_if 26 with fail
  go_cut [8] (fun s8 wx => ∃ nn : Int, s8 = .int .i64 nn ∧ -9223372036854775808 ≤ nn ∧ nn ≤ 9223372036854775807 ∧ wx = w1)
  case first =>
    generalize all.length = an at *
    cases near with
    | false =>
      go_wp2_with fail
      go_meet
      exact ⟨N, rfl, hn1, hn2, rfl⟩
    | true =>
      have z1 : -8 < N.tmod 8 := by have := Int.tmod_lt_of_pos (-N) (show (0 : Int) < 8 by decide); rw [Int.neg_tmod] at this; omega
      have z2 : N.tmod 8 < 8 := Int.tmod_lt_of_pos N (by decide)
      generalize hz : N.tmod 8 = z at z1 z2
      by_cases hz0 : z < 0
      · have hw1 : IntKind.i64.wrap (-z) = -z := by rw [IntKind.wrap_i64]; omega
        have hw2 : IntKind.i64.wrap ((an : Int) - -z) = (an : Int) - -z := by rw [IntKind.wrap_i64]; omega
        have hw3 : IntKind.i64.wrap ((an : Int) + z) = (an : Int) + z := by rw [IntKind.wrap_i64]; omega
        go_wp2_with fail
        go_meet
        exact ⟨(an : Int) - -z, by first | rfl | (congr 1; omega), by omega, by omega, rfl⟩
      · have hw2 : IntKind.i64.wrap ((an : Int) - z) = (an : Int) - z := by rw [IntKind.wrap_i64]; omega
        go_wp2_with fail
        go_meet
        exact ⟨(an : Int) - z, rfl, by omega, by omega, rfl⟩
  case rest =>
    obtain ⟨nn, rfl, hnn1, hnn2, rfl⟩ := hcut
    clear hn1 hn2 q0
    have HEw := Lib.hid (show ErrT wc from HE.out wc (by obtain ⟨A, c, vs, h1, h2, h3⟩ := HB1.out; exact h3.drop.drop.drop.drop.drop))
    have HRl := Lib.hid (show RowsAt wc 1 A7 (rwS l) from by obtain ⟨A, c, vs, h1, h2, h3⟩ := HB1.out; exact h3.s4.rows_)
    by_cases hk01 : kind = 0 ∨ kind = 1
    · obtain ⟨Ad2, cd2, vs2, h1, h2, h3⟩ := HB1.out
      have hS0 := h3.lit 9 1 0 [] #[] rfl (by decide) rfl (fun r h => by cases h) rfl
      have HS0 := Lib.hid hS0
      have HR0 := Lib.hid hS0.s5.rows_
      have HZ := Lib.hid h1
      have HC := Lib.hid h2
      have HLr := Lib.hid (show n7 = (rwS l).length from by rw [rwS_len]; exact HN7.out.symm)
      have HZ7 := Lib.hid hz7
      clear h1 h2 h3 hS0
      rcases hk01 with rfl | rfl
      all_goals
        go_wp2_with (at_builtin; refine Classical.byContradiction fun hcontra => ?_)
        refine hcontra ?_
        clear hcontra
        refine satAppN (W := wc.alloc (.cells #[] 9)) 9 1 16 (.string ⟨#[]⟩) rfl (.tmp 46) (.tmp 47) 23 rfl Tryd.underlying23 (by kernel_rfl) rfl (by decide) (by decide) _ [] (rwS l) rfl A7 n7 c7 rfl HLr.out HZ7.out HR0.out (rwS_two l) (rwS_one l) HS0.out rfl (by have := HLr.out; have := HLl.out; simp; omega) ?_
        intro v2 w2 hS2
        have hS2 : Sat (ownR v2 9 1 (rwS l) :: dhB q f (.slice Ad2 all.length cd2) :: roR 1 Ad2 (lfR vs2) :: roL vs2 all :: hisP p f all :: roR 1 A7 (rwS l) :: ls) w2 := hS2
        obtain ⟨AX, cX, e2, _, _, hrX⟩ := hS2.own_.slv'
        rw [← HLr.out] at e2
        subst e2
        have HAd := Lib.hid (vAdd p f all AX n7 cX l (ownR (.slice AX n7 cX) 9 1 (rwS l) :: dhB q f (.slice Ad2 all.length cd2) :: roR 1 Ad2 (lfR vs2) :: roL vs2 all :: roR 1 A7 (rwS l) :: ls) w2 hS2.s4 HW.out.a (by have := HW.out.b; omega) HW.out.c hrX HN7.out (by have := HLl.out; omega))
        clear hS2 hrX HS0 HR0
        go_wp2_with fail
        (with_reducible refine HAd.out.mono ?_)
        rintro e w3 ⟨rfl, hS3⟩
        have HOX := Lib.hid hS3.s1
        have HLX := HN7
        have hm6 : n7 ≤ 1000 := by have := HLl.out; omega
        generalize n7 = m at *
        clear hS3 HAd
        go_wp2_with fail
        go_loopg [57] m (fun g xx wr => ∃ (j : Nat) (rows : List Str), j ≤ m ∧ g = m - j ∧ xx = .int .i64 j ∧ Hid (rows.length = m) ∧ Hid (Sat (ownR (.slice AX m cX) 9 1 (rwS rows) :: hisP p f (all ++ [setR tx l]) :: dhB q f (.slice Ad2 all.length cd2) :: roR 1 Ad2 (lfR vs2) :: roL vs2 all :: roR 1 A7 (rwS l) :: ls) wr))
        case atStart => exact ⟨0, l, Nat.zero_le _, rfl, rfl, HLX, HOX⟩
        case round =>
          obtain ⟨j, rows, hj, rfl, rfl, HRl, HSr⟩ := hrel
          by_cases hjm : j < m
          · have hy : rows[j]? = some (rows[j]'(by rw [HRl.out]; exact hjm)) := List.getElem?_eq_getElem _
            have hyr : (rwS rows)[j]? = some (enS (rows[j]'(by rw [HRl.out]; exact hjm))) := by rw [rwS, List.getElem?_map, hy]; rfl
            obtain ⟨g, cg, eg, _, _⟩ := own_some HSr.out.own_ (fun e => by rw [e] at hyr; cases hyr)
            injection eg with eg1 eg2 eg3
            clear eg2 eg3
            subst eg1
            obtain ⟨k1, k2⟩ := own_at HSr.out.own_ hyr 0 rfl
            rw [Nat.mul_one, Nat.add_zero] at k1 k2
            have hS2 := HSr.out.setOwn hyr 0 (by decide) (.string ⟨#[111, 116, 104, 101, 114]⟩)
            rw [Nat.mul_one, Nat.add_zero] at hS2
            have HS2 := Lib.hid (show Sat (ownR (.slice (some ⟨g, 0, none⟩) m cX) 9 1 (rwS (rows.set j ⟨#[111, 116, 104, 101, 114]⟩)) :: _) (wr.setCell ⟨g, j, none⟩ (.string ⟨#[111, 116, 104, 101, 114]⟩)) from by rw [rwS, List.map_set]; exact hS2)
            clear hS2 hy hyr
            go_wp2_with fail
            go_roundg (m - (j + 1))
            case measure => omega
            case rel => exact ⟨j + 1, rows.set j ⟨#[111, 116, 104, 101, 114]⟩, by omega, rfl, by go_num, Lib.hid (by rw [List.length_set]; exact HRl.out), HS2⟩
          · obtain rfl : j = m := by omega
            have HDa := Lib.hid (dAdd q f all A7 j c7 l (hisP p f (all ++ [setR tx l]) :: roR 1 A7 (rwS l) :: ls) wr (DhS.back (B := hisP p f (all ++ [setR tx l])) HZ.out HC.out HSr.out.drop) (fun w' hs => hs.drop.rows_) HN7.out (by have := HLl.out; omega) (by have := HW.out.b; omega))
            clear HSr
            go_wp2_with fail
            (with_reducible refine HDa.out.mono ?_)
            rintro e w4 ⟨rfl, hd4⟩
            have hsl := set_len tx l
            have HF := Lib.hid (show ∃ f' all', Few f' all' (k + 1) ∧ Both p q f' all' ls w4 from ⟨f, all ++ [setR tx l], ⟨by have := HW.out.a; rw [List.length_append]; omega, by have := HW.out.b; rw [List.length_append]; simp; omega, fun s hs => by
              rcases List.mem_append.1 hs with hs | hs
              · exact HW.out.c s hs
              · rw [List.mem_singleton] at hs; subst hs; have := HN7.out; have := HLl.out; omega⟩, hd4.tail (fun a b c h => h.s4.drop)⟩)
            clear hd4 hsl
            go_wp2_with fail
            exact HQ.out _ _ ⟨rfl, HF.out⟩
    · have n0 : ¬ kind = 0 := fun h => hk01 (.inl h)
      have n1 : ¬ kind = 1 := fun h => hk01 (.inr h)
      have b0 : (kind == 0) = false := int_diff n0
      have b1 : (kind == 1) = false := int_diff n1
      by_cases hk23 : kind = 2 ∨ kind = 3
      · have HCh := Lib.hid (show ∃ Lv vs, HisF wc p f Lv vs all from by
          obtain ⟨A, c, vs, h1, h2, h3⟩ := HB1.out
          exact Sat.hisF h3.s3 HW.out.a (by have := HW.out.b; omega) HW.out.c)
        obtain ⟨Lv, vs, hF⟩ := HCh.out
        have HC := Lib.hid (vCheck p f Lv vs all nn A7 n7 c7 l wc hF HEw.out HRl.out HN7.out (by have := HLl.out; omega))
        have HD := Lib.hid (fun (w' : World) (hb : Below wc.heap.size wc w') => dChk q f all nn A7 n7 c7 l w' (HB1.out.told.below hb) (by have := HW.out.b; omega) HW.out.c (HRl.out.below hb) HN7.out (by have := HLl.out; omega))
        clear hF HCh
        generalize checkV f all nn l = cv at *
        rcases hk23 with rfl | rfl
        all_goals
          go_wp2_with fail
          (with_reducible refine HC.out.mono ?_)
          rintro e w2 ⟨rfl, hb2⟩
          have HB2 := Lib.hid hb2
          have HDc := Lib.hid (HD.out w2 hb2)
          clear hb2
          go_wp2_with fail
          (with_reducible refine HDc.out.mono ?_)
          rintro e w3 ⟨rfl, hb3⟩
          have HB3 := Lib.hid (below_then HB2.out hb3)
          have HF := Lib.hid (stepEnd HB1.out HW.out HB3.out)
          go_wp2_with fail
          exact HQ.out _ _ ⟨rfl, HF.out⟩
      · have n2 : ¬ kind = 2 := fun h => hk23 (.inl h)
        have n3 : ¬ kind = 3 := fun h => hk23 (.inr h)
        have b2 : (kind == 2) = false := int_diff n2
        have b3 : (kind == 3) = false := int_diff n3
        by_cases hk4 : kind = 4
        · subst hk4
          have HCh := Lib.hid (show ∃ Lv vs, HisF wc p f Lv vs all from by
            obtain ⟨A, c, vs, h1, h2, h3⟩ := HB1.out
            exact Sat.hisF h3.s3 HW.out.a (by have := HW.out.b; omega) HW.out.c)
          obtain ⟨Lv, vs, hF⟩ := HCh.out
          have HC := Lib.hid (vFst p f Lv vs all nn A7 n7 c7 l wc hF HRl.out HN7.out (by have := HLl.out; omega))
          have HD := Lib.hid (fun (w' : World) (hb : Below wc.heap.size wc w') => dChk q f all nn A7 n7 c7 l w' (HB1.out.told.below hb) (by have := HW.out.b; omega) HW.out.c (HRl.out.below hb) HN7.out (by have := HLl.out; omega))
          have HG := Lib.hid (fun (s : Nat) (hs : s ≤ all.length) (w' : World) (hb : Below wc.heap.size wc w') => dFst q f all s A7 n7 c7 l w' (HB1.out.told.below hb) hs (by have := HW.out.b; omega) HW.out.c (HRl.out.below hb) HN7.out (by have := HLl.out; omega))
          clear hF HCh
          by_cases h23 : checkV f all nn l = 23
          · obtain ⟨s, rfl, hs, hft⟩ := fst_yes h23
            have HFT := Lib.hid hft
            have HGs := Lib.hid (HG.out s hs)
            have H23 := Lib.hid h23
            clear hft HG h23
            generalize firstV all s l = fv at *
            go_wp2_with fail
            (with_reducible refine HC.out.mono ?_)
            rintro e w2 ⟨rfl, hb2⟩
            rw [HFT.out]
            have HB2 := Lib.hid hb2
            have HDc := Lib.hid (HD.out w2 hb2)
            clear hb2
            go_wp2_with fail
            (with_reducible refine HDc.out.mono ?_)
            rintro e w3 ⟨rfl, hb3⟩
            rw [H23.out]
            have HB3 := Lib.hid (below_then HB2.out hb3)
            have HGc := Lib.hid (HGs.out w3 HB3.out)
            clear hb3
            go_wp2_with fail
            (with_reducible refine HGc.out.mono ?_)
            rintro e w4 ⟨rfl, hb4⟩
            have HF := Lib.hid (stepEnd HB1.out HW.out (below_then HB3.out hb4))
            go_wp2_with fail
            exact HQ.out _ _ ⟨rfl, HF.out⟩
          · have HFT := Lib.hid (fst_no h23)
            clear HG
            have hne : (checkV f all nn l != 23) = true := bne_iff_ne.2 h23
            clear h23
            generalize checkV f all nn l = cv at *
            go_wp2_with fail
            (with_reducible refine HC.out.mono ?_)
            rintro e w2 ⟨rfl, hb2⟩
            rw [HFT.out]
            have HB2 := Lib.hid hb2
            have HDc := Lib.hid (HD.out w2 hb2)
            clear hb2
            go_wp2_with fail
            (with_reducible refine HDc.out.mono ?_)
            rintro e w3 ⟨rfl, hb3⟩
            have HF := Lib.hid (stepEnd HB1.out HW.out (below_then HB2.out hb3))
            go_wp2_with fail
            exact HQ.out _ _ ⟨rfl, HF.out⟩
        · have b4 : (kind == 4) = false := int_diff hk4
          by_cases hk5 : kind = 5
          · subst hk5
            obtain ⟨Ad2, cd2, vs2, h1, h2, h3⟩ := DhS.front HB1.out
            have HG := Lib.hid (vForget p f all nn _ wc h3 HW.out.a (by have := HW.out.b; omega) HW.out.c hnn2)
            have HZ := Lib.hid h1
            have HC := Lib.hid h2
            have HDg := Lib.hid (fun (K : Nat) (w' : World) (hS : Sat (hisP p (f + K) all :: dhB q f (.slice Ad2 all.length cd2) :: roR 1 Ad2 (lfR vs2) :: roL vs2 all :: roR 1 A7 (rwS l) :: ls) w') => dFgt q f all nn (hisP p (f + K) all :: roR 1 A7 (rwS l) :: ls) w' (DhS.back HZ.out HC.out hS) HW.out.a (by have := HW.out.b; omega))
            have HLe := Lib.hid (fgt_le (f := f) (len := all.length) (below := nn) HW.out.a)
            clear h1 h2 h3
            generalize hK : fgtV f all.length nn = K at *
            have HK := Lib.hid hK
            clear hK
            go_wp2_with fail
            (with_reducible refine HG.out.mono ?_)
            rintro e w2 ⟨rfl, hS2⟩
            rw [HK.out] at hS2 ⊢
            have HD := Lib.hid (HDg.out _ w2 hS2)
            clear hS2 HDg HG
            go_wp2_with fail
            (with_reducible refine HD.out.mono ?_)
            rintro e w3 ⟨rfl, hd3⟩
            have HF := Lib.hid (show ∃ f' all', Few f' all' (k + 1) ∧ Both p q f' all' ls w3 from ⟨f + K, all, ⟨HLe.out, by have := HW.out.b; omega, HW.out.c⟩, hd3.tail (fun a b c h => h.s4.drop)⟩)
            clear hd3
            go_wp2_with fail
            exact HQ.out _ _ ⟨rfl, HF.out⟩
          · have b5 : (kind == 5) = false := int_diff hk5
            by_cases hk6 : kind = 6
            · subst hk6
              have HCh := Lib.hid (show ∃ Lv vs, HisF wc p f Lv vs all from by
                obtain ⟨A, c, vs, h1, h2, h3⟩ := HB1.out
                exact Sat.hisF h3.s3 HW.out.a (by have := HW.out.b; omega) HW.out.c)
              obtain ⟨Lv, vs, hF⟩ := HCh.out
              have HKy := Lib.hid (vKeys p f Lv vs all nn wc hF)
              clear hF HCh
              obtain ⟨Ad2, cd2, vs2, hBk, hrd, hLs, hcd⟩ := HB1.out.told
              have q0 := hBk.at_ 0 rfl
              have q1 := hBk.at_ 1 rfl
              simp only [List.getElem_toArray, List.getElem_cons_succ, List.getElem_cons_zero] at q0 q1
              have HKS := Lib.hid (keys_short (nn := nn) (f := f) HW.out.c)
              have hwant : ((f : Int) < nn ∧ nn ≤ (all.length : Int) ∧ ∃ (i b o : Nat) (B : Option Addr) (cc : Nat), nn = ((i + 1 : Nat) : Int) ∧ i < all.length ∧ Ad2 = some ⟨b, o, none⟩ ∧ wc.cell? ⟨b, o + i, none⟩ = some (.slice B (keysT f all nn).length cc) ∧ RowsAt wc 1 B (rwS (keysT f all nn))) ∨ (¬ (f : Int) < nn ∧ keysT f all nn = []) ∨ ((f : Int) < nn ∧ ¬ nn ≤ (all.length : Int) ∧ keysT f all nn = []) := by
                by_cases h1 : (f : Int) < nn
                · by_cases h2 : nn ≤ (all.length : Int)
                  · obtain ⟨i, s, rfl, hi, hks⟩ := keys_yes h1 h2
                    obtain ⟨b, o, B, cc, hA, hc, _, _, hR⟩ := DhF.at_ (q := q) (f := f) (c := cd2) hrd hLs hi
                    exact .inl ⟨h1, h2, i, b, o, B, cc, rfl, (List.getElem?_eq_some_iff.1 hi).1, hA, by rw [hks]; exact hc, by rw [hks]; exact hR⟩
                  · exact .inr (.inr ⟨h1, h2, by rw [keysT, if_neg (fun h => h2 h.2)]⟩)
                · exact .inr (.inl ⟨h1, by rw [keysT, if_neg (fun h => h1 h.1)]⟩)
              generalize keysT f all nn = kt at *
              have hfew := HW.out.b
              clear hBk hrd hLs hcd
              generalize hnn : all.length = an at *
              have HAn := Lib.hid hnn
              clear hnn
              rcases hwant with ⟨t1, t2, i, b, o, B, cc, hni, hi, rfl, kk, hR⟩ | ⟨t1, rfl⟩ | ⟨t1, t2, rfl⟩
              · have hw1 : IntKind.i64.wrap (nn - 1) = (i : Int) := by rw [IntKind.wrap_i64]; omega
                have hii : (i : Int) < (an : Int) := by omega
                have HRR := Lib.hid hR
                clear hR hni
                go_wp2_with fail
                (with_reducible refine HKy.out.mono ?_)
                rintro e w2 ⟨v2, rfl, ho2, hb2⟩
                obtain ⟨Ad3, cd3, vs3, h1, h2, h3⟩ := HB1.out
                have hSm := h3.made hb2 ho2
                obtain ⟨AX, cX, e2, _, _, hrX⟩ := ho2.slv'
                rw [rwS_len] at e2
                subst e2
                have HTx := Lib.hid (lTexts AX (B) _ cX (cc) kt w2 hrX (HRR.out.below hb2) rfl (by exact HKS.out))
                have HOx := Lib.hid hSm
                have HZ1 := Lib.hid h1
                have HC1 := Lib.hid h2
                have hm6 : (kt).length ≤ 1000 := HKS.out
                clear ho2 hb2 h1 h2 h3 hSm hrX HKy
                generalize hmm : (kt).length = m at *
                have HLX := Lib.hid hmm
                clear hmm
                go_wp2_with fail
                (with_reducible refine HTx.out.mono ?_)
                rintro e w3 ⟨rfl, hb3⟩
                have HOX := Lib.hid (HOx.out.below hb3)
                clear hb3 HTx HOx
                go_wp2_with fail
                go_loopg [158] m (fun g xx wr => ∃ (j : Nat) (rows : List Str), j ≤ m ∧ g = m - j ∧ xx = .int .i64 j ∧ Hid (rows.length = m) ∧ Hid (Sat (ownR (.slice AX m cX) 9 1 (rwS rows) :: dhB q f (.slice Ad3 all.length cd3) :: roR 1 Ad3 (lfR vs3) :: roL vs3 all :: hisP p f all :: roR 1 A7 (rwS l) :: ls) wr))
                case atStart => exact ⟨0, _, Nat.zero_le _, rfl, rfl, HLX, HOX⟩
                case round =>
                  obtain ⟨j, rows, hj, rfl, rfl, HRl, HSr⟩ := hrel
                  by_cases hjm : j < m
                  · have hy : rows[j]? = some (rows[j]'(by rw [HRl.out]; exact hjm)) := List.getElem?_eq_getElem _
                    have hyr : (rwS rows)[j]? = some (enS (rows[j]'(by rw [HRl.out]; exact hjm))) := by rw [rwS, List.getElem?_map, hy]; rfl
                    obtain ⟨g, cg, eg, _, _⟩ := own_some HSr.out.own_ (fun e => by rw [e] at hyr; cases hyr)
                    injection eg with eg1 eg2 eg3
                    clear eg2 eg3
                    subst eg1
                    obtain ⟨k1, k2⟩ := own_at HSr.out.own_ hyr 0 rfl
                    rw [Nat.mul_one, Nat.add_zero] at k1 k2
                    have hS2 := HSr.out.setOwn hyr 0 (by decide) (.string ⟨#[111, 116, 104, 101, 114]⟩)
                    rw [Nat.mul_one, Nat.add_zero] at hS2
                    have HS2 := Lib.hid (show Sat (ownR (.slice (some ⟨g, 0, none⟩) m cX) 9 1 (rwS (rows.set j ⟨#[111, 116, 104, 101, 114]⟩)) :: _) (wr.setCell ⟨g, j, none⟩ (.string ⟨#[111, 116, 104, 101, 114]⟩)) from by rw [rwS, List.map_set]; exact hS2)
                    clear hS2 hy hyr
                    go_wp2_with fail
                    go_roundg (m - (j + 1))
                    case measure => omega
                    case rel => exact ⟨j + 1, rows.set j ⟨#[111, 116, 104, 101, 114]⟩, by omega, rfl, by go_num, Lib.hid (by rw [List.length_set]; exact HRl.out), HS2⟩
                  · obtain rfl : j = m := by omega
                    have HF := Lib.hid (stepEnd (show DhS q f all (hisP p f all :: roR 1 A7 (rwS l) :: ls) wr from ⟨Ad3, cd3, vs3, HZ1.out, HC1.out, HSr.out.drop⟩) HW.out (Below.refl _ _))
                    clear HSr
                    go_wp2_with fail
                    exact HQ.out _ _ ⟨rfl, HF.out⟩
              · have HRR := Lib.hid (RowsAt.nil wc 1 none)
                go_wp2_with fail
                (with_reducible refine HKy.out.mono ?_)
                rintro e w2 ⟨v2, rfl, ho2, hb2⟩
                obtain ⟨Ad3, cd3, vs3, h1, h2, h3⟩ := HB1.out
                have hSm := h3.made hb2 ho2
                obtain ⟨AX, cX, e2, _, _, hrX⟩ := ho2.slv'
                rw [rwS_len, List.length_nil] at e2
                subst e2
                have HTx := Lib.hid (lTexts AX none 0 cX 0 ([] : List Str) w2 hrX (HRR.out.below hb2) rfl (by decide))
                have HOx := Lib.hid hSm
                have HZ1 := Lib.hid h1
                have HC1 := Lib.hid h2
                have HLX := Lib.hid (rfl : ([] : List Str).length = 0)
                have hm6 : 0 ≤ 1000 := by decide
                clear ho2 hb2 h1 h2 h3 hSm hrX HKy
                go_wp2_with fail
                (with_reducible refine HTx.out.mono ?_)
                rintro e w3 ⟨rfl, hb3⟩
                have HOX := Lib.hid (HOx.out.below hb3)
                clear hb3 HTx HOx
                go_wp2_with fail
                go_loopg [158] 0 (fun g xx wr => g = 0 ∧ xx = .int .i64 0 ∧ Hid (Sat (dhB q f (.slice Ad3 all.length cd3) :: roR 1 Ad3 (lfR vs3) :: roL vs3 all :: hisP p f all :: roR 1 A7 (rwS l) :: ls) wr))
                case atStart => exact ⟨rfl, rfl, Lib.hid HOX.out.drop⟩
                case round =>
                  obtain ⟨rfl, rfl, HSr⟩ := hrel
                  have HF := Lib.hid (stepEnd (show DhS q f all (hisP p f all :: roR 1 A7 (rwS l) :: ls) wr from ⟨Ad3, cd3, vs3, HZ1.out, HC1.out, HSr.out⟩) HW.out (Below.refl _ _))
                  clear HSr
                  go_wp2_with fail
                  exact HQ.out _ _ ⟨rfl, HF.out⟩
              · have HRR := Lib.hid (RowsAt.nil wc 1 none)
                go_wp2_with fail
                (with_reducible refine HKy.out.mono ?_)
                rintro e w2 ⟨v2, rfl, ho2, hb2⟩
                obtain ⟨Ad3, cd3, vs3, h1, h2, h3⟩ := HB1.out
                have hSm := h3.made hb2 ho2
                obtain ⟨AX, cX, e2, _, _, hrX⟩ := ho2.slv'
                rw [rwS_len, List.length_nil] at e2
                subst e2
                have HTx := Lib.hid (lTexts AX none 0 cX 0 ([] : List Str) w2 hrX (HRR.out.below hb2) rfl (by decide))
                have HOx := Lib.hid hSm
                have HZ1 := Lib.hid h1
                have HC1 := Lib.hid h2
                have HLX := Lib.hid (rfl : ([] : List Str).length = 0)
                have hm6 : 0 ≤ 1000 := by decide
                clear ho2 hb2 h1 h2 h3 hSm hrX HKy
                go_wp2_with fail
                (with_reducible refine HTx.out.mono ?_)
                rintro e w3 ⟨rfl, hb3⟩
                have HOX := Lib.hid (HOx.out.below hb3)
                clear hb3 HTx HOx
                go_wp2_with fail
                go_loopg [158] 0 (fun g xx wr => g = 0 ∧ xx = .int .i64 0 ∧ Hid (Sat (dhB q f (.slice Ad3 all.length cd3) :: roR 1 Ad3 (lfR vs3) :: roL vs3 all :: hisP p f all :: roR 1 A7 (rwS l) :: ls) wr))
                case atStart => exact ⟨rfl, rfl, Lib.hid HOX.out.drop⟩
                case round =>
                  obtain ⟨rfl, rfl, HSr⟩ := hrel
                  have HF := Lib.hid (stepEnd (show DhS q f all (hisP p f all :: roR 1 A7 (rwS l) :: ls) wr from ⟨Ad3, cd3, vs3, HZ1.out, HC1.out, HSr.out⟩) HW.out (Below.refl _ _))
                  clear HSr
                  go_wp2_with fail
                  exact HQ.out _ _ ⟨rfl, HF.out⟩
            · have b6 : (kind == 6) = false := int_diff hk6
              have HF := Lib.hid (stepEnd HB1.out HW.out (Below.refl _ _))
              go_wp2_with fail
              exact HQ.out _ _ ⟨rfl, HF.out⟩
end Go.Proofs.YtkfciofpbnlmeaaDoor
