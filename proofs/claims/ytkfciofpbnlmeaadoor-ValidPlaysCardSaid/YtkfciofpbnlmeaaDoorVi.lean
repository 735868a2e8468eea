/- Chapter 16: the law's some; ValidLater, walked. -/
import Derived.Test.YtkfciofpbnlmeaaDoorVh
import Derived.Deep.DeepCutAuto
set_option linter.unusedVariables false
set_option linter.unusedSimpArgs false
set_option maxRecDepth 100000
namespace Go.Proofs.YtkfciofpbnlmeaaDoor
open Go.Proofs.BL Go.Proofs.Peel Go.RowKit Go.Proofs.Ky Go.Proofs.Vl

def cut20 (s : Str) : Str := if 20 < s.size then s.extract 0 20 else s
def someL (l : List Str) : List Str := (l.take 6).map cut20
theorem someL_len (l : List Str) : (someL l).length ≤ 6 := by rw [someL, List.length_map, List.length_take]; omega
theorem some_end {l : List Str} {j : Nat} (hj : j ≤ 6) (h : j = l.length ∨ j = 6) : (l.take j).map cut20 = someL l := by
  unfold someL
  rcases h with rfl | rfl
  · rw [List.take_of_length_le (Nat.le_refl _), List.take_of_length_le hj]
  · rfl
theorem some_next {l : List Str} {j : Nat} {r : Str} (h : l[j]? = some r) : rwS ((l.take (j + 1)).map cut20) = rwS ((l.take j).map cut20) ++ [enS (cut20 r)] := by
  have hj := (List.getElem?_eq_some_iff.1 h).1
  have e : l[j] = r := (List.getElem?_eq_some_iff.1 h).2
  rw [List.take_succ_eq_append_getElem hj, e]
  simp [rwS]
theorem enS_one (s : Str) : ∀ u ∈ enS s, u.oneCell' = true := fun u hu => by
  simp [enS] at hu
  subst hu
  rfl
set_option maxHeartbeats 4000000 in
theorem lSome (A : Option Addr) (n c : Nat) (l : List Str) (w : World) (hr : RowsAt w 1 A (rwS l)) (hn : l.length = n) (hl : n ≤ 9223372036854775807) :
    Calls Tryd.prog 8 #[.slice A n c] w (SrtPost (someL l) w) := by
  refine via fun Q hQ => ?_
  have HQ := Lib.hid hQ
  have HR := Lib.hid hr
  have HNL := Lib.hid hn
  clear hr hn hQ
  go_enter Tryd.func8, Tryd.ntmps8
  go_wp2_with fail
  go_loopg [3, 8] n (fun g x3 x8 wr => ∃ j : Nat, j ≤ n ∧ j ≤ 6 ∧ g = n - j ∧ x8 = .int .i64 j ∧ Hid (BL.Own wr w.heap.size 9 1 x3 (rwS ((l.take j).map cut20))) ∧ Hid (Below w.heap.size w wr))
  case atStart => exact ⟨0, Nat.zero_le _, Nat.zero_le _, rfl, rfl, Lib.hid (BL.Own.nil _ _ _ _), Lib.hid (Below.refl _ _)⟩
  case round =>
    obtain ⟨j, hj, hj6, rfl, rfl, HO, HB⟩ := hrel
    by_cases hlt : j < n
    · have hx : l[j]? = some (l[j]'(by rw [HNL.out]; exact hlt)) := List.getElem?_eq_getElem _
      generalize l[j]'(by rw [HNL.out]; exact hlt) = s at hx
      have hnx := some_next hx
      obtain ⟨b, o, hA, c1⟩ := txtAt (HR.out.below HB.out) hx
      subst hA
      by_cases h6 : j < 6
      · have h6i : ¬ (6 : Int) ≤ (j : Int) := by omega
        by_cases hk : 20 < s.size
        · have HNX := Lib.hid (show rwS ((l.take (j + 1)).map cut20) = rwS ((l.take j).map cut20) ++ [enS (s.extract 0 20)] by rw [hnx, cut20, if_pos hk])
          clear hx hnx
          go_wp2_with (at_builtin; (refine append1 w.heap.size 9 1 16 (.string ⟨#[]⟩) rfl (.tmp 20) (.tmp 22) 23 rfl Tryd.underlying23 (by kernel_rfl) rfl (by decide) (by decide) _ (rwS ((l.take j).map cut20)) (enS (s.extract 0 20)) rfl _ rfl (by simp) rfl (enS_one _) HO.out HB.out.size (by rw [rwS_len]; simp; omega) ?_); intro v1 w1 hown1 hfr1; have HO2 := Lib.hid hown1; have HB2 := Lib.hid (HO.out.fr_below HB.out HB.out.size hfr1); clear hown1 hfr1)
          go_roundg (n - (j + 1))
          case measure => omega
          case rel => exact ⟨j + 1, by omega, by omega, rfl, rfl, Lib.hid (by rw [HNX.out]; exact HO2.out), HB2⟩
        · have HNX := Lib.hid (show rwS ((l.take (j + 1)).map cut20) = rwS ((l.take j).map cut20) ++ [enS s] by rw [hnx, cut20, if_neg hk])
          clear hx hnx
          go_wp2_with (at_builtin; (refine append1 w.heap.size 9 1 16 (.string ⟨#[]⟩) rfl (.tmp 20) (.tmp 22) 23 rfl Tryd.underlying23 (by kernel_rfl) rfl (by decide) (by decide) _ (rwS ((l.take j).map cut20)) (enS s) rfl _ rfl (by simp) rfl (enS_one _) HO.out HB.out.size (by rw [rwS_len]; simp; omega) ?_); intro v1 w1 hown1 hfr1; have HO2 := Lib.hid hown1; have HB2 := Lib.hid (HO.out.fr_below HB.out HB.out.size hfr1); clear hown1 hfr1)
          go_roundg (n - (j + 1))
          case measure => omega
          case rel => exact ⟨j + 1, by omega, by omega, rfl, rfl, Lib.hid (by rw [HNX.out]; exact HO2.out), HB2⟩
      · obtain rfl : j = 6 := by omega
        have HO3 := Lib.hid (show BL.Own wr w.heap.size 9 1 u3 (rwS (someL l)) from by rw [← some_end (Nat.le_refl 6) (.inr rfl)]; exact HO.out)
        clear hx hnx
        go_wp2_with fail
        exact HQ.out _ _ ⟨_, rfl, HO3.out, HB.out⟩
    · obtain rfl : j = n := by omega
      have HO3 := Lib.hid (show BL.Own wr w.heap.size 9 1 u3 (rwS (someL l)) from by rw [← some_end hj6 (.inl HNL.out.symm)]; exact HO.out)
      go_wp2_with fail
      exact HQ.out _ _ ⟨_, rfl, HO3.out, HB.out⟩
/-- A slice of lists of texts, told of a world. -/
def LsW (w : World) (A : Option Addr) (P : List (List Str)) : Prop :=
  ∀ (i : Nat) (r : List Str), P[i]? = some r → ∃ b o B cc, A = some ⟨b, o, none⟩ ∧ w.cell? ⟨b, o + i, none⟩ = some (.slice B r.length cc) ∧ r.length ≤ cc ∧ RowsAt w 1 B (rwS r)
def addsL (P : List (List Str)) (i : Nat) : List (List Str) := (P.take (min i 10)).map (fun s => setR tx (someL s))
theorem addsL_zero (P : List (List Str)) : addsL P 0 = [] := by simp [addsL]
theorem addsL_len (P : List (List Str)) (i : Nat) : (addsL P i).length ≤ 10 := by rw [addsL, List.length_map, List.length_take]; omega
theorem addsL_next {P : List (List Str)} {i : Nat} {s : List Str} (h : P[i]? = some s) (hi : i < 10) : addsL P (i + 1) = addsL P i ++ [setR tx (someL s)] := by
  have hj := (List.getElem?_eq_some_iff.1 h).1
  have e : P[i] = s := (List.getElem?_eq_some_iff.1 h).2
  rw [addsL, addsL, Nat.min_eq_left (by omega), Nat.min_eq_left (by omega), List.take_succ_eq_append_getElem hj, e]
  simp
theorem addsL_stay {P : List (List Str)} {i : Nat} (hi : ¬ i < 10) : addsL P (i + 1) = addsL P i := by
  rw [addsL, addsL, Nat.min_eq_right (by omega), Nat.min_eq_right (by omega)]
theorem adds_short {base : List (List Str)} (hb : ∀ s ∈ base, s.length ≤ 1000) (P : List (List Str)) (i : Nat) : ∀ s ∈ base ++ addsL P i, s.length ≤ 1000 := fun s hs => by
  rcases List.mem_append.1 hs with hs | hs
  · exact hb s hs
  · obtain ⟨r, _, rfl⟩ := List.mem_map.1 hs
    have := set_len tx (someL r)
    have := someL_len r
    omega
set_option maxHeartbeats 16000000 in
theorem lawLater (P0 P1 : List (List Str)) (n0 n1 n2 : Nat) (hn0 : P0.length = n0) (hn1 : P1.length = n1) (since : Int) (R0 : List Str) (hn2 : R0.length = n2) (A0 A1 A2 : Option Addr) (c0 c1 c2 : Nat) (W : World) (hE : ErrT W)
    (h0 : LsW W A0 P0) (h1 : LsW W A1 P1) (hs0 : ∀ r ∈ P0, r.length ≤ 9223372036854775807) (hs1 : ∀ r ∈ P1, r.length ≤ 9223372036854775807) (hm0 : n0 ≤ 9223372036854775807) (hm1 : n1 ≤ 9223372036854775807) (hr2 : RowsAt W 1 A2 (rwS R0)) (hm2 : n2 ≤ 9223372036854775807) :
    Calls Tryd.prog 3 #[.slice A0 n0 c0, .int .i64 since, .slice A2 n2 c2, .slice A1 n1 c1] W (LawPost W) := by
  refine via fun Q hQ => ?_
  have HQ := Lib.hid hQ
  have HE := Lib.hid (fun (w : World) (h : Below W.heap.size W w) => hE.below h)
  have HNw := Lib.hid (vNew [old W] W (Sat.start W))
  have HP0 := Lib.hid h0
  have HP1 := Lib.hid h1
  have HP0s := Lib.hid hs0
  have HP1s := Lib.hid hs1
  have HNP0 := Lib.hid hn0
  have HNP1 := Lib.hid hn1
  have HR := Lib.hid hr2
  have HN2 := Lib.hid hn2
  have HSHb := Lib.hid (show ∀ s ∈ ([] : List (List Str)), s.length ≤ 1000 from fun s hs => by cases hs)
  clear hQ hE h0 h1 hs0 hs1 hn0 hn1 hr2 hn2
  go_enter Tryd.func3, Tryd.ntmps3
  go_wp2_with fail
  (with_reducible refine HNw.out.mono ?_)
  rintro e w1 ⟨p, rfl, hS1⟩
  have HS1 := Lib.hid hS1
  clear hS1 HNw
  go_wp2_with fail
  go_loopg [21] n0 (fun g x21 wr => ∃ i : Nat, i ≤ n0 ∧ g = n0 - i ∧ x21 = .int .i64 i ∧ Hid (Sat (hisP p 0 ([] ++ addsL P0 i) :: old W :: []) wr))
  case atStart => exact ⟨0, Nat.zero_le _, rfl, rfl, Lib.hid (by rw [addsL_zero, List.append_nil]; exact HS1.out)⟩
  case round =>
    obtain ⟨i, hi, rfl, rfl, HSr⟩ := hrel
    by_cases hlt : i < n0
    · have hx : P0[i]? = some (P0[i]'(by rw [HNP0.out]; exact hlt)) := List.getElem?_eq_getElem _
      generalize P0[i]'(by rw [HNP0.out]; exact hlt) = s at hx
      obtain ⟨b, o, B, cc, hA, k0, hcc, hR⟩ := HP0.out i s hx
      have hbw := HSr.out.drop.old_
      have k1 := (hbw.cell (World.block_lt_of_cell? _ _ k0)).trans k0
      have hsl := HP0s.out s (List.mem_of_getElem? hx)
      have HSo := Lib.hid (lSome B s.length cc s wr (hR.below hbw) rfl hsl)
      by_cases h10 : i < 10
      · have h10i : (i : Int) < 10 := by omega
        have HNX := Lib.hid (addsL_next hx h10)
        subst hA
        clear hx hR k0 hbw
        go_wp2_with fail
        (with_reducible refine HSo.out.mono ?_)
        rintro e w2 ⟨v2, rfl, ho2, hb2⟩
        obtain ⟨A2, c2, e2, _, _, hr2⟩ := ho2.slv'
        rw [rwS_len] at e2
        subst e2
        have HAd := Lib.hid (vAdd p 0 ([] ++ addsL P0 i) A2 (someL s).length c2 (someL s) (old W :: []) w2 (HSr.out.below hb2) (Nat.zero_le _) (by have := addsL_len P0 i; simp only [List.length_append, List.length_nil]; omega) (adds_short (HSHb.out) P0 i) hr2 rfl (by have := someL_len s; omega))
        have HAE := Lib.hid (show ([] ++ addsL P0 i) ++ [setR tx (someL s)] = [] ++ addsL P0 (i + 1) from by rw [HNX.out, List.append_assoc])
        clear ho2 hb2 hr2 HSo HSr
        go_wp2_with fail
        (with_reducible refine HAd.out.mono ?_)
        rintro e w3 ⟨rfl, hS3⟩
        rw [HAE.out] at hS3
        have HS3 := Lib.hid hS3
        clear hS3 HAd
        go_wp2_with fail
        go_roundg (n0 - (i + 1))
        case measure => omega
        case rel => exact ⟨i + 1, by omega, rfl, by go_num, HS3⟩
      · have h10i : ¬ (i : Int) < 10 := by omega
        have HNX := Lib.hid (addsL_stay (P := P0) h10)
        subst hA
        clear hx hR k0 hbw HSo
        go_wp2_with fail
        go_roundg (n0 - (i + 1))
        case measure => omega
        case rel => exact ⟨i + 1, by omega, rfl, by go_num, Lib.hid (by rw [HNX.out]; exact HSr.out)⟩
    · obtain rfl : i = n0 := by omega
      have HSA := Lib.hid (show Sat (hisP p 0 (addsL P0 i) :: old W :: []) wr from by have := HSr.out; rwa [List.nil_append] at this)
      have HLA := Lib.hid (addsL_len P0 i)
      have HSHc := Lib.hid (show ∀ s ∈ addsL P0 i, s.length ≤ 1000 from fun s hs => adds_short (base := []) HSHb.out P0 i s (by rw [List.nil_append]; exact hs))
      generalize addsL P0 i = all at *
      have HSo := Lib.hid (lSome A2 n2 c2 R0 wr (HR.out.below HSA.out.drop.old_) HN2.out hm2)
      clear HSr HP0 HNP0 HP0s HS1
      go_wp2_with fail
      (with_reducible refine HSo.out.mono ?_)
      rintro e w2 ⟨v2, rfl, ho2, hb2⟩
      obtain ⟨A3, c3, e3, _, _, hS2⟩ := (HSA.out.made hb2 ho2).still
      rw [rwS_len] at e3
      subst e3
      have HS2 := Lib.hid hS2.t2
      have HRl := Lib.hid (show (someL R0).length ≤ 1000 from by have := someL_len R0; omega)
      generalize someL R0 = reads at *
      obtain ⟨Lv, vs, hF⟩ := Sat.hisF HS2.out (Nat.zero_le _) (by have := HLA.out; omega) HSHc.out
      have HF2 := Lib.hid (fun (w : World) (h : Below w2.heap.size w2 w) => hF.below h)
      have HNo := Lib.hid (vNow p 0 Lv vs all w2 hF)
      clear ho2 hb2 hS2 HSo HSA hF HR
      generalize hal : all.length = la at *
      have HAL := Lib.hid hal
      clear hal
      have hla := HLA.out
      go_wp2_with fail
      (with_reducible refine HNo.out.mono ?_)
      rintro e w3 ⟨rfl, hb3⟩
      have HB3 := Lib.hid hb3
      have HS3 := Lib.hid (HS2.out.below hb3)
      clear hb3 HNo HS2
      have hw1 : IntKind.i64.wrap ((la : Int) + 1) = ((la + 1 : Nat) : Int) := by rw [IntKind.wrap_i64]; omega
      have hnz : (((la + 1 : Nat) : Int) == 0) = false := int_diff (by omega)
      have hp1 : (0 : Int) < ((la + 1 : Nat) : Int) := by omega
      have z1 : -((la + 1 : Nat) : Int) < since.tmod ((la + 1 : Nat) : Int) := by have := Int.tmod_lt_of_pos (-since) hp1; rw [Int.neg_tmod] at this; omega
      have z2 : since.tmod ((la + 1 : Nat) : Int) < ((la + 1 : Nat) : Int) := Int.tmod_lt_of_pos since hp1
      generalize hz : since.tmod ((la + 1 : Nat) : Int) = z at z1 z2
      have hj : (∃ j : Nat, z = -(j : Int) ∧ -(j : Int) < 0 ∧ j ≤ la) ∨ (∃ j : Nat, z = (j : Int) ∧ ¬ (j : Int) < 0 ∧ j ≤ la) := by
        by_cases h : z < 0
        · exact .inl ⟨(-z).toNat, by omega, by omega, by omega⟩
        · exact .inr ⟨z.toNat, by omega, by omega, by omega⟩
      generalize hm : ((la + 1 : Nat) : Int) = M at *
      go_upto_if 41 with fail
      go_cut [1] (fun s1 wx => ∃ j : Nat, s1 = .int .i64 j ∧ j ≤ la ∧ wx = w3)
      case first =>
        rcases hj with ⟨j, rfl, hj0, hjn⟩ | ⟨j, rfl, hj0, hjn⟩
        all_goals
          go_wp2_with fail
          go_meet
          exact ⟨j, rfl, hjn, rfl⟩
      case rest =>
        obtain ⟨j, rfl, hjn, rfl⟩ := hcut
        clear hj hz z1 z2 hw1 hnz hp1 hm
        have HCk := Lib.hid (vCheck p 0 Lv vs all j A3 reads.length c3 reads wc (HF2.out _ HB3.out) (HE.out _ HS3.out.drop.old_) HS3.out.s2.rows_ rfl HRl.out)
        generalize hrl : reads.length = nr at *
        have HNr := Lib.hid hrl
        clear hrl
        go_wp2_with fail
        (with_reducible refine HCk.out.mono ?_)
        rintro e w4 ⟨rfl, hb4⟩
        have HB4 := Lib.hid (below_then HB3.out hb4)
        have HNo := Lib.hid (vNow p 0 Lv vs all w4 (HF2.out _ HB4.out))
        have HS4 := Lib.hid (HS3.out.below hb4)
        clear hb4 HCk
        rw [HAL.out] at HNo
        go_wp2_with fail
        (with_reducible refine HNo.out.mono ?_)
        rintro e w5 ⟨rfl, hb5⟩
        have HS5 := Lib.hid (HS4.out.below hb5)
        clear hb5 HNo HS4 HS3
        have HSHb := HSHc
        generalize hcv : checkV 0 all j reads = cv at *
        have HCV := Lib.hid hcv
        clear hcv
        go_wp2_with fail
        go_loopg [52] n1 (fun g x52 wr => ∃ i : Nat, i ≤ n1 ∧ g = n1 - i ∧ x52 = .int .i64 i ∧ Hid (Sat (hisP p 0 (all ++ addsL P1 i) :: old W :: roR 1 A3 (rwS reads) :: []) wr))
        case atStart => exact ⟨0, Nat.zero_le _, rfl, rfl, Lib.hid (by rw [addsL_zero, List.append_nil]; exact HS5.out)⟩
        case round =>
          obtain ⟨i, hi, rfl, rfl, HSr⟩ := hrel
          by_cases hlt : i < n1
          · have hx : P1[i]? = some (P1[i]'(by rw [HNP1.out]; exact hlt)) := List.getElem?_eq_getElem _
            generalize P1[i]'(by rw [HNP1.out]; exact hlt) = s at hx
            obtain ⟨b, o, B, cc, hA, k0, hcc, hR⟩ := HP1.out i s hx
            have hbw := HSr.out.drop.old_
            have k1 := (hbw.cell (World.block_lt_of_cell? _ _ k0)).trans k0
            have hsl := HP1s.out s (List.mem_of_getElem? hx)
            have HSo := Lib.hid (lSome B s.length cc s wr (hR.below hbw) rfl hsl)
            by_cases h10 : i < 10
            · have h10i : (i : Int) < 10 := by omega
              have HNX := Lib.hid (addsL_next hx h10)
              subst hA
              clear hx hR k0 hbw
              go_wp2_with fail
              (with_reducible refine HSo.out.mono ?_)
              rintro e w2 ⟨v2, rfl, ho2, hb2⟩
              obtain ⟨A2, c2, e2, _, _, hr2⟩ := ho2.slv'
              rw [rwS_len] at e2
              subst e2
              have HAd := Lib.hid (vAdd p 0 (all ++ addsL P1 i) A2 (someL s).length c2 (someL s) (old W :: roR 1 A3 (rwS reads) :: []) w2 (HSr.out.below hb2) (Nat.zero_le _) (by have := addsL_len P1 i; have h8 := HLA.out; have h9 := HAL.out; simp only [List.length_append, List.length_nil]; omega) (adds_short (HSHb.out) P1 i) hr2 rfl (by have := someL_len s; omega))
              have HAE := Lib.hid (show (all ++ addsL P1 i) ++ [setR tx (someL s)] = all ++ addsL P1 (i + 1) from by rw [HNX.out, List.append_assoc])
              clear ho2 hb2 hr2 HSo HSr
              go_wp2_with fail
              (with_reducible refine HAd.out.mono ?_)
              rintro e w3 ⟨rfl, hS3⟩
              rw [HAE.out] at hS3
              have HS3 := Lib.hid hS3
              clear hS3 HAd
              go_wp2_with fail
              go_roundg (n1 - (i + 1))
              case measure => omega
              case rel => exact ⟨i + 1, by omega, rfl, by go_num, HS3⟩
            · have h10i : ¬ (i : Int) < 10 := by omega
              have HNX := Lib.hid (addsL_stay (P := P1) h10)
              subst hA
              clear hx hR k0 hbw HSo
              go_wp2_with fail
              go_roundg (n1 - (i + 1))
              case measure => omega
              case rel => exact ⟨i + 1, by omega, rfl, by go_num, Lib.hid (by rw [HNX.out]; exact HSr.out)⟩
          · obtain rfl : i = n1 := by omega
            have HSB := Lib.hid HSr.out
            have HLB := Lib.hid (addsL_len P1 i)
            have HSHd := Lib.hid (adds_short HSHb.out P1 i)
            generalize addsL P1 i = more at *
            obtain ⟨Lw, vw, hG⟩ := Sat.hisF HSB.out (Nat.zero_le _) (by have h8 := HLA.out; have h9 := HAL.out; have := HLB.out; rw [List.length_append]; omega) HSHd.out
            have HG := Lib.hid (fun (w : World) (h : Below wr.heap.size wr w) => hG.below h)
            have HC1 := Lib.hid (vCheck p 0 Lw vw (all ++ more) j A3 nr c3 reads wr hG (HE.out _ HSB.out.drop.old_) HSB.out.s2.rows_ HNr.out HRl.out)
            have HRd := Lib.hid HSB.out.s2.rows_
            have HOl := Lib.hid HSB.out.drop.old_
            have hlat := later (all := all) (more := more) (since := j) (by rw [HAL.out]; exact hjn) (reads := reads)
            rw [HCV.out] at hlat
            clear hG HSr HP1 HNP1 HP1s HS5
            go_wp2_with fail
            (with_reducible refine HC1.out.mono ?_)
            rintro e w6 ⟨rfl, hb6⟩
            have HB6 := Lib.hid hb6
            have HC2 := Lib.hid (vCheck p 0 Lw vw (all ++ more) la A3 nr c3 reads w6 (HG.out _ hb6) (HE.out _ (below_then HOl.out hb6)) (HRd.out.below hb6) HNr.out HRl.out)
            clear hb6 HC1
            go_wp2_with fail
            (with_reducible refine HC2.out.mono ?_)
            rintro e w7 ⟨rfl, hb7⟩
            have HB7 := Lib.hid (below_then HOl.out (below_then HB6.out hb7))
            have HW := Lib.hid (lawake w7 (HE.out _ HB7.out))
            rw [HAL.out] at hlat
            clear hb7 HC2
            generalize checkV 0 (all ++ more) j reads = lt at *
            generalize checkV 0 (all ++ more) la reads = bt at *
            by_cases hcv0 : cv = 0
            · subst hcv0
              by_cases hbt0 : bt = 0
              · subst hbt0
                obtain rfl : lt = 0 := hlat.2 ⟨rfl, rfl⟩
                clear hlat
                go_wp2_with fail
                (with_reducible refine HW.out.mono ?_)
                rintro e w8 ⟨rfl, hb8⟩
                have HB8 := Lib.hid (below_then HB7.out hb8)
                go_wp2_with fail
                exact HQ.out _ _ ⟨rfl, HB8.out⟩
              · have hlt0 : (lt == 0) = false := int_diff (fun h => hbt0 (hlat.1 h).2)
                have hbt1 : (bt == 0) = false := int_diff hbt0
                clear hlat hbt0
                go_wp2_with fail
                (with_reducible refine HW.out.mono ?_)
                rintro e w8 ⟨rfl, hb8⟩
                have HB8 := Lib.hid (below_then HB7.out hb8)
                go_wp2_with fail
                exact HQ.out _ _ ⟨rfl, HB8.out⟩
            · have hlt0 : (lt == 0) = false := int_diff (fun h => hcv0 (hlat.1 h).1)
              have hcv1 : (cv == 0) = false := int_diff hcv0
              clear hlat hcv0
              go_wp2_with fail
              (with_reducible refine HW.out.mono ?_)
              rintro e w8 ⟨rfl, hb8⟩
              have HB8 := Lib.hid (below_then HB7.out hb8)
              go_wp2_with fail
              exact HQ.out _ _ ⟨rfl, HB8.out⟩
end Go.Proofs.YtkfciofpbnlmeaaDoor
