/- CellsBack, walked. CellsBack: operations that were done, and then their inverse, leave what was; what held nothing holds 0 or nothing: for every argument the law's call returns true and leaves its arguments as they were. Conditions: none beyond the given statement's own. -/
import Derived.Test.YticgnakjnhdfhaaDoorJF
import Derived.Test.YticgnakjnhdfhaaDoorJL
import Derived.Test.YticgnakjnhdfhaaDoorJP
import Derived.Test.YticgnakjnhdfhaaDoorJW
section
set_option linter.unusedVariables false
set_option maxRecDepth 100000
namespace Go.Proofs.YticgnakjnhdfhaaDoor
open Go.Proofs.BL Go.Proofs.Peel Go.RowKit Go.Proofs.Ky

def clsO (o : Opr) : Option Int := if o.kind = 1 then none else some o.n
theorem evO_eq (k : Int) (key : ByteArray) (n lo : Int) (g : Option Int) : evO ⟨k, key, n, lo⟩ g = if (evalV (mayB k key n lo) k n lo (g.getD 0) g.isSome).2.2.2 ≠ 0 then .error (evalV (mayB k key n lo) k n lo (g.getD 0) g.isSome).2.2.2 else .ok (if (evalV (mayB k key n lo) k n lo (g.getD 0) g.isSome).2.1 then some (evalV (mayB k key n lo) k n lo (g.getD 0) g.isSome).1 else none, (evalV (mayB k key n lo) k n lo (g.getD 0) g.isSome).2.2.1) := rfl
theorem evR_get (o : Opr) (g : Option Int) : evR o g = evalV (mayB o.kind o.key o.n o.lo) o.kind o.n o.lo (g.getD 0) g.isSome := rfl
theorem grows_of {o : Opr} (h : oneOf [1, 4, 5, 6] o = true) : Grows clsO evO o := by
  have hk : o.kind = 1 ∨ o.kind = 4 ∨ o.kind = 5 ∨ o.kind = 6 := by
    unfold oneOf at h
    simpa using h
  obtain ⟨k, key, n, lo⟩ := o
  simp only at hk
  constructor
  · intro hc g v t hv
    unfold clsO at hc
    split at hc
    · rename_i h1
      simp only at h1
      subst h1
      rw [evO_eq] at hv
      generalize mayB 1 key n lo = b at hv
      unfold evalV at hv
      cases b with
      | false => simp at hv
      | true =>
        cases g with
        | none => simp at hv; exact hv.1.symm
        | some x => simp at hv; rw [← hv.1]
    · cases hc
  · intro m hc g v t hv
    unfold clsO at hc
    split at hc
    · cases hc
    · rename_i h1
      simp only at h1 hc
      injection hc with hc
      subst hc
      have ho : (if g.isSome = true then g.getD 0 else 0) = g.getD 0 := by cases g <;> rfl
      rw [evO_eq] at hv
      generalize mayB k key n lo = b at hv
      unfold evalV at hv
      cases b with
      | false => simp at hv
      | true =>
        simp only [ho, if_true] at hv
        rcases hk with rfl | rfl | rfl | rfl
        · exact absurd rfl h1
        · by_cases hf : in64 (g.getD 0 + n)
          · simp [hf] at hv; rw [← hv.1, w64_in hf]
          · simp [hf] at hv
        · by_cases hf : in64 (g.getD 0 + n)
          · by_cases hl : g.getD 0 + n < lo
            · simp [hf, hl] at hv
            · simp [hf, hl] at hv; rw [← hv.1, w64_in hf]
          · simp [hf] at hv
        · simp at hv; exact hv.1.symm
theorem invO_L (l : List Opr) : (invO l).map (fun u => (u.key, u.n)) = invL Opr.key clsO l := by
  unfold invO invL
  rw [List.map_map, List.map_reverse]
  congr 1
  induction l with
  | nil => rfl
  | cons o l ih =>
    rw [List.filter_cons, List.filterMap_cons]
    by_cases h : o.kind = 1
    · rw [if_neg (by simp [h])]
      have : clsO o = none := if_pos h
      rw [this]
      exact ih
    · rw [if_pos (by simp [h])]
      have : clsO o = some o.n := if_neg h
      rw [this, List.map_cons, ih]
      rfl
theorem inv_ev {l : List Opr} (h : mayInv l = true) : ∀ u ∈ invO l, ∀ g : Option Int, ∃ t, evO u g = .ok (some (w64 (g.getD 0 + u.n)), t) := by
  intro u hu g
  unfold invO at hu
  obtain ⟨o, ho, rfl⟩ := List.mem_map.1 hu
  have ho2 := (List.mem_filter.1 (List.mem_reverse.1 ho)).1
  unfold mayInv at h
  rw [Bool.and_eq_true] at h
  have hm := List.all_eq_true.1 h.2 o ho2
  have hm2 : mayB 6 o.key (w64 (-o.n)) 0 = true := by
    unfold mayB at hm ⊢
    rw [Bool.and_eq_true] at hm
    rw [hm.2]
    rfl
  have hoo : (if g.isSome = true then g.getD 0 else 0) = g.getD 0 := by cases g <;> rfl
  refine ⟨w64 (g.getD 0 + w64 (-o.n)), ?_⟩
  show evO ⟨6, o.key, w64 (-o.n), 0⟩ g = _
  rw [evO_eq, hm2]
  unfold evalV
  simp only [if_true, hoo]
  rfl
theorem inv64 (l : List Opr) : ∀ o ∈ invO l, in64 o.n := fun u hu => by
  unfold invO at hu
  obtain ⟨o, _, rfl⟩ := List.mem_map.1 hu
  exact w64_in64 _
theorem backV {l : List Rw} (hl : Good l) {os : List Opr} (ho : ∀ o ∈ os, in64 o.n) (hm : mayInv os = true) (he : (runV l os).2.2.2 = 0) :
    (runV (runV l os).1 (invO os)).2.2.2 = 0 ∧ (∀ k, (get k (runV (runV l os).1 (invO os)).1).getD 0 = (get k l).getD 0) ∧ ∀ k, get k l ≠ none → get k (runV (runV l os).1 (invO os)).1 ≠ none := by
  have hg := good_runV hl ho
  rw [← runW_V hl.1] at he hg ⊢
  rw [← runW_V hg.1]
  cases hr : runB 0 l os with
  | error p =>
    have := runB_err os 0 l p hr
    unfold runW at he
    rw [hr] at he
    exact absurd he this
  | ok x =>
    obtain ⟨m, ts⟩ := x
    have e1 : runW l os = (m, ts, 0, 0) := by unfold runW; rw [hr]
    rw [e1] at hg ⊢
    have hmi := hm
    unfold mayInv at hm
    rw [Bool.and_eq_true] at hm
    obtain ⟨z, zs, h1, h2, h3⟩ := back_all tx Opr.key clsO evO Opr.key Opr.n evO os (invO os) hl.1 hg.1 (fun k => get64 hl.2.1 k) (fun o ho => grows_of (List.all_eq_true.1 hm.1 o ho)) hr (invO_L os) (inv_ev hmi)
    have e2 : runW m (invO os) = (z, zs, 0, 0) := by unfold runW; rw [show runB 0 m (invO os) = .ok (z, zs) from h1]
    show (runW m (invO os)).2.2.2 = 0 ∧ (∀ k, (get k (runW m (invO os)).1).getD 0 = (get k l).getD 0) ∧ ∀ k, get k l ≠ none → get k (runW m (invO os)).1 ≠ none
    rw [e2]
    exact ⟨rfl, fun k => h2 k, h3⟩
set_option maxHeartbeats 8000000 in
theorem lawBack (rows : List Rw) (os : List Opr) (A0 : Option Addr) (c0 : Nat) (A1 : Option Addr) (c1 : Nat) (W : World) (hE : ErrT W)
    (hc0 : rows.length ≤ c0) (hr0 : RowsAt W 2 A0 (rwR rows)) (hm0 : rows.length ≤ 9223372036854775807) (hw0 : ∀ o ∈ rows, in64 o.2)
    (hc1 : os.length ≤ c1) (hr1 : RowsAt W 4 A1 (rwO os)) (hm1 : os.length ≤ 9223372036854775807) (hw1 : ∀ o ∈ os, in64 o.n ∧ in64 o.lo) :
    Calls Tryd.prog 6 #[.slice A0 rows.length c0, .slice A1 os.length c1] W (LawPost W) := by
  refine via fun Q hQ => ?_
  have H64 := Lib.hid (r64_cut hw0)
  have H64o := Lib.hid (o64_cut hw1)
  have HS0 := Lib.hid ((Sat.start W).old_err hE)
  have HC1 := Lib.hid (cutO_calls A1 c1 os W hr1 hm1 hc1)
  have HC2 : Hid (∀ w, Below W.heap.size W w → Calls Tryd.prog 10 #[.slice A0 rows.length c0] w (CutRPost rows w)) := Lib.hid (fun w hb => lcutR A0 c0 rows w (hr0.below hb) hm0 hc0)
  clear hr0 hr1 hw1 hw0 hE
  generalize rows.length = n0 at *
  generalize os.length = n1 at *
  have hcl := cutRs_len rows
  generalize hcr : cutRs rows = cr at *
  have HCr := Lib.hid hcr
  have hol := cutOs_len os
  generalize hoc : cutOs os = oc at *
  have HOc := Lib.hid hoc
  clear hcr hoc
  go_enter Tryd.func6, Tryd.ntmps6
  go_wp2_with fail
  (with_reducible refine HC1.out.mono ?_)
  rintro e w1 ⟨v1, rfl, ho1, hb1⟩
  rw [HOc.out] at ho1
  obtain ⟨A2, c2, rfl, hc2, hS1⟩ := HS0.out.fixO hb1 ho1
  have HCu := Lib.hid (HC2.out w1 hS1.s2.old_)
  have HS1 := Lib.hid hS1
  have HCc := Lib.hid hc2
  clear hb1 ho1 hS1 HC1 hc2
  go_wp2_with fail
  (with_reducible refine HCu.out.mono ?_)
  rintro e w2 ⟨v2, rfl, ho2, hb2⟩
  rw [HCr.out] at ho2
  obtain ⟨A4, c4, rfl, hc4, hS2⟩ := HS1.out.fixR hb2 ho2
  have HNw := Lib.hid (cNew A4 c4 cr _ _ hS2 (by omega) hc4)
  clear hb2 ho2 hS2 HCu
  go_wp2_with fail
  (with_reducible refine HNw.out.mono ?_)
  rintro e w3 ⟨p, rfl, hS3⟩
  have HG := Lib.hid (good_new H64.out)
  have hS3b := hS3.s1.drop
  generalize newP tx okK cr [] = l0 at HG hS3b
  have HCp := Lib.hid (cCopy p l0 _ w3 hS3b (by have := HG.out.1.2; omega))
  clear hS3 hS3b HNw
  go_wp2_with fail
  (with_reducible refine HCp.out.mono ?_)
  rintro e w4 ⟨f, rfl, hS4⟩
  have HIv := Lib.hid (inverseO A2 c2 oc _ w4 hS4.s2 (by omega) HCc.out)
  clear hS4 HCp
  go_wp2_with fail
  (with_reducible refine HIv.out.mono ?_)
  rintro e w5 ⟨v5, rfl, hS5⟩
  have hil := invO_len oc
  generalize hmi : mayInv oc = z at hS5
  have HMi := Lib.hid hmi
  generalize hiv : (if z = true then invO oc else []) = iv at hS5
  have HIvE := Lib.hid hiv
  obtain ⟨A5, c5, hv5, hc5, _, hS5b⟩ := hS5.still
  rw [rwO_len] at hv5 hc5
  have hRu := cRun p l0 A2 c2 oc _ w5 hS5b.s1.s4.s4 HG.out.1 HG.out.2.1 H64o.out (by omega) HCc.out
  have hgv := good_runV HG.out H64o.out
  have hbv := fun h1 h2 => backV HG.out H64o.out h1 h2
  generalize runV l0 oc = r1 at hRu hgv hbv
  obtain ⟨m1, ts1, pl1, er1⟩ := r1
  simp only at hgv hbv
  have HRu := Lib.hid hRu
  have HGm := Lib.hid hgv
  have HBv := Lib.hid hbv
  clear hS5 hS5b hmi hRu hgv hbv HIv hiv
  subst hv5
  have HC5 := Lib.hid hc5
  clear hc5
  go_wp2_with fail
  (with_reducible refine HRu.out.mono ?_)
  rintro e w6 ⟨v6, rfl, hS6⟩
  have HS6 := Lib.hid hS6
  clear hS6 HRu
  by_cases hbad : z = true ∧ er1 = 0
  · obtain ⟨rfl, rfl⟩ := hbad
    obtain ⟨hb1, hb2, hb3⟩ := HBv.out HMi.out rfl
    obtain rfl : iv = invO oc := by have := HIvE.out; rw [if_pos rfl] at this; exact this.symm
    have hR2 := cRun p m1 A5 c5 (invO oc) _ w6 (HS6.out.drop.s2.drop) HGm.out.1 HGm.out.2.1 (inv64 oc) (by omega) HC5.out
    have hg2 := good_runV HGm.out (inv64 oc)
    generalize runV m1 (invO oc) = r2 at hR2 hg2 hb1 hb2 hb3
    obtain ⟨m2, ts2, pl2, er2⟩ := r2
    simp only at hg2 hb1 hb2 hb3
    subst hb1
    have HR2 := Lib.hid hR2
    have HG2 := Lib.hid hg2
    have HV := Lib.hid hb2
    have HT := Lib.hid hb3
    clear hR2 hg2 hb2 hb3 HBv
    go_wp2_with fail
    (with_reducible refine HR2.out.mono ?_)
    rintro e w7 ⟨v7, rfl, hS7⟩
    have hS7b := hS7.drop.s2.drop
    obtain ⟨vp, hFp, _⟩ := hS7b.ceF
    have HRo := Lib.hid (cRows p vp m2 w7 hFp (by have := HG2.out.1.2; omega))
    have HS7 := Lib.hid hS7b
    clear hS7 hS7b hFp HR2 HS6
    go_wp2_with fail
    (with_reducible refine HRo.out.mono ?_)
    rintro e w8 ⟨v8, rfl, ho8, hb8⟩
    have hS8 := HS7.out.made hb8 ho8
    obtain ⟨A8, c8, hv8, _, _, _⟩ := ho8.slv'
    rw [rwR_len] at hv8
    subst hv8
    have HS8 := Lib.hid hS8
    have hlm := HG2.out.1.2
    generalize hn2 : m2.length = n2 at *
    have HN2 := Lib.hid hn2
    clear hS8 ho8 hb8 HRo hn2
    go_wp2_with fail
    go_loopg [61] n2 (fun g x wr => ∃ j : Nat, j ≤ n2 ∧ g = n2 - j ∧ x = .int .i64 j ∧ Hid (Sat (ownR (.slice A8 n2 c8) 49 2 (rwR m2) :: ceP p m2 :: errP :: ceP f l0 :: old W :: []) wr))
    case atStart => exact ⟨0, Nat.zero_le _, rfl, rfl, HS8⟩
    case round =>
      obtain ⟨j, hj, rfl, rfl, HSr⟩ := hrel
      by_cases hlt : j < n2
      · have hx : m2[j]? = some (m2[j]'(by rw [HN2.out]; exact hlt)) := List.getElem?_eq_getElem _
        generalize m2[j]'(by rw [HN2.out]; exact hlt) = r at hx
        have hga := get_at HG2.out.1.1 hx
        obtain ⟨b, o, hA, e1, e2⟩ := rowAt HSr.out.ownRows hx
        subst hA
        obtain ⟨kk, nn⟩ := r
        simp only at e1 e2 hga
        have hv := HV.out kk
        rw [hga] at hv
        have hal : Below wr.heap.size wr (wr.alloc (.cells #[.string kk, .int .i64 nn] 49)) := (Below.refl _ _).alloc (Nat.le_refl _) _
        have hb0 : Blk (wr.alloc (.cells #[.string kk, .int .i64 nn] 49)) wr.heap.size _ _ := Blk.new _ _ _
        obtain ⟨vf, hFf, _⟩ := (HSr.out.below hal).s3.ceF
        have hG := cGet f vf l0 kk _ hFf HG.out.1.1 (by have := HG.out.1.2; omega)
        have HB0 := Lib.hid hb0
        have HSa := Lib.hid (HSr.out.below hal)
        clear hx hga hal hb0 hFf
        cases hgl : get kk l0 with
        | some y =>
          rw [hgl] at hG hv
          obtain rfl : nn = y := hv
          have HGt := Lib.hid hG
          have hso : (some nn).isSome = true := rfl
          have hgd : (some nn).getD 0 = nn := rfl
          have hbn : (nn != nn) = false := bne_self_eq_false nn
          clear hG hgl
          go_wp2_with fail
          (with_reducible refine HGt.out.mono ?_)
          rintro e w9 ⟨rfl, hb9⟩
          have HS9 := Lib.hid (HSa.out.below hb9)
          have d1 := (HB0.out.below hb9).at_ 1 rfl
          clear hb9 HGt e1 e2
          rw [hgd, hso]
          go_wp2_with fail
          go_roundg (n2 - (j + 1))
          case measure => omega
          case rel => exact ⟨j + 1, by omega, rfl, rfl, HS9⟩
        | none =>
          rw [hgl] at hG hv
          obtain rfl : nn = 0 := hv
          have HGt := Lib.hid hG
          have hso : (none : Option Int).isSome = false := rfl
          have hgd : (none : Option Int).getD 0 = 0 := rfl
          clear hG hgl
          go_wp2_with fail
          (with_reducible refine HGt.out.mono ?_)
          rintro e w9 ⟨rfl, hb9⟩
          have HS9 := Lib.hid (HSa.out.below hb9)
          have d1 := (HB0.out.below hb9).at_ 1 rfl
          clear hb9 HGt e1 e2
          rw [hgd, hso]
          go_wp2_with fail
          go_roundg (n2 - (j + 1))
          case measure => omega
          case rel => exact ⟨j + 1, by omega, rfl, rfl, HS9⟩
      · obtain rfl : j = n2 := by omega
        have hS9 := HSr.out.drop
        obtain ⟨vf, hFf, _⟩ := hS9.s2.ceF
        have HRo := Lib.hid (cRows f vf l0 wr hFf (by have := HG.out.1.2; omega))
        have HS9 := Lib.hid hS9
        clear hS9 hFf
        go_wp2_with fail
        (with_reducible refine HRo.out.mono ?_)
        rintro e w9 ⟨v9, rfl, ho9, hb9⟩
        have hS10 := HS9.out.made hb9 ho9
        obtain ⟨A9, c9, hv9, _, _, _⟩ := ho9.slv'
        rw [rwR_len] at hv9
        subst hv9
        have HS10 := Lib.hid hS10
        have hll := HG.out.1.2
        generalize hn3 : l0.length = n3 at *
        have HN3 := Lib.hid hn3
        clear hS10 ho9 hb9 HRo hn3
        obtain ⟨wo, rfl⟩ : ∃ wo : World, wo = wr := ⟨_, rfl⟩
        go_wp2_with fail
        go_loopg [89] n3 (fun g x wr => ∃ j : Nat, j ≤ n3 ∧ g = n3 - j ∧ x = .int .i64 j ∧ Hid (Sat (ownR (.slice A9 n3 c9) 49 2 (rwR l0) :: ceP p m2 :: errP :: ceP f l0 :: old W :: []) wr))
        case atStart => exact ⟨0, Nat.zero_le _, rfl, rfl, HS10⟩
        case round =>
          obtain ⟨i, hi, rfl, rfl, HSi⟩ := hrel
          by_cases hlt : i < n3
          · have hx : l0[i]? = some (l0[i]'(by rw [HN3.out]; exact hlt)) := List.getElem?_eq_getElem _
            generalize l0[i]'(by rw [HN3.out]; exact hlt) = r at hx
            have hga := get_at HG.out.1.1 hx
            obtain ⟨b, o, hA, e1, e2⟩ := rowAt HSi.out.ownRows hx
            subst hA
            obtain ⟨kk, nn⟩ := r
            simp only at e1 e2 hga
            have ht := HT.out kk (by rw [hga]; simp)
            have hal : Below wr.heap.size wr (wr.alloc (.cells #[.string kk, .int .i64 nn] 49)) := (Below.refl _ _).alloc (Nat.le_refl _) _
            obtain ⟨vp, hFp, _⟩ := (HSi.out.below hal).s1.ceF
            have hG := cGet p vp m2 kk _ hFp HG2.out.1.1 (by have := HG2.out.1.2; omega)
            have HSa := Lib.hid (HSi.out.below hal)
            obtain ⟨y, hy⟩ := Option.ne_none_iff_exists'.1 ht
            rw [hy] at hG
            have HGt := Lib.hid hG
            have hso : (some y).isSome = true := rfl
            have hgd : (some y).getD 0 = y := rfl
            clear hx hga hal hFp hG ht hy
            go_wp2_with fail
            (with_reducible refine HGt.out.mono ?_)
            rintro e w9 ⟨rfl, hb9⟩
            have HS9 := Lib.hid (HSa.out.below hb9)
            clear hb9 HGt e1 e2
            rw [hgd, hso]
            go_wp2_with fail
            go_roundg (n3 - (i + 1))
            case measure => omega
            case rel => exact ⟨i + 1, by omega, rfl, rfl, HS9⟩
          · have HAw := Lib.hid (lawake (old W :: []) wr HSi.out.s2.s1.drop.s1.drop.s1.drop)
            go_wp2_with fail
            (with_reducible refine HAw.out.mono ?_)
            rintro e w10 ⟨rfl, hS11⟩
            have HB := Lib.hid hS11.s1.old_
            clear hS11 HAw
            go_wp2
            exact ⟨rfl, HB.out⟩
  · have HAw := Lib.hid (lawake (old W :: []) w6 HS6.out.s2.s1.drop.s1.drop.s1.drop.s1.drop.s1.drop)
    cases z with
    | false =>
      clear hbad
      go_wp2_with fail
      (with_reducible refine HAw.out.mono ?_)
      rintro e w10 ⟨rfl, hS11⟩
      have HB := Lib.hid hS11.s1.old_
      clear hS11 HAw
      go_wp2
      exact ⟨rfl, HB.out⟩
    | true =>
      have he : er1 ≠ 0 := fun e => hbad ⟨rfl, e⟩
      have hb1 : (er1 != 0) = true := bne_iff_ne.2 he
      clear hbad he
      go_wp2_with fail
      (with_reducible refine HAw.out.mono ?_)
      rintro e w10 ⟨rfl, hS11⟩
      have HB := Lib.hid hS11.s1.old_
      clear hS11 HAw
      go_wp2
      exact ⟨rfl, HB.out⟩
end Go.Proofs.YticgnakjnhdfhaaDoor
end

section
namespace Go.Proofs.YticgnakjnhdfhaaDoor
open Go.Proofs.BL Go.ChangeShapes Go.WideShapes Go.ChangeAt Go.RowKit Go.Deep
set_option maxRecDepth 100000
set_option linter.unusedVariables false

/-- CellsBack: what the walk gives, for every argument. -/
theorem cellsBack_contract (H : Type) (enc : TypeId × Value → H) (W : World) (base : Nat) (args : Array Value) (ds gs : List (DataW H)) (before : List MemPlace)
    (hval : ∀ (j : Nat) t v, Tryd.f6.params[j]? = some t → args[j]? = some v → Value.okWide Tryd.prog W .any base t v)
    (hW : DataW.Whole enc Tryd.prog Tryd.f6.params.toList Rows.cellsBackSpec.vars false W args.toList ds gs before) (hL : laidMetH Tryd.prog Rows.cellsBackRow.laid W) :
    Calls Tryd.prog 6 args W fun e W' => ∃ v, e = .returned v ∧ Rows.cellsBackSpec.post enc Tryd.prog Tryd.f6 false true false false W args v W' := by
  have hE := errT_of_laid hL
  have hW' := hW
  obtain ⟨p, q, hA0, hV, hpq, hfz, hnd⟩ := hW
  have hA : DataW.TrodAll enc Tryd.prog W 0 (fun _ => true) true Tryd.f6.params.toList args.toList ds p := hA0
  rw [Tryd.params6] at hA hval
  obtain ⟨v0, vs0, d0, ds0, p0, q0, hargs, rfl, rfl, h0, r0⟩ := trodAll_cons hA
  obtain ⟨v1, vs1, d1, ds1, p1, q1, rfl, rfl, rfl, h1, r1⟩ := trodAll_cons r0
  obtain ⟨rfl, rfl, rfl⟩ := trodAll_nil r1
  obtain rfl : args = #[v0, v1] := by cases args; simp_all
  obtain ⟨l0, A0, c0, rfl, hc0, hr0, hm0, hw0⟩ := open_rows (hval 0 _ v0 rfl rfl) h0
  obtain ⟨l1, A1, c1, rfl, hc1, hr1, hm1, hw1⟩ := open_ops (hval 1 _ v1 rfl rfl) h1
  obtain ⟨rfl, rfl⟩ := trodVars_none hV
  clear hA0
  have hlt : ∀ x ∈ before, x.block < W.heap.size := fun x hx => by simpa using hW'.lt x hx
  have hlt0 : ∀ x ∈ p0, x.block < W.heap.size := fun x hx => hlt x (by rw [hpq]; simp [hx])
  have hlt1 : ∀ x ∈ p1, x.block < W.heap.size := fun x hx => hlt x (by rw [hpq]; simp [hx])
  refine (lawBack l0 l1 A0 c0 A1 c1 W hE hc0 hr0 hm0 hw0 hc1 hr1 hm1 hw1).mono fun e W' ⟨he, hb⟩ => ?_
  subst he
  refine ⟨_, rfl, law_post (pa := p0 ++ (p1 ++ [])) (by kernel_rfl) Tryd.underlying4 hW' rfl rfl rfl ?_ hb⟩
  rw [Tryd.params6]
  exact trodAll_cons_mk (Below.trod laidO (by kernel_rfl) (of_decide_eq_true (by kernel_rfl)) h0 hb hlt0) (trodAll_cons_mk (Below.trod laidO (by kernel_rfl) (of_decide_eq_true (by kernel_rfl)) h1 hb hlt1) trodAll_mk0)

set_option maxRecDepth 100000 in
theorem cellsBack_lifted (os : Os) (started : os.Started) (H : Type) (enc : TypeId × Value → H) (F : Stop.Interp) :
    ReturnsInHanded {} Tryd.checked os 6 .any ((OpenSpec.ofChange Rows.cellsBackSpec).preRow enc Tryd.prog Tryd.f6 Rows.cellsBackRow.domain false Rows.cellsBackRow.laid) (((OpenSpec.ofChange Rows.cellsBackSpec).at F).post enc Tryd.prog Tryd.f6 false true false false) := by
  obtain ⟨places, hx⟩ : ∃ places, DataW.whole enc Tryd.prog ((laidWorld os).forCall (fun _ _ => 0) ⟨#[], #[.slice none 0 0, .slice none 0 0], []⟩).memory Tryd.f6.params.toList Rows.cellsBackSpec.vars false #[.slice none 0 0, .slice none 0 0].toList 8 = some ([.nil, .nil], [], places) := ⟨[], by kernel_rfl⟩
  refine returnsInHanded_of_row (C := Tryd.checked) (s := OpenSpec.ofChange Rows.cellsBackSpec) ownK started (by kernel_rfl) Tryd.func6
    (witness_row_atRef (enc := enc) (C := Tryd.checked) false (laidWorld os) #[.slice none 0 0, .slice none 0 0] rfl (by kernel_rfl) (by kernel_rfl) (by kernel_rfl)
      (OpenSpec.preRow_of_cond 8 hx (by kernel_rfl) (fun k hk => by cases hk) (by kernel_rfl) (laid_met os _))) ?_
  intro W base args ds gs before hval hW _ _ _ hL _ _
  exact cellsBack_contract H enc W base args ds gs before hval hW hL
theorem cellsBack_said : Rows.CellsBackSaid :=
  OpenClaim.holds_of_cond 6 Tryd.f6 rfl rfl rfl rfl rfl rfl rfl ⟨rfl, rfl, rfl, rfl, rfl⟩ rfl rfl rfl rfl rfl (by kernel_rfl) Tryd.func6 (by kernel_rfl)
    (of_decide_eq_true (by kernel_rfl)) (by unfold Func.isWrapper; first | (rw [if_pos (by decide +kernel)]; kernel_rfl) | (rw [if_neg (by decide +kernel)]; exact ⟨rfl, rfl⟩))
    (fun os started H enc _ F => by rw [OpenClaim.pre_eq_preRow]; exact cellsBack_lifted os started H enc F)
theorem cellsBack_plain (f : FuncId) (fn : Func) (hf : Tryd.pinned.checked.prog.funcNamed "byroad/byroadlaw07.CellsBack" = some f) (hfn : Tryd.pinned.checked.prog.funcs[f]? = some fn) :
    true = Tryd.pinned.checked.prog.looks [] ∧ ∀ (j : Nat) t, fn.params[j]? = some t → Tryd.pinned.checked.prog.wantsStandIn t = false := by
  obtain rfl : f = 6 := Option.some.inj ((show Tryd.prog.funcNamed "byroad/byroadlaw07.CellsBack" = some 6 by kernel_rfl).symm.trans hf) |>.symm
  obtain rfl : fn = Tryd.f6 := (Option.some.inj (Tryd.func6.symm.trans hfn)).symm
  refine ⟨by kernel_rfl, fun j t ht => ?_⟩
  rw [Tryd.params6] at ht
  have hall : (#[22, 27] : Array Nat).all (fun t => !Tryd.prog.wantsStandIn t) = true := by kernel_rfl
  have := Array.all_eq_true'.1 hall t (Array.mem_of_getElem? ht)
  show Tryd.prog.wantsStandIn t = false
  simpa using this
/-- The card of CellsBack. -/
theorem cellsBack_card : Rows.CellsBackCardSaid :=
  Claim7.holds_tied_plain_at .later [] _ _ _ _ cellsBack_said (fun _ h => by cases h) (by kernel_rfl) (fun _ h => by cases h) cellsBack_row_tie rfl ⟨rfl, rfl⟩ (by kernel_rfl) rfl cellsBack_plain (by kernel_rfl)

end Go.Proofs.YticgnakjnhdfhaaDoor
end
