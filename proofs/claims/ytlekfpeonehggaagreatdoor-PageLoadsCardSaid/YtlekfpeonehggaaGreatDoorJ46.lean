/- The document's Load. -/
import Derived.Test.YtlekfpeonehggaaGreatDoorJ45
section
set_option linter.unusedVariables false
set_option linter.unusedSimpArgs false
set_option maxRecDepth 100000
namespace Go.Proofs.YtlekfpeonehggaaGreatDoor
open Go.Proofs.BL Go.Proofs.Peel Go.RowKit Go.Proofs.Ky

theorem ldMany {bs : List UInt8} {most n : Nat} {a : Nat} {e : Int} (h : 256 < n) : (if e = 0 then goP bs n a else none).bind (finP bs most []) = none := by
  split
  · cases hg : goP bs n a with
    | none => rfl
    | some y =>
      show finP bs most [] y = none
      unfold finP
      rw [if_neg (fun hc => by
        have := hldB_len hc.2
        rw [List.nil_append, goP_len (P := y.1) (a' := y.2) hg] at this
        omega)]
  · rfl
theorem ldBig {bs : List UInt8} {most n k : Nat} {R : Option (List (List Rw) × Nat)} {P : List (List Rw)} {a a1 : Nat} {b e1 b1 : Int} (h : MidP bs R n P a 0) (hl : P.length < n) (hk : dNat bs a 0 b = (k, a1, e1, b1)) (hm : most < k) : R.bind (finP bs most []) = none := by
  have h5 := h.2.1 rfl
  obtain ⟨r1, r2, r3⟩ := rel_nat (bs := bs) (a := a) (c := []) (e := 0) (bad := b) (by simp)
  rw [hk] at r1 r2 r3
  simp only at r1 r2 r3
  rw [show n - P.length = (n - (P.length + 1)) + 1 from by omega, goP, ← r1, ← r2] at h5
  split at h5
  · cases hg : goR bs k a1 with
    | none => rw [hg] at h5; rw [h5]; rfl
    | some y =>
      obtain ⟨l, a'⟩ := y
      rw [hg] at h5
      have hlen := (goR_inv hg).1
      cases hq : goP bs (n - (P.length + 1)) a' with
      | none =>
        have h5 : R = ((((goP bs (n - (P.length + 1)) a').map (fun y => (l :: y.1, y.2)))).map (fun x => (P ++ x.1, x.2))) := h5
        rw [hq] at h5
        rw [h5]; rfl
      | some z =>
        have h5 : R = ((((goP bs (n - (P.length + 1)) a').map (fun y => (l :: y.1, y.2)))).map (fun x => (P ++ x.1, x.2))) := h5
        rw [hq] at h5
        rw [h5]
        show finP bs most [] (P ++ l :: z.1, z.2) = none
        unfold finP
        rw [if_neg (fun hc => by
          have := (hldB_pre (most := most) (P := P) (l := l) (Q := z.1) (by simpa using hc.2)).2.2.1
          omega)]
  · rw [h5]; rfl
theorem ldEnd {bs : List UInt8} {most n : Nat} {P : List (List Rw)} {a a0 : Nat} {e b e0 : Int} {D : Option (List (List Rw))} (hD : D = (if e0 = 0 then goP bs n a0 else none).bind (finP bs most [])) (h : MidP bs (if e0 = 0 then goP bs n a0 else none) n P a e) (hx : e = 0 → n ≤ 256 → ¬ P.length < n) :
    (¬ (dEnd bs a e b).2.1 = 0 → D = none) ∧ (256 < n → D = none) ∧ ((dEnd bs a e b).2.1 = 0 → n ≤ 256 → D = if hldB most P = true then some P else none) := by
  have hmany : 256 < n → D = none := fun hn => by rw [hD]; exact ldMany hn
  refine ⟨fun hk => ?_, hmany, fun hk hn => ?_⟩
  · by_cases hn : n ≤ 256
    · by_cases he : e = 0
      · subst he
        have hR := h.2.1 rfl
        rw [show n - P.length = 0 from by have := hx rfl hn; omega, goP] at hR
        have hR : (if e0 = 0 then goP bs n a0 else none) = some (P, a) := by rw [hR]; simp
        rw [hD, hR]
        show finP bs most [] (P, a) = none
        unfold dEnd at hk
        by_cases ha : a < bs.length
        · unfold finP; rw [if_neg (fun hc => by have := hc.1; simp at this; omega)]
        · rw [if_neg (fun h => ha h.2)] at hk; exact absurd rfl hk
      · rw [hD, h.2.2 he]; rfl
    · exact hmany (by omega)
  · unfold dEnd at hk
    have he : e = 0 := by
      split at hk
      · rename_i h1; exact h1.1
      · exact hk
    subst he
    have ha : ¬ a < bs.length := fun ha => by rw [if_pos ⟨rfl, ha⟩] at hk; exact absurd (show (6 : Int) = 0 from hk) (by decide)
    have hR := h.2.1 rfl
    rw [show n - P.length = 0 from by have := hx rfl hn; omega, goP] at hR
    have hR : (if e0 = 0 then goP bs n a0 else none) = some (P, a) := by rw [hR]; simp
    rw [hD, hR]
    show finP bs most [] (P, a) = _
    unfold finP
    rw [List.nil_append]
    by_cases hh : hldB most P = true
    · rw [if_pos ⟨by simp; omega, hh⟩, if_pos hh]
    · rw [if_neg (fun hc => hh hc.2), if_neg hh]
def DLoadPost (most : Int) (ls : List Part) (D : Option (List (List Rw))) (e : Ending) (w' : World) : Prop :=
  (∀ P, D = some P → ∃ (q : Nat) (A : Option Addr) (c : Nat), e = .returned (.pointer (some ⟨q, 0, none⟩)) ∧ Sat (blk q #[.int .i64 most, .slice A P.length c] 26 :: rPg A P :: ls) w') ∧
  (D = none → e = .returned (.pointer none) ∧ Sat ls w')
set_option maxHeartbeats 8000000 in
theorem dLoad (A : Option Addr) (cp : Nat) (bs : List UInt8) (most : Nat) (ls : List Part) (w : World) (hcp : bs.length ≤ cp) (hr : Sat (roR 1 A (bys bs) :: ls) w) (hl : bs.length ≤ 1000000) (hm1 : 2 ≤ most) (hm2 : most ≤ 64) :
    Calls Tryz.prog 7 #[.slice A bs.length cp, .int .i64 (most : Nat)] w (DLoadPost most ls (decP bs most)) := by
  refine via fun Q hQ => ?_
  have HQ := Lib.hid hQ
  have hS0 := hr
  have HOf := Lib.hid (dOf hS0 hcp)
  have hlt := (dNat_le (bs := bs) (e := 0) (bad := -1) (Nat.zero_le _))
  have hrel := rel_nat (bs := bs) (a := 0) (c := []) (e := 0) (bad := -1) (by simp)
  have HN := Lib.hid (fun (w' : World) (p : Nat) (l : List Part) (h : Sat (rI p bs 0 0 (-1) :: l) w') => mDNat (by omega) (Nat.zero_le _) h)
  have hD0 : decP bs most = (if (dNat bs 0 0 (-1)).2.2.1 = 0 then goP bs (dNat bs 0 0 (-1)).1 (dNat bs 0 0 (-1)).2.1 else none).bind (finP bs most []) := by
    unfold decP
    rw [hrel.1, hrel.2.1]
    by_cases h : (rdNat bs 0 []).2.2 = []
    · rw [if_pos h, if_pos (hrel.2.2.1 h)]
    · rw [if_neg h, if_neg (fun h1 => h (hrel.2.2.2 h1))]; rfl
  clear hr hQ hS0 hrel
  generalize decP bs most = D at *
  generalize dNat bs 0 0 (-1) = st at *
  obtain ⟨n, a0, e0, b0⟩ := st
  simp only at hlt hD0
  obtain ⟨hle, hn64⟩ := hlt
  have HD := Lib.hid hD0
  have HM0 := Lib.hid (MidP.start bs n a0 e0)
  have HA0 := Lib.hid hle
  clear hD0 hle
  go_enter Tryz.func7, Tryz.ntmps7
  go_wp2_with fail
  (with_reducible refine HOf.out.mono ?_)
  rintro e w1 ⟨pr, rfl, hS1⟩
  have HS2 := Lib.hid ((hS1.alloc #[.int .i64 (most : Nat), .slice none 0 0] 26).s1)
  clear hS1 HOf
  go_wp2_with fail
  (with_reducible refine (HN.out _ pr _ HS2.out).mono ?_)
  rintro e w2 ⟨rfl, hS2⟩
  generalize w1.heap.size = q at *
  have hS2 : Sat (rI pr bs a0 e0 b0 :: blk q #[.int .i64 (most : Nat), .slice none 0 0] 26 :: roR 1 A (bys bs) :: ls) w2 := hS2
  have HS3 := Lib.hid (show Sat (rI pr bs a0 e0 b0 :: blk q #[.int .i64 (most : Nat), .slice none 0 0] 26 :: ownR (.slice none 0 0) 27 1 (lfR []) :: pagesP [] [] :: ls) w2 from (((hS2.s2.drop.put (B := pagesP [] []) (fun G => trivial)).nilR 27 1).s3.s3))
  clear hS2 HS2 HN
  go_wp2_with fail
  have hz : ∀ e1 : Int, ∀ (k : Nat) (a1 : Nat), MidQ bs (if e1 = 0 then goR bs k a1 else none) k [] a1 e1 := fun e1 k a1 => ⟨Nat.zero_le _, fun h => by simp [h], fun h => if_neg h⟩
  have HZ := Lib.hid hz
  clear hz
  go_loopg [8] 257 (fun g x8 wr => ∃ (P : List (List Rw)) (us : List Value) (LP : Value) (a : Nat) (e b : Int), P.length ≤ 257 ∧ P.length ≤ n ∧ g = 257 - P.length ∧ x8 = .int .u64 (P.length : Nat) ∧ Hid (MidP bs (if e0 = 0 then goP bs n a0 else none) n P a e) ∧ Hid (a ≤ bs.length) ∧ Hid (∀ r ∈ P, r.length ≤ 65) ∧ Hid (Sat (rI pr bs a e b :: blk q #[.int .i64 (most : Nat), LP] 26 :: ownR LP 27 1 (lfR us) :: pagesP us P :: ls) wr))
  case atStart => exact ⟨[], [], .slice none 0 0, a0, e0, b0, by simp, Nat.zero_le _, rfl, rfl, HM0, HA0, Lib.hid (fun r h => by cases h), HS3⟩
  case round =>
    obtain ⟨P, us, LP, a, e, b, hll, hln, rfl, rfl, HMi, HA, HK, HS⟩ := hrel
    clear HM0 HA0 HS3
    obtain ⟨A1, cc, hcc, h2⟩ := HS.out.openRi
    have c2 := h2.blk_.at_ 2 rfl
    simp only [List.getElem_toArray, List.getElem_cons_succ, List.getElem_cons_zero] at c2
    obtain ⟨BL_, cL, eL, _, _, _⟩ := HS.out.s2.own_.slv'
    subst eL
    have hus := HS.out.drop.drop.drop.pagesLen
    clear h2 hcc
    by_cases hstep : P.length < n ∧ P.length < 257 ∧ e = 0
    · obtain ⟨h1, h2, h3⟩ := hstep
      subst h3
      have h1i : (P.length : Int) < (n : Int) := by omega
      have h2i : (P.length : Int) < 257 := by omega
      have hM := mDNat (by omega) HA.out HS.out
      have hle1 := dNat_le (e := 0) (bad := b) HA.out
      cases hk : dNat bs a 0 b with
      | mk k st =>
      obtain ⟨a1, e1, b1⟩ := st
      rw [hk] at hM hle1
      simp only at hle1
      obtain ⟨hA1, hk64⟩ := hle1
      have Hk := Lib.hid hk
      have HM := Lib.hid hM
      have HA1 := Lib.hid hA1
      clear hM hk hA1
      go_wp2_with fail
      (with_reducible refine HM.out.mono ?_)
      rintro e' w3 ⟨rfl, hS3⟩
      have HS3 := Lib.hid ((hS3.nilR 29 2))
      have HQ0 := Lib.hid (HZ.out e1 k a1)
      clear hS3 HM HS HA
      go_wp2_with fail
      go_loopg [10, 11] 65 (fun g x10 x11 ws => ∃ (l : List Rw) (a : Nat) (e b : Int), l.length ≤ 65 ∧ l.length ≤ k ∧ g = 65 - l.length ∧ x11 = .int .u64 (l.length : Nat) ∧ Hid (MidQ bs (if e1 = 0 then goR bs k a1 else none) k l a e) ∧ Hid (a ≤ bs.length) ∧ Hid (Sat (ownR x10 29 2 (rwR l) :: rI pr bs a e b :: blk q #[.int .i64 (most : Nat), .slice BL_ (lfR us).length cL] 26 :: ownR (.slice BL_ (lfR us).length cL) 27 1 (lfR us) :: pagesP us P :: ls) ws))
      case atStart => exact ⟨[], a1, e1, b1, by simp, Nat.zero_le _, rfl, rfl, HQ0, HA1, HS3⟩
      case round =>
        obtain ⟨l, a2, e2, b2, hl65, hlk, rfl, rfl, HQi, HA2, HSs⟩ := hrel
        clear HQ0 HA1 HS3
        obtain ⟨A1, cc, hcc, h5⟩ := HSs.out.s1.openRi
        have c2 := h5.blk_.at_ 2 rfl
        simp only [List.getElem_toArray, List.getElem_cons_succ, List.getElem_cons_zero] at c2
        obtain ⟨Bv, cv, ev, _, _, _⟩ := HSs.out.own_.slv'
        subst ev
        clear h5 hcc
        by_cases hst2 : l.length < k ∧ l.length < 65 ∧ e2 = 0
        · obtain ⟨j1, j2, j3⟩ := hst2
          subst j3
          have j1i : (l.length : Int) < (k : Int) := by omega
          have j2i : (l.length : Int) < 65 := by omega
          have HLl := Lib.hid (show ((rwR l).length + 1) * 24 ≤ 140737488355328 from by rw [rwR_len]; omega)
          have hM := mDStr 16 (by omega) HA2.out (by decide) (by decide) HSs.out.s1
          have hle3 := dStr_le (e := 0) (bad := b2) (most := 16) HA2.out
          cases hs : dStr bs a2 0 b2 16 with
          | mk s st =>
          obtain ⟨a3, e3, b3⟩ := st
          rw [hs] at hM hle3
          have hM2 := fun (w' : World) (l' : List Part) (h : Sat (rI pr bs a3 e3 b3 :: l') w') => mDNum (by omega) hle3 h
          have hle4 := dNum_le (e := e3) (bad := b3) hle3
          cases hn : dNum bs a3 e3 b3 with
          | mk nn st =>
          obtain ⟨a4, e4, b4⟩ := st
          rw [hn] at hM2 hle4
          have HNx := Lib.hid (HQi.out.next j1 hs hn)
          have HA4 := Lib.hid (show a4 ≤ bs.length from hle4)
          have HM1 := Lib.hid hM
          have HM2 := Lib.hid hM2
          clear hM hM2 hs hn hle3 hle4 HQi HA2
          go_wp2_with fail
          (with_reducible refine HM1.out.mono ?_)
          rintro e' w4 ⟨rfl, hS4⟩
          have HS4 := Lib.hid (hS4.alloc #[.string s, .int .i64 0] 29).s1
          clear hS4 HM1 HSs
          go_wp2_with fail
          (with_reducible refine (HM2.out _ _ HS4.out).mono ?_)
          rintro e' w5 ⟨rfl, hS5⟩
          generalize w4.heap.size = t12 at *
          have hS5 : Sat (rI pr bs a4 e4 b4 :: blk t12 #[.string s, .int .i64 0] 29 :: ownR (.slice Bv (rwR l).length cv) 29 2 (rwR l) :: _) w5 := hS5
          have g0 := hS5.s1.blk_.at_ 0 rfl
          have g1 := hS5.s1.blk_.at_ 1 rfl
          have f1 := hS5.s1.blk_.free 1
          have hS6 : Sat (blk t12 #[.string s, .int .i64 nn] 29 :: rI pr bs a4 e4 b4 :: ownR (.slice Bv (rwR l).length cv) 29 2 (rwR l) :: _) (w5.setCell ⟨t12, 1, none⟩ (.int .i64 nn)) := hS5.s1.set 1 (.int .i64 nn)
          have k0 := hS6.blk_.at_ 0 rfl
          have k1 := hS6.blk_.at_ 1 rfl
          simp only [List.getElem_toArray, List.getElem_cons_succ, List.getElem_cons_zero] at g0 g1 k0 k1
          have HS7 := Lib.hid hS6.drop.s1
          clear hS5 hS6 HS4 HM2
          go_wp2_with (at_builtin; refine Classical.byContradiction fun hcontra => ?_)
          refine hcontra ?_
          clear hcontra
          refine satApp (W := (w5.setCell ⟨t12, 1, none⟩ (.int .i64 nn))) 29 2 24 (.agg #[.string ⟨#[]⟩, .int .i64 0]) rfl (.tmp 60) (.tmp 62) 27 rfl Tryz.underlying27 (by kernel_rfl) rfl (by decide) (by decide) _ (rwR l) (enR (s, nn)) rfl _ rfl (by simp [World.setCell]) rfl (enR_one _) HS7.out rfl HLl.out ?_
          intro v9 w9 hS9
          have HS9 := Lib.hid (show Sat (ownR v9 29 2 (rwR (l ++ [(s, nn)])) :: _) w9 from by rw [rwR, List.map_append]; exact hS9)
          clear hS9
          go_wp2_with fail
          go_roundg (65 - (l.length + 1))
          case measure => omega
          case rel => exact ⟨l ++ [(s, nn)], a4, e4, b4, by simp; omega, by simp; omega, by simp, by simp, HNx, HA4, HS9⟩
        · have hre : (¬ (l.length : Int) < (k : Int)) ∨ ((l.length : Int) < (k : Int) ∧ ¬ (l.length : Int) < 65) ∨ ((l.length : Int) < (k : Int) ∧ (l.length : Int) < 65 ∧ (e2 == 0) = false) := by
            by_cases j1 : (l.length : Int) < (k : Int)
            · by_cases j2 : (l.length : Int) < 65
              · exact .inr (.inr ⟨j1, j2, int_diff (fun j3 => hst2 ⟨by omega, by omega, j3⟩)⟩)
              · exact .inr (.inl ⟨j1, j2⟩)
            · exact .inl j1
          by_cases hk6 : k ≤ 64
          · have hk6i : ¬ (64 : Int) < (k : Int) := by omega
            have HNp := Lib.hid (HMi.out.next h1 Hk.out HQi.out (fun he hlt => hst2 ⟨hlt, by omega, he⟩))
            have c1q := HSs.out.s2.blk_.at_ 1 rfl
            have f1q := HSs.out.s2.blk_.free 1
            simp only [List.getElem_toArray, List.getElem_cons_succ, List.getElem_cons_zero] at c1q
            have HLv := Lib.hid (show ((lfR us).length + 1) * 24 ≤ 140737488355328 from by rw [lfR_len]; omega)
            have HSl := Lib.hid HSs.out.s3
            have HPl := Lib.hid (show (P ++ [l]).length = P.length + 1 from by rw [List.length_append]; rfl)
            have HK2 := Lib.hid (show ∀ r ∈ P ++ [l], r.length ≤ 65 from fun r hr => by
              rcases List.mem_append.1 hr with hr | hr
              · exact HK.out r hr
              · rw [List.mem_singleton] at hr; subst hr; exact hl65)
            clear hst2 HSs HQi HMi
            have hre : (¬ (l.length : Int) < (k : Int)) ∨ ((l.length : Int) < (k : Int) ∧ (l.length : Int) < 65 ∧ (e2 == 0) = false) := by
              rcases hre with j1 | ⟨j1, j2⟩ | h
              · exact .inl j1
              · omega
              · exact .inr h
            rcases hre with j1 | ⟨j1, j2, j3⟩
            all_goals
              go_wp2_with (at_builtin; refine Classical.byContradiction fun hcontra => ?_)
              refine hcontra ?_
              clear hcontra
              refine satApp (W := wr) 27 1 24 (.slice none 0 0) rfl (.tmp 70) (.tmp 72) 22 rfl Tryz.underlying22 (by kernel_rfl) rfl (by decide) (by decide) _ (lfR us) [.slice Bv (rwR l).length cv] rfl _ rfl rfl rfl (by simp [Value.oneCell']) HSl.out rfl HLv.out ?_
              intro v7 w7 hS7
              obtain ⟨A7, c7, e7, _, _, _⟩ := hS7.own_.slv'
              rw [show (lfR us ++ [[Value.slice Bv (rwR l).length cv]]).length = (lfR us).length + 1 from by rw [List.length_append]; rfl] at e7
              subst e7
              have q1 := hS7.s3.blk_.at_ 1 rfl
              have q2 := hS7.s3.blk_.free 1
              simp only [List.getElem_toArray, List.getElem_cons_succ, List.getElem_cons_zero] at q1
              have hS8 : Sat (blk q #[.int .i64 (most : Nat), .slice A7 ((lfR us).length + 1) c7] 26 :: _) (w7.setCell ⟨q, 1, none⟩ (.slice A7 ((lfR us).length + 1) c7)) := hS7.s3.set 1 (.slice A7 ((lfR us).length + 1) c7)
              have HS9 := Lib.hid (hS8.s4.s3.toW.pageEnd.s3.s1.t3)
              have HLf := Lib.hid (show lfR (us ++ [Value.slice Bv (rwR l).length cv]) = lfR us ++ [[Value.slice Bv (rwR l).length cv]] from by simp [lfR])
              clear hS7 hS8
              go_wp2_with fail
              go_roundg (257 - (P ++ [l]).length)
              case measure => rw [HPl.out]; omega
              case rel => exact ⟨P ++ [l], us ++ [Value.slice Bv (rwR l).length cv], .slice A7 ((lfR us).length + 1) c7, a2, e2, b2, by rw [HPl.out]; omega, by rw [HPl.out]; omega, rfl, by rw [HPl.out]; go_num, HNp, HA2, HK2, Lib.hid (by rw [HLf.out]; exact HS9.out)⟩
          · have hk6i : (64 : Int) < (k : Int) := by omega
            have HDn := Lib.hid (show D = none from by rw [HD.out]; exact ldBig HMi.out h1 Hk.out (by omega))
            have HBw := Lib.hid HSs.out.drop.drop.drop.drop.drop
            clear hst2 HSs HQi HMi
            rcases hre with j1 | ⟨j1, j2⟩ | ⟨j1, j2, j3⟩
            all_goals
              go_wp2_with fail
              exact HQ.out _ _ ⟨fun P' hP => (by rw [HDn.out] at hP; cases hP), fun _ => ⟨rfl, HBw.out⟩⟩
    · have HTd := Lib.hid (ldEnd (b := b) HD.out HMi.out (fun he hn hlt => hstep ⟨hlt, by omega, he⟩))
      have HEn := Lib.hid (mDEnd (by omega) HA.out HS.out)
      have hre : (¬ (P.length : Int) < (n : Int)) ∨ ((P.length : Int) < (n : Int) ∧ ¬ (P.length : Int) < 257) ∨ ((P.length : Int) < (n : Int) ∧ (P.length : Int) < 257 ∧ (e == 0) = false) := by
        by_cases j1 : (P.length : Int) < (n : Int)
        · by_cases j2 : (P.length : Int) < 257
          · exact .inr (.inr ⟨j1, j2, int_diff (fun j3 => hstep ⟨by omega, by omega, j3⟩)⟩)
          · exact .inr (.inl ⟨j1, j2⟩)
        · exact .inl j1
      have hfl : P.flatten.length ≤ 100000 := by
        have h9 : ∀ P : List (List Rw), (∀ r ∈ P, r.length ≤ 65) → P.flatten.length ≤ P.length * 65 := by
          intro P
          induction P with
          | nil => intro _; simp
          | cons p P ih =>
            intro h
            have h1 := ih (fun r hr => h r (by simp [hr]))
            have h2 := h p (by simp)
            rw [List.flatten_cons, List.length_append, List.length_cons, Nat.succ_mul]
            omega
        have := h9 P HK.out
        omega
      have HFl := Lib.hid hfl
      have hk := HTd.out
      generalize dEnd bs a e b = st at *
      obtain ⟨a9, k9, b9⟩ := st
      have HK9 := Lib.hid (show (¬ k9 = 0 → D = none) ∧ (256 < n → D = none) ∧ (k9 = 0 → n ≤ 256 → D = if hldB most P = true then some P else none) from hk)
      clear hk HTd hstep hfl HMi HA
      rcases hre with j1 | ⟨j1, j2⟩ | ⟨j1, j2, j3⟩
      all_goals
        go_wp2_with fail
        (with_reducible refine HEn.out.mono ?_)
        rintro e' w4 ⟨rfl, hS4⟩
        obtain ⟨A4, c4, e4, h4, hS5⟩ := hS4.s3.s3.freeze
        rw [e4] at hS5
        have HE4 := Lib.hid e4
        have HS5 := Lib.hid (hS5.s2.s2.drop)
        clear e4
        have HB4 := Lib.hid hS4.drop.drop.drop.drop
        clear hS4 hS5 HEn
        by_cases hk : k9 = 0
        · by_cases hn : n ≤ 256
          · have hn2 : ¬ (256 : Int) < (n : Int) := by omega
            try (exfalso; omega)
            all_goals
              have HD2 := Lib.hid (HK9.out.2.2 hk hn)
              subst hk
              have HHd := Lib.hid (dHolds q most A4 c4 P w4 HS5.out.blk_ HS5.out.s1.pgr_ HFl.out (by omega) (fun r hr => by have := HK.out r hr; omega))
              clear HK9
              go_wp2_with fail
              (with_reducible refine HHd.out.mono ?_)
              rintro e' w5 ⟨rfl, hb5⟩
              have HS6 := Lib.hid (HS5.out.below hb5)
              have HB5 := Lib.hid (HB4.out.below hb5)
              clear hb5 HHd
              cases hh : hldB most P with
              | true =>
                have HDs := Lib.hid (show D = some P from by rw [HD2.out, if_pos hh])
                go_wp2_with fail
                exact HQ.out _ _ ⟨fun P' hP => (by rw [HDs.out] at hP; cases hP; exact ⟨q, A4, c4, rfl, HS6.out⟩), fun hn => (by rw [HDs.out] at hn; cases hn)⟩
              | false =>
                have HDn := Lib.hid (show D = none from by rw [HD2.out, if_neg (by rw [hh]; simp)])
                go_wp2_with fail
                exact HQ.out _ _ ⟨fun P' hP => (by rw [HDn.out] at hP; cases hP), fun _ => ⟨rfl, HB5.out⟩⟩
          · have hn2 : (256 : Int) < (n : Int) := by omega
            have HDn := Lib.hid (HK9.out.2.1 (by omega))
            subst hk
            clear HK9
            go_wp2_with fail
            exact HQ.out _ _ ⟨fun P' hP => (by rw [HDn.out] at hP; cases hP), fun _ => ⟨rfl, HB4.out⟩⟩
        · have hkb : (k9 != 0) = true := bne_iff_ne.2 hk
          have HDn := Lib.hid (HK9.out.1 hk)
          clear hk HK9
          go_wp2_with fail
          exact HQ.out _ _ ⟨fun P' hP => (by rw [HDn.out] at hP; cases hP), fun _ => ⟨rfl, HB4.out⟩⟩
end Go.Proofs.YtlekfpeonehggaaGreatDoor
end
