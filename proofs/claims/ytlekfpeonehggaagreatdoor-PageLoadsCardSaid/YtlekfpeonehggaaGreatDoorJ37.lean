/- Package page: Load. -/
import Derived.Test.YtlekfpeonehggaaGreatDoorJ36
section
set_option linter.unusedVariables false
set_option linter.unusedSimpArgs false
set_option maxRecDepth 100000
namespace Go.Proofs.YtlekfpeonehggaaGreatDoor
open Go.Proofs.BL Go.Proofs.Peel Go.RowKit Go.Proofs.Ky

theorem pgNew (most : Int) (w : World) (h1 : 2 ≤ most) (h2 : most ≤ 64) : Calls Tryz.prog 10 #[.int .i64 most] w (fun e w' => e = .returned (.tuple #[.pointer (some ⟨w.heap.size, 0, none⟩), .int .i64 0]) ∧ w' = w.alloc (.cells #[.int .i64 most, .slice none 0 0, .int .i64 0] 57)) := by
  refine via fun Q hQ => ?_
  go_enter Tryz.func10, Tryz.ntmps10
  go_wp2
theorem pgNewBad (most : Int) (w : World) (h : ¬ (2 ≤ most ∧ most ≤ 64)) : Calls Tryz.prog 10 #[.int .i64 most] w (fun e w' => e = .returned (.tuple #[.pointer none, .int .i64 2]) ∧ w' = w) := by
  refine via fun Q hQ => ?_
  have hc : most < 2 ∨ (¬ most < 2 ∧ 64 < most) := by omega
  clear h
  rcases hc with h1 | ⟨h1, h2⟩
  all_goals
    go_enter Tryz.func10, Tryz.ntmps10
    go_wp2
theorem goL_step {bs : List UInt8} {most n : Nat} {P : List (List Rw)} {a : Nat} (h : P.length < n) (ht : P.flatten.length ≤ 256) : goL bs most (n - P.length) P a = (rdPage bs most P.flatten a).bind (fun x => goL bs most (n - (P ++ [x.1]).length) (P ++ [x.1]) x.2) := by
  rw [show n - P.length = (n - (P.length + 1)) + 1 from by omega, goL, if_neg (by omega)]
  congr 1
  funext x
  rw [List.length_append]
  rfl
theorem goL_full {bs : List UInt8} {most n : Nat} {P : List (List Rw)} {a : Nat} (h : P.length < n) (ht : 256 < P.flatten.length) : goL bs most (n - P.length) P a = none := by
  rw [show n - P.length = (n - (P.length + 1)) + 1 from by omega, goL, if_pos ht]
theorem rdPage_inv {bs : List UInt8} {most : Nat} {prev : List Rw} {a : Nat} {l : List Rw} {a' : Nat} (h : rdPage bs most prev a = some (l, a')) : 1 ≤ l.length ∧ l.length ≤ most ∧ Up tx (prev ++ l) ∧ (∀ x ∈ l, x.1.size ≤ 16 ∧ RwOk x) ∧ bs.drop a = pgB l ++ bs.drop a' := by
  unfold rdPage at h
  split at h
  · rename_i h0
    obtain ⟨y, h1, h2⟩ := Option.bind_eq_some_iff.1 h
    split at h2
    · rename_i h3
      injection h2 with h2
      subst h2
      obtain ⟨e1, e2, e3⟩ := goR_inv h1
      have e4 := (rdNat_inv (bs := bs) (a := a) (n := (rdNat bs a []).1) (a' := (rdNat bs a []).2.1) (Prod.ext rfl (Prod.ext rfl h0.1))).1
      refine ⟨by omega, by omega, (upB_iff _).1 h3, e3, ?_⟩
      rw [e4, e2, pgB, e1]; simp
    · cases h2
  · cases h
/-- What the loop keeps. -/
def LdOk (bs : List UInt8) (most n : Nat) (R : Option (List (List Rw) × Nat)) (P : List (List Rw)) (a : Nat) : Prop :=
  P.length ≤ n ∧ R = goL bs most (n - P.length) P a ∧ (∀ r ∈ P, r ≠ [] ∧ r.length ≤ most) ∧ Up tx P.flatten ∧ (∀ x ∈ P.flatten, x.1.size ≤ 16 ∧ RwOk x) ∧ P.flatten.length ≤ 320 ∧ P.length ≤ P.flatten.length
theorem LdOk.start (bs : List UInt8) (most n a : Nat) : LdOk bs most n (goL bs most n [] a) [] a := ⟨Nat.zero_le _, rfl, (fun r h => by cases h), List.Pairwise.nil, (fun x h => by cases h), Nat.zero_le _, Nat.zero_le _⟩
theorem LdOk.next {bs : List UInt8} {most n : Nat} {R : Option (List (List Rw) × Nat)} {P : List (List Rw)} {a : Nat} (h : LdOk bs most n R P a) (hn : P.length < n) (ht : P.flatten.length ≤ 256) (hm : most ≤ 64) {l : List Rw} {a' : Nat} (hr : rdPage bs most P.flatten a = some (l, a')) : LdOk bs most n R (P ++ [l]) a' := by
  obtain ⟨h1, h2, h3, h4, h5, h6, h7⟩ := h
  obtain ⟨i1, i2, i3, i4, _⟩ := rdPage_inv hr
  have hfl : (P ++ [l]).flatten = P.flatten ++ l := by simp
  refine ⟨by rw [List.length_append, List.length_singleton]; omega, ?_, fun r hr => ?_, by rw [hfl]; exact i3, fun x hx => ?_, by rw [hfl, List.length_append]; omega, by rw [hfl, List.length_append, List.length_append, List.length_singleton]; omega⟩
  · rw [h2, goL_step hn ht, hr]; rfl
  · rcases List.mem_append.1 hr with hr | hr
    · exact h3 r hr
    · rw [List.mem_singleton] at hr
      subst hr
      exact ⟨fun e => by rw [e] at i1; simp at i1, i2⟩
  · rw [hfl] at hx
    rcases List.mem_append.1 hx with hx | hx
    · exact h5 x hx
    · exact i4 x hx
theorem LdOk.bad {bs : List UInt8} {most n : Nat} {R : Option (List (List Rw) × Nat)} {P : List (List Rw)} {a : Nat} (h : LdOk bs most n R P a) (hn : P.length < n) (ht : P.flatten.length ≤ 256) (hr : rdPage bs most P.flatten a = none) : R = none := by
  rw [h.2.1, goL_step hn ht, hr]; rfl
/-- How the end of a load comes out. -/
theorem ldTail {bs : List UInt8} {most n : Nat} {R : Option (List (List Rw) × Nat)} {P : List (List Rw)} {a : Nat} {c c0 : List Lk} {D : Option (List (List Rw))} (h : LdOk bs most n R P a) (hT : Tells c) (hD : D = if c0 = [] then R.bind (fin bs) else none) (hc : c = c0) (hx : P.length < n → 256 < P.flatten.length) :
    (¬ codeOf (rdEnd bs a c) = 0 → D = none) ∧ (256 < P.flatten.length → D = none) ∧ (codeOf (rdEnd bs a c) = 0 → P.flatten.length ≤ 256 → D = some P) := by
  subst hc
  by_cases hc : c = []
  · subst hc
    rw [if_pos rfl] at hD
    by_cases hn : P.length < n
    · have hR : R = none := by rw [h.2.1, goL_full hn (hx hn)]
      rw [hR] at hD
      exact ⟨fun _ => hD, fun _ => hD, fun _ h2 => by have := hx hn; omega⟩
    · have hR : R = some (P, a) := by rw [h.2.1, show n - P.length = 0 from by omega, goL]
      rw [hR] at hD
      have hD : D = if bs.length ≤ a ∧ P.flatten.length ≤ 256 then some P else none := hD
      by_cases ha : a < bs.length
      · rw [rdEnd, if_pos ⟨rfl, ha⟩]
        have e : D = none := by rw [hD, if_neg (by omega)]
        exact ⟨fun _ => e, fun _ => e, fun h => absurd h (by show ¬ (6 : Int) = 0; decide)⟩
      · rw [rdEnd, if_neg (fun h => ha h.2)]
        exact ⟨fun h => absurd (show codeOf [] = 0 from rfl) h, fun h => by rw [hD, if_neg (by omega)], fun _ h => by rw [hD, if_pos ⟨by omega, h⟩]⟩
  · rw [if_neg hc] at hD
    rw [rdEnd, if_neg (fun h => hc h.1)]
    exact ⟨fun _ => hD, fun _ => hD, fun h => absurd (tells_nil hT h) hc⟩
def LoadPost (most : Int) (W : World) (D : Option (List (List Rw))) (e : Ending) (w' : World) : Prop :=
  (∀ P, D = some P → ∃ q : Nat, e = .returned (.tuple #[.pointer (some ⟨q, 0, none⟩), .int .i64 0]) ∧ Sat (stP q most P :: old W :: []) w') ∧
  (D = none → e = .returned (.tuple #[.pointer none, .int .i64 6]) ∧ Below W.heap.size W w')
theorem Sat.rdxOld {p s : Nat} {bs : List UInt8} {a : Nat} {c : List Lk} {W w : World} {l : List Part} (h : Sat (rdx p s bs a c W :: l) w) : Sat (old W :: l) w :=
  h.imp (fun G O ⟨_, _, hg, hb, hs, hsp⟩ => ⟨hb, fun b hbW => hg b (by omega) (by omega)⟩)
set_option maxHeartbeats 8000000 in
theorem pgLoad (A : Option Addr) (cp : Nat) (bs : List UInt8) (most : Nat) (w : World) (hcp : bs.length ≤ cp) (hr : RowsAt w 1 A (bys bs)) (hE : ErrT w) (hl : bs.length ≤ 1000000) (hm1 : 2 ≤ most) (hm2 : most ≤ 64) :
    Calls Tryz.prog 6 #[.slice A bs.length cp, .int .i64 (most : Nat)] w (LoadPost most w (decL bs most)) := by
  refine via fun Q hQ => ?_
  have HQ := Lib.hid hQ
  have HE := Lib.hid hE
  have HNw := Lib.hid (pgNew most w (by omega) (by omega))
  have hal := (Below.refl w.heap.size w).alloc (Nat.le_refl _) (.cells #[.int .i64 (most : Nat), .slice none 0 0, .int .i64 0] 57)
  have hB0 := Blk.new w #[.int .i64 (most : Nat), .slice none 0 0, .int .i64 0] 57
  have HOf := Lib.hid (oof A cp bs _ hcp (hr.below hal))
  have HST := Lib.hid (fun (w' : World) (h1 : Rd w' (w.alloc (.cells #[.int .i64 (most : Nat), .slice none 0 0, .int .i64 0] 57)).heap.size bs 0 []) (h2 : Below (w.alloc (.cells #[.int .i64 (most : Nat), .slice none 0 0, .int .i64 0] 57)).heap.size (w.alloc (.cells #[.int .i64 (most : Nat), .slice none 0 0, .int .i64 0] 57)) w') => Sat.rdStart hal (Nat.le_refl _) hB0 rfl h1 h2 (fun _ => trivial))
  have HD0 := Lib.hid (show decL bs most = if (rdNat bs 0 []).2.2 = [] then (goL bs most (rdNat bs 0 []).1 [] (rdNat bs 0 []).2.1).bind (fin bs) else none from rfl)
  have HN := Lib.hid (fun (w' : World) (p : Nat) (h : Rd w' p bs 0 []) => mNat w' (by omega) h)
  have HT := Lib.hid (tells_nat bs 0 (.inl rfl))
  have hz := rdNat_zero (bs := bs) (a := 0)
  have hlt := rdNat_lt bs 0 []
  clear hQ hE hr hal hB0
  generalize decL bs most = D at *
  generalize rdNat bs 0 [] = st at *
  obtain ⟨n, a0, c0⟩ := st
  simp only at hz hlt
  go_enter Tryz.func6, Tryz.ntmps6
  go_wp2_with fail
  (with_reducible refine HNw.out.mono ?_)
  rintro e w1 ⟨rfl, rfl⟩
  generalize hw1 : w.alloc (.cells #[.int .i64 (most : Nat), .slice none 0 0, .int .i64 0] 57) = w1 at *
  go_wp2_with fail
  (with_reducible refine HOf.out.mono ?_)
  rintro e w2 ⟨rfl, hR2, hb2⟩
  have HS2 := Lib.hid (HST.out w2 hR2 hb2)
  clear hR2 hb2 HST HOf HNw
  generalize w1.heap.size = pr at *
  generalize w.heap.size = s at *
  go_wp2_with fail
  (with_reducible refine (HN.out w2 pr HS2.out.rd_).mono ?_)
  rintro e w3 ⟨rfl, hR3, hf3⟩
  have hb3 := HS2.out.s1.blk_.fr hf3 (fun e => by have e : s = pr := e; have := HS2.out.rdLt; omega)
  have hS3 := (HS2.out.rdStep (show Rd w3 pr bs a0 c0 from hR3) hf3 hb3 (fun x => by simp)).s1
  have HS3 := Lib.hid (show Sat (stB s most ((([] : List (List Rw)).flatten.length : Nat) : Int) (.slice none 0 0) :: ownR (.slice none 0 0) 59 1 (lfR []) :: pagesP [] [] :: rdx pr s bs a0 c0 w :: []) w3 from (((hS3.nilR 59 1).put (B := pagesP [] []) (fun G => trivial)).s2.s2.s1))
  clear hR3 hf3 hb3 hS3 HS2 HN
  have HD := Lib.hid (show D = if c0 = [] then (goL bs most n [] a0).bind (fin bs) else none from HD0.out)
  have HL0 := Lib.hid (LdOk.start bs most n a0)
  have HTc := Lib.hid (show Tells c0 from HT.out)
  clear HD0 HT
  generalize goL bs most n [] a0 = R at *
  go_wp2_with fail
  go_loopg [10, 11] n (fun g x10 x11 wr => ∃ (P : List (List Rw)) (vs : List Value) (L : Value) (a : Nat), g = n - P.length ∧ x11 = .int .i64 (P.length : Nat) ∧ x10 = .string (lastK P.flatten) ∧ Hid (LdOk bs most n R P a) ∧ Hid (Sat (stB s most (P.flatten.length : Nat) L :: ownR L 59 1 (lfR vs) :: pagesP vs P :: rdx pr s bs a c0 w :: []) wr))
  case atStart => exact ⟨[], [], .slice none 0 0, a0, rfl, rfl, rfl, HL0, HS3⟩
  case round =>
    obtain ⟨P, vs, L, a, rfl, rfl, rfl, HLd, HSr⟩ := hrel
    clear HL0 HS3
    have hld := HLd.out
    have hP1 : P.length ≤ 320 := Nat.le_trans hld.2.2.2.2.2.2 hld.2.2.2.2.2.1
    have hP2 : P.flatten.length ≤ 320 := hld.2.2.2.2.2.1
    have hvs : vs.length = P.length := HSr.out.drop.drop.pagesLen
    have hwr : IntKind.u64.wrap (P.length : Int) = (P.length : Int) := u64_of _ (by omega)
    have s2 := HSr.out.blk_.at_ 2 rfl
    simp only [List.getElem_toArray, List.getElem_cons_succ, List.getElem_cons_zero] at s2
    obtain ⟨BL_, cL, eL, _, _, _⟩ := HSr.out.own1
    subst eL
    clear hld
    by_cases hgo : P.length < n ∧ P.flatten.length ≤ 256
    · obtain ⟨h1, h2⟩ := hgo
      have hc0 : c0 = [] := Classical.byContradiction fun h => by have := hz h; omega
      subst hc0
      have h1i : (P.length : Int) < (n : Int) := by omega
      have h2i : (P.flatten.length : Int) ≤ 256 := by omega
      have HRd := Lib.hid (pgRead s pr most _ P.flatten bs a w wr _ hm1 hm2 (fun x => by simp) h2 HLd.out.2.2.2.1 hl HE.out HSr.out.s3.s1)
      have hHF : P.flatten.length = P.flatten.length := rfl
      generalize hF : P.flatten.length = F at *
      have HF := Lib.hid hF
      clear hF hHF
      go_wp2_with fail
      (with_reducible refine HRd.out.mono ?_)
      rintro e w4 hpost
      cases hdp : rdPage bs most P.flatten a with
      | none =>
        obtain ⟨Av, nv, cv, ve, ck, rfl, hck, a', c', hS4⟩ := hpost.2 hdp
        have HDn := Lib.hid (show D = none from by rw [HD.out, if_pos trivial, HLd.out.bad h1 (by rw [HF.out]; exact h2) hdp]; rfl)
        have HC4 := Lib.hid hS4.chn_
        have HB4 := Lib.hid hS4.drop.rdOld
        clear hpost hdp HRd HSr hS4 HLd HD
        have hal4 := (Below.refl w4.heap.size w4).alloc (Nat.le_refl _) (.cells #[.slice Av nv cv] 59)
        have HAt := Lib.hid (fat P.length ve ck (w4.alloc (.cells #[.slice Av nv cv] 59)) (HC4.out.below hal4))
        go_wp2_with fail
        (with_reducible refine HAt.out.mono ?_)
        rintro e w5 ⟨v5, rfl, hc5, hb5⟩
        rw [if_neg hck] at hc5
        obtain ⟨_, _, ev5⟩ := chn_iface hc5 (by simp)
        subst ev5
        have HB5 := Lib.hid (below_then (below_then HB4.out hal4) hb5)
        clear hc5 hb5 hal4 HAt
        go_wp2_with fail
        exact HQ.out _ _ ⟨fun P' hP => (by rw [HDn.out] at hP; cases hP), fun _ => ⟨rfl, HB5.out⟩⟩
      | some y =>
        obtain ⟨l, a'⟩ := y
        obtain ⟨v, rfl, hS4⟩ := hpost.1 _ hdp
        have HLn := Lib.hid (HLd.out.next h1 (by rw [HF.out]; exact h2) hm2 hdp)
        obtain ⟨i1, i2, _⟩ := rdPage_inv hdp
        have hrl : rwR l ≠ [] := fun e => by have := congrArg List.length e; rw [rwR_len] at this; simp at this; rw [this] at i1; simp at i1
        obtain ⟨g, cv, ev, _, _⟩ := own_some hS4.own_ hrl
        rw [rwR_len] at ev
        subst ev
        have hlast : ∃ z, l[l.length - 1]? = some z := ⟨_, List.getElem?_eq_getElem (by omega)⟩
        obtain ⟨⟨kz, nz⟩, hz1⟩ := hlast
        have hk0 := (own_at hS4.own_ (i := l.length - 1) (r := enR (kz, nz)) (by rw [rwR, List.getElem?_map, hz1]; rfl) 0 rfl).1
        rw [Nat.add_zero] at hk0
        have HLK := Lib.hid (show lastK (P ++ [l]).flatten = kz from by
          have e : l.getLast? = some (kz, nz) := by rw [List.getLast?_eq_getElem?]; exact hz1
          unfold lastK
          have : (P ++ [l]).flatten = P.flatten ++ l := by simp
          rw [this, List.getLast?_append, e]; rfl)
        have hSa := (hS4.alloc #[.slice (some ⟨g, 0, none⟩) l.length cv] 59)
        have HSa := Lib.hid hSa
        have hal4 := (Below.refl w4.heap.size w4).alloc (Nat.le_refl _) (.cells #[.slice (some ⟨g, 0, none⟩) l.length cv] 59)
        have HAt := Lib.hid (fat P.length .nilIface [] (w4.alloc (.cells #[.slice (some ⟨g, 0, none⟩) l.length cv] 59)) rfl)
        have hk1 := (hal4.cell (World.block_lt_of_cell? _ _ hk0)).trans hk0
        clear hpost HRd HSr hS4 HLd hSa hz1 hrl hk0
        generalize hln : l.length = ln at *
        have HLN := Lib.hid hln
        clear hln
        obtain ⟨m, rfl⟩ : ∃ m, ln = m + 1 := ⟨ln - 1, by omega⟩
        rw [Nat.add_sub_cancel] at hk1
        go_wp2_with fail
        (with_reducible refine HAt.out.mono ?_)
        rintro e w5 ⟨v5, rfl, hc5, hb5⟩
        obtain rfl : v5 = .nilIface := hc5
        have hS5 := HSa.out.below hb5
        have hk5 := (hb5.cell (World.block_lt_of_cell? _ _ hk1)).trans hk1
        have d2 := hS5.blk_.at_ 0 rfl
        have d1 := hS5.s2.blk_.at_ 1 rfl
        simp only [List.getElem_toArray, List.getElem_cons_succ, List.getElem_cons_zero] at d1 d2
        have HLv := Lib.hid (show ((lfR vs).length + 1) * 24 ≤ 140737488355328 from by rw [lfR_len]; omega)
        have hm3 : (m : Int) + 1 ≤ 64 := by omega
        clear hb5 hk1 HSa hal4 HAt
        generalize w4.heap.size = t12 at *
        go_wp2_with fail
        have d1 : w5.drew.cell? ⟨s, 1, none⟩ = _ := d1
        have d2 : w5.drew.cell? ⟨t12, 0, none⟩ = _ := d2
        refine Rg.begin_ (fun x => x.cell? ⟨s, 1, none⟩ = some (Value.slice BL_ (lfR vs).length cL) ∧ x.cell? ⟨t12, 0, none⟩ = some (Value.slice (some ⟨g, 0, none⟩) (m + 1) cv)) 10 (by kernel_rfl) ?_
        have hS0 : (fun x => x.cell? ⟨s, 1, none⟩ = some (Value.slice BL_ (lfR vs).length cL) ∧ x.cell? ⟨t12, 0, none⟩ = some (Value.slice (some ⟨g, 0, none⟩) (m + 1) cv)) (World.drew w5) := ⟨d1, d2⟩
        refine Rg.take (i := 0) (v := ?_) rfl (by kernel_rfl) (fun _ _ _ h => h) hS0 (Or.inl ⟨by rfl, ?_⟩) ?_
        rotate_left
        · ((intro w hSw; (try dsimp only at hSw); go_simp) <;> (with_reducible rfl))
        try simp only [Act.put, List.setIfInBounds_toArray, List.set_cons_zero, List.set_cons_succ]
        refine Rg.take (i := 1) (v := ?_) rfl (by kernel_rfl) (fun _ _ _ h => h) hS0 (Or.inl ⟨by rfl, ?_⟩) ?_
        rotate_left
        · ((intro w hSw; (try dsimp only at hSw); go_simp) <;> (with_reducible rfl))
        try simp only [Act.put, List.setIfInBounds_toArray, List.set_cons_zero, List.set_cons_succ]
        refine Rg.take (i := 2) (v := ?_) rfl (by kernel_rfl) (fun _ _ _ h => h) hS0 (Or.inl ⟨by rfl, ?_⟩) ?_
        rotate_left
        · ((intro w hSw; (try dsimp only at hSw); go_simp) <;> (with_reducible rfl))
        try simp only [Act.put, List.setIfInBounds_toArray, List.set_cons_zero, List.set_cons_succ]
        refine Rg.take (i := 3) (v := ?_) rfl (by kernel_rfl) (fun _ _ _ h => h) hS0 (Or.inl ⟨by rfl, ?_⟩) ?_
        rotate_left
        · ((intro w hSw; (try dsimp only at hSw); go_simp) <;> (with_reducible rfl))
        try simp only [Act.put, List.setIfInBounds_toArray, List.set_cons_zero, List.set_cons_succ]
        refine Rg.take (i := 4) (v := ?_) rfl (by kernel_rfl) (fun _ _ _ h => h) hS0 (Or.inl ⟨by rfl, ?_⟩) ?_
        rotate_left
        · ((intro w hSw; (try dsimp only at hSw); go_simp) <;> (with_reducible rfl))
        try simp only [Act.put, List.setIfInBounds_toArray, List.set_cons_zero, List.set_cons_succ]
        refine Rg.take (i := 5) (v := ?_) rfl (by kernel_rfl) (fun _ _ _ h => h) hS0 (Or.inl ⟨by rfl, ?_⟩) ?_
        rotate_left
        · ((intro w hSw; (try dsimp only at hSw); go_simp) <;> (with_reducible rfl))
        try simp only [Act.put, List.setIfInBounds_toArray, List.set_cons_zero, List.set_cons_succ]
        refine Rg.one (i := 6) rfl (by kernel_rfl) (fun K hK => ?_)
        go_simp
        have hS1 : (fun x => x.cell? ⟨s, 1, none⟩ = some (Value.slice BL_ (lfR vs).length cL) ∧ x.cell? ⟨t12, 0, none⟩ = some (Value.slice (some ⟨g, 0, none⟩) (m + 1) cv)) (w5.drew.alloc (.cells #[(Value.slice (some ⟨g, 0, none⟩) (m + 1) cv)] 59)) := ⟨upA d1 _, upA d2 _⟩
        refine hK.out _ _ (fun _ => hS1) ?_
        clear hK K
        try simp only [Act.put, List.setIfInBounds_toArray, List.set_cons_zero, List.set_cons_succ]
        refine Rg.one (i := 7) rfl (by kernel_rfl) (fun K hK => ?_)
        have hSw := (hS5.drew.below ((Below.refl w5.drew.heap.size w5.drew).alloc (Nat.le_refl _) (.cells #[(Value.slice (some ⟨g, 0, none⟩) (m + 1) cv)] 59))).s4
        have hmB := Blk.new w5.drew #[(Value.slice (some ⟨g, 0, none⟩) (m + 1) cv)] 59
        refine satStep1 (W := (w5.drew.alloc (.cells #[(Value.slice (some ⟨g, 0, none⟩) (m + 1) cv)] 59))) 59 1 24 (.agg #[.slice none 0 0]) rfl (.tmp 64) (.tmp 66) 55 rfl Tryz.underlying55 (by kernel_rfl) rfl (by decide) (by decide) _ (lfR vs) [(Value.slice (some ⟨g, 0, none⟩) (m + 1) cv)] rfl _ rfl hmB rfl (by simp [Value.oneCell']) hSw rfl HLv.out ?_
        intro v7 w7 hS7
        obtain ⟨A7, c7, e7, _, _, _⟩ := hS7.own_.slv'
        rw [show (lfR vs ++ [[(Value.slice (some ⟨g, 0, none⟩) (m + 1) cv)]]).length = (lfR vs).length + 1 from by rw [List.length_append]; rfl] at e7
        subst e7
        have hS8 := hS7.s3
        have j1 := hS8.blk_.at_ 1 rfl
        have j2 := hS8.blk_.free 1
        have j3 := hS8.s2.blk_.at_ 0 rfl
        simp only [List.getElem_toArray, List.getElem_cons_succ, List.getElem_cons_zero] at j1 j3
        have hS9 : Sat (stB s most ((F : Int) + ((m + 1 : Nat) : Int)) (Value.slice A7 ((lfR vs).length + 1) c7) :: _) (w7.setCell ⟨s, 1, none⟩ (Value.slice A7 ((lfR vs).length + 1) c7)) := hS8.set 1 (Value.slice A7 ((lfR vs).length + 1) c7)
        have HS9 := Lib.hid (hS9.s2.drop.s4.s3.toW.pageEnd.t2)
        change K _ _
        have hS2 : (fun x => x.cell? ⟨s, 1, none⟩ = some (Value.slice BL_ (lfR vs).length cL) ∧ x.cell? ⟨t12, 0, none⟩ = some (Value.slice (some ⟨g, 0, none⟩) (m + 1) cv)) w7 := ⟨j1, j3⟩
        refine hK.out _ _ (fun _ => hS2) ?_
        clear hK K
        try simp only [Act.put, List.setIfInBounds_toArray, List.set_cons_zero, List.set_cons_succ]
        refine Rg.one (i := 8) rfl (by kernel_rfl) (fun K hK => ?_)
        go_simp
        refine hK.out _ _ (fun _ => hS2) ?_
        clear hK K
        try simp only [Act.put, List.setIfInBounds_toArray, List.set_cons_zero, List.set_cons_succ]
        refine Rg.one (i := 9) rfl (by kernel_rfl) (fun K hK => ?_)
        go_simp
        refine hK.out _ _ (fun _ => hS2) ?_
        clear hK K
        try simp only [Act.put, List.setIfInBounds_toArray, List.set_cons_zero, List.set_cons_succ]
        refine Rg.one (i := 10) rfl (by kernel_rfl) (fun K hK => ?_)
        go_simp
        refine hK.out _ _ (fun h => nomatch (show true = false from h)) ?_
        clear hK K
        try simp only [Act.put, List.setIfInBounds_toArray, List.set_cons_zero, List.set_cons_succ]
        refine Rg.done (by kernel_rfl) ?_ _
        have HFn := Lib.hid (show (((P ++ [l]).flatten.length : Nat) : Int) = (F : Int) + ((m + 1 : Nat) : Int) from by
          rw [show (P ++ [l]).flatten = P.flatten ++ l from by simp, List.length_append, HF.out, HLN.out]; omega)
        have HPl := Lib.hid (show (P ++ [l]).length = P.length + 1 from by rw [List.length_append]; rfl)
        have HLf := Lib.hid (show lfR (vs ++ [Value.slice (some ⟨g, 0, none⟩) (m + 1) cv]) = lfR vs ++ [[Value.slice (some ⟨g, 0, none⟩) (m + 1) cv]] from by simp [lfR])
        clear hS5 d1 d2 hS0 hS1 hS7 hS8 hS9 hSw hmB hk5 hdp
        go_wp2_with fail
        go_roundg (n - (P ++ [l]).length)
        case measure => rw [HPl.out]; omega
        case rel => exact ⟨P ++ [l], vs ++ [Value.slice (some ⟨g, 0, none⟩) (m + 1) cv], Value.slice A7 ((lfR vs).length + 1) c7, a', rfl, by rw [HPl.out]; go_num, by rw [HLK.out], HLn, Lib.hid (by rw [HFn.out, HLf.out]; exact HS9.out)⟩
    · have HEn := Lib.hid (mEnd wr (HE.out.below HSr.out.s3.rdOld) (by omega) HSr.out.s3.rd_)
      have HTl := Lib.hid (ldTail HLd.out HTc.out HD.out rfl (fun hn => Nat.lt_of_not_le (fun h => hgo ⟨hn, h⟩)))
      have hge : ¬ (P.length < n) ∨ (P.length < n ∧ 256 < P.flatten.length) := by
        by_cases h : P.length < n
        · exact .inr ⟨h, Nat.lt_of_not_le (fun h2 => hgo ⟨h, h2⟩)⟩
        · exact .inl h
      have hHF : P.flatten.length = P.flatten.length := rfl
      generalize hF : P.flatten.length = F at *
      have HF := Lib.hid hF
      clear hF hHF hgo
      have hge2 : (¬ (P.length : Int) < (n : Int)) ∨ ((P.length : Int) < (n : Int) ∧ ¬ (F : Int) ≤ 256) := by omega
      clear hge
      rcases hge2 with h1 | ⟨h1, h2⟩
      all_goals
        go_wp2_with fail
        (with_reducible refine HEn.out.mono ?_)
        rintro e w4 ⟨rfl, hR4, hf4⟩
        have hb4 := HSr.out.blk_.fr hf4 (fun e => by have e : s = pr := e; have := HSr.out.s3.rdLt; omega)
        have hS4 := HSr.out.s3.rdStep hR4 hf4 hb4 (fun x => by simp)
        have HB4 := Lib.hid hS4.rdOld
        have q2 := hS4.s1.blk_.at_ 2 rfl
        simp only [List.getElem_toArray, List.getElem_cons_succ, List.getElem_cons_zero] at q2
        have HS4 := Lib.hid (hS4.rdxOld.t3.s1.toW.s1.shutSt (by rw [HF.out]))
        have HTk := Lib.hid HTl.out
        clear hR4 hf4 hb4 hS4 HEn HTl
        generalize codeOf (rdEnd bs a c0) = kk at *
        by_cases hk : kk = 0
        · by_cases hF2 : F ≤ 256
          · have HDs := Lib.hid (HTk.out.2.2 hk hF2)
            have hF3 : ¬ (256 : Int) < (F : Int) := by omega
            subst hk
            clear HTk
            first
            | (exfalso; omega)
            | (go_wp2_with fail
               exact HQ.out _ _ ⟨fun P' hP => (by rw [HDs.out] at hP; cases hP; exact ⟨s, rfl, HS4.out⟩), fun hn => (by rw [HDs.out] at hn; cases hn)⟩)
          · have HDs := Lib.hid (HTk.out.2.1 (by omega))
            have hF3 : (256 : Int) < (F : Int) := by omega
            subst hk
            clear HTk
            go_wp2_with fail
            exact HQ.out _ _ ⟨fun P' hP => (by rw [HDs.out] at hP; cases hP), fun _ => ⟨rfl, HB4.out⟩⟩
        · have hkb : (kk != 0) = true := bne_iff_ne.2 hk
          have HDs := Lib.hid (HTk.out.1 hk)
          clear hk HTk
          go_wp2_with fail
          exact HQ.out _ _ ⟨fun P' hP => (by rw [HDs.out] at hP; cases hP), fun _ => ⟨rfl, HB4.out⟩⟩
end Go.Proofs.YtlekfpeonehggaaGreatDoor
end
