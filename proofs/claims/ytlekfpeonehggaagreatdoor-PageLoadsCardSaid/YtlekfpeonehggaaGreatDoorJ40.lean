/- What Put and Del keep; chapter 8's example. -/
import Derived.Test.YtlekfpeonehggaaGreatDoorJ31
section
set_option linter.unusedVariables false
set_option linter.unusedSimpArgs false
set_option maxRecDepth 100000
namespace Go.Proofs.YtlekfpeonehggaaGreatDoor
open Go.Proofs.BL Go.Proofs.Peel Go.RowKit Go.Proofs.Ky

structure GoodP (most : Int) (P : List (List Rw)) : Prop where
  p : Pgs tx P
  t : Thin most.toNat P
  l : P.flatten.length ≤ 256
theorem good_nil (most : Int) : GoodP most [] := ⟨⟨List.Pairwise.nil, fun p h => (by cases h)⟩, fun p h => (by cases h), Nat.zero_le _⟩
theorem good_put {most : Int} (hm : 2 ≤ most) {P : List (List Rw)} (h : GoodP most P) (key : ByteArray) (n : Int) : GoodP most (putV most key n P).1 := by
  unfold putV
  split
  · exact h
  · split
    · exact h
    · rename_i hf
      refine ⟨put_pgs tx (by omega) h.p, put_thin tx (by omega) h.p h.t, ?_⟩
      have hl := h.l
      have h1 : (putS tx most.toNat key n P).flatten = withR tx key (some n) P.flatten := put_flat tx h.p
      show (putS tx most.toNat key n P).flatten.length ≤ 256
      rw [h1, len_with_some tx n h.p.1]
      split
      · exact hl
      · rename_i ht
        have hg := get_there tx (k := key) h.p.1
        rw [if_neg ht] at hg
        have h9 : ¬ 256 ≤ P.flatten.length := fun e => hf ⟨by rw [hg]; rfl, e⟩
        omega
theorem good_del {most : Int} {P : List (List Rw)} (h : GoodP most P) (key : ByteArray) : GoodP most (delV most key P).1 := by
  unfold delV
  split
  · rename_i hg
    have hn : P ≠ [] := fun e => by rw [e] at hg; cases hg
    refine ⟨del_pgs tx h.p hn, del_thin tx h.p hn h.t, ?_⟩
    have h1 : (delS tx most.toNat key P).flatten = withR tx key none P.flatten := del_flat tx h.p hn
    show (delS tx most.toNat key P).flatten.length ≤ 256
    rw [h1]
    exact Nat.le_trans (len_with_none tx h.p.1) h.l
  · exact h
abbrev kA : ByteArray := ⟨#[97]⟩
abbrev kB : ByteArray := ⟨#[98]⟩
abbrev kC : ByteArray := ⟨#[99]⟩
abbrev kAA : ByteArray := ⟨#[97, 97]⟩
theorem aw1 : putV 2 kA 1 [] = ([[(kA, 1)]], 0) := by decide +kernel
theorem aw2 : putV 2 kB 2 [[(kA, 1)]] = ([[(kA, 1), (kB, 2)]], 0) := by decide +kernel
theorem aw3 : putV 2 kC 3 [[(kA, 1), (kB, 2)]] = ([[(kA, 1)], [(kB, 2), (kC, 3)]], 0) := by decide +kernel
theorem aw4 : delV 2 kA [[(kA, 1)], [(kB, 2), (kC, 3)]] = ([[(kB, 2), (kC, 3)]], true) := by decide +kernel
theorem aw5 : putV 2 kAA 4 [[(kB, 2), (kC, 3)]] = ([[(kAA, 4)], [(kB, 2), (kC, 3)]], 0) := by decide +kernel
theorem aw6 : get kC [[(kAA, 4)], [(kB, 2), (kC, 3)]].flatten = some 3 := by decide +kernel
theorem pg1 : GoodP 2 [[(kA, 1)]] := by have := good_put (most := 2) (by decide) (good_nil 2) kA 1; rwa [aw1] at this
theorem pg2 : GoodP 2 [[(kA, 1), (kB, 2)]] := by have := good_put (most := 2) (by decide) pg1 kB 2; rwa [aw2] at this
theorem pg3 : GoodP 2 [[(kA, 1)], [(kB, 2), (kC, 3)]] := by have := good_put (most := 2) (by decide) pg2 kC 3; rwa [aw3] at this
theorem pg4 : GoodP 2 [[(kB, 2), (kC, 3)]] := by have := good_del pg3 kA; rwa [aw4] at this
theorem pg5 : GoodP 2 [[(kAA, 4)], [(kB, 2), (kC, 3)]] := by have := good_put (most := 2) (by decide) pg4 kAA 4; rwa [aw5] at this
theorem putC {p : Nat} {most : Int} {P P' : List (List Rw)} {key : ByteArray} {n c : Int} {ls : List Part} {w : World} (h : Sat (stP p most P :: ls) w) (hg : GoodP most P) (hm : 2 ≤ most) (e : putV most key n P = (P', c)) :
    Calls Tryz.prog 34 #[.pointer (some ⟨p, 0, none⟩), .string key, .int .i64 n] w (PutPost p most ls (P', c)) := by
  rw [← e]; exact stPut p most P key n ls w h hg.p hg.t hm hg.l
theorem delC {p : Nat} {most : Int} {P P' : List (List Rw)} {key : ByteArray} {c : Bool} {ls : List Part} {w : World} (h : Sat (stP p most P :: ls) w) (hg : GoodP most P) (hm : 2 ≤ most) (hm2 : most ≤ 64) (e : delV most key P = (P', c)) :
    Calls Tryz.prog 35 #[.pointer (some ⟨p, 0, none⟩), .string key] w (DelPost p most ls (P', c)) := by
  rw [← e]; exact stDel p most P key ls w h hg.p hm hm2 hg.l
def SamePost (ls : List Part) (e : Ending) (w' : World) : Prop := e = .returned (.bool true) ∧ Sat ls w'
set_option maxHeartbeats 8000000 in
theorem lawake (ls : List Part) (w : World) (h : Sat ls w) : Calls Tryz.prog 9 #[] w (SamePost ls) := by
  refine via fun Q hQ => ?_
  have HN := Lib.hid (stNew 2 ls w h (by decide) (by decide))
  clear h
  go_enter Tryz.func9, Tryz.ntmps9
  go_wp2_with fail
  (with_reducible refine HN.out.mono ?_)
  rintro e w1 ⟨p, rfl, hS⟩
  have H1 := Lib.hid (putC hS (good_nil 2) (by decide) aw1)
  clear hS HN
  go_wp2_with fail
  (with_reducible refine H1.out.mono ?_)
  rintro e w2 ⟨rfl, hS⟩
  have H1 := Lib.hid (putC hS pg1 (by decide) aw2)
  clear hS
  go_wp2_with fail
  (with_reducible refine H1.out.mono ?_)
  rintro e w3 ⟨rfl, hS⟩
  have H1 := Lib.hid (putC hS pg2 (by decide) aw3)
  clear hS
  go_wp2_with fail
  (with_reducible refine H1.out.mono ?_)
  rintro e w4 ⟨rfl, hS⟩
  have H1 := Lib.hid (stPages p 2 _ ls w4 hS (by decide) (by decide))
  clear hS
  go_wp2_with fail
  (with_reducible refine H1.out.mono ?_)
  rintro e w5 ⟨v, us, rfl, hS⟩
  obtain ⟨u1, hu1, hU1⟩ := hS.s1.pageAt (i := 1) (r := [(kB, 2), (kC, 3)]) rfl
  obtain ⟨A1, c1, rfl, _, _, _⟩ := hU1.slv'
  have hlen := hS.drop.pagesLen
  obtain ⟨g, c, hv, _, _⟩ := own_some hS.own_ (fun e => by have h9 := congrArg List.length e; rw [lfR_len, hlen] at h9; cases h9)
  rw [lfR_len, hlen, show [[(kA, (1 : Int))], [(kB, 2), (kC, 3)]].length = 2 from rfl] at hv
  subst hv
  have k1 := (own_at hS.own_ (lfR_at hu1) 0 rfl).1
  simp only [Nat.one_mul, Nat.add_zero] at k1
  have k1 : World.cell? w5 ⟨g, 1, none⟩ = some (.slice A1 2 c1) := k1
  have H1 := Lib.hid (delC hS.drop.drop pg3 (by decide) (by decide) aw4)
  clear hS hu1 hU1 hlen
  go_wp2_with fail
  (with_reducible refine H1.out.mono ?_)
  rintro e w6 ⟨rfl, hS⟩
  have H1 := Lib.hid (putC hS pg4 (by decide) aw5)
  clear hS k1
  go_wp2_with fail
  (with_reducible refine H1.out.mono ?_)
  rintro e w7 ⟨rfl, hS⟩
  have H1 := Lib.hid (stPages p 2 _ ls w7 hS (by decide) (by decide))
  clear hS
  go_wp2_with fail
  (with_reducible refine H1.out.mono ?_)
  rintro e w8 ⟨v, us, rfl, hS⟩
  obtain ⟨u0, hu0, hU0⟩ := hS.s1.pageAt (i := 0) (r := [(kAA, 4)]) rfl
  obtain ⟨g0, c0, hv0, _, _⟩ := hU0.some_ (by simp [rwR])
  have hv0 : u0 = .slice (some ⟨g0, 0, none⟩) 1 c0 := hv0
  subst hv0
  obtain ⟨⟨m1, _⟩, _, _⟩ := pgRow hU0 (i := 0) (x := (kAA, 4)) rfl
  simp only [Nat.zero_mul] at m1
  have hlen := hS.drop.pagesLen
  obtain ⟨g, c, hv, _, _⟩ := own_some hS.own_ (fun e => by have h9 := congrArg List.length e; rw [lfR_len, hlen] at h9; cases h9)
  rw [lfR_len, hlen, show [[(kAA, (4 : Int))], [(kB, 2), (kC, 3)]].length = 2 from rfl] at hv
  subst hv
  have k0 := (own_at hS.own_ (lfR_at hu0) 0 rfl).1
  simp only [Nat.zero_mul, Nat.add_zero] at k0
  obtain ⟨L, vs, hF, _⟩ := hS.drop.drop.stF
  have hg := stGet p 2 _ L vs _ kC w8 hF pg5.p (by decide)
  rw [aw6] at hg
  have HG := Lib.hid hg
  have HF := Lib.hid hF
  have HS := Lib.hid hS.drop.drop
  clear hg hF hS hu0 hU0 hlen
  go_wp2_with fail
  (with_reducible refine HG.out.mono ?_)
  rintro e w9 ⟨rfl, hb⟩
  have k0 := (hb.cell (World.block_lt_of_cell? w8 _ k0)).trans k0
  have m1 := (hb.cell (World.block_lt_of_cell? w8 _ m1)).trans m1
  have HL := Lib.hid (stLen p 2 _ L vs _ w9 (HF.out.below hb))
  have HS9 := Lib.hid (HS.out.below hb).drop
  have hst := str_same (rfl : kAA = kAA)
  clear hb HG HS HF
  go_wp2_with fail
  (with_reducible refine HL.out.mono ?_)
  rintro e w10 ⟨rfl, rfl⟩
  go_wp2_with fail
  exact ⟨rfl, HS9.out⟩
end Go.Proofs.YtlekfpeonehggaaGreatDoor
end
