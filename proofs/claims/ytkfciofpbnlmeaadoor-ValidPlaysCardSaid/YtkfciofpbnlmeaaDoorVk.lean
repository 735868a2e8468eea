/- Chapter 16: the document's First, Check, Forget; the law's texts. -/
import Derived.Test.YtkfciofpbnlmeaaDoorVj
set_option linter.unusedVariables false
set_option linter.unusedSimpArgs false
set_option maxRecDepth 100000
namespace Go.Proofs.YtkfciofpbnlmeaaDoor
open Go.Proofs.BL Go.Proofs.Peel Go.RowKit Go.Proofs.Ky Go.Proofs.Vl

/-- What is told of the document's history. -/
def DhF (w : World) (q f : Nat) (all : List (List Str)) : Prop := ∃ (A : Option Addr) (c : Nat) (vs : List Value), Blk w q #[.slice A all.length c, .int .i64 (f : Nat)] 37 ∧ RowsAt w 1 A (lfR vs) ∧ LsAt w vs all ∧ all.length ≤ c
theorem DhF.below {w w' : World} {q f : Nat} {all : List (List Str)} (h : DhF w q f all) (hb : Below w.heap.size w w') : DhF w' q f all := by
  obtain ⟨A, c, vs, h1, h2, h3, h4⟩ := h
  exact ⟨A, c, vs, h1.below hb, h2.below hb, h3.below hb, h4⟩
theorem DhS.told {q f : Nat} {all : List (List Str)} {ls : List Part} {w : World} (h : DhS q f all ls w) : DhF w q f all := by
  obtain ⟨A, c, vs, _, hc, hS⟩ := h
  exact ⟨A, c, vs, hS.blk_, hS.s1.rows_, ⟨hS.drop.drop.roL_.1, fun i s hi => by obtain ⟨A', c', h1, h2, h3, _, h5⟩ := hS.drop.drop.roL_.2 i s hi; exact ⟨A', c', h1, h2, h3, h5⟩⟩, hc⟩
theorem DhF.at_ {w : World} {q f : Nat} {all : List (List Str)} {A : Option Addr} {c : Nat} {vs : List Value} (hr : RowsAt w 1 A (lfR vs)) (hL : LsAt w vs all) {i : Nat} {s : List Str} (hi : all[i]? = some s) :
    ∃ b o B cc, A = some ⟨b, o, none⟩ ∧ w.cell? ⟨b, o + i, none⟩ = some (.slice B s.length cc) ∧ s.length ≤ cc ∧ (B = none → cc = 0) ∧ RowsAt w 1 B (rwS s) := by
  obtain ⟨B, cc, hv, h1, h2, h3⟩ := hL.2 i s hi
  obtain ⟨b, o, e, hc⟩ := hr i _ (lfR_at hv)
  have := hc 0 _ rfl
  rw [Nat.mul_one, Nat.add_zero] at this
  exact ⟨b, o, B, cc, e, this, h1, h2, h3⟩
theorem hit_swap (reads s : List Str) : hitB reads s = s.any (fun a => hasK reads a) := by
  letI : BEq Str := instBEqOfDecidableEq
  rw [Bool.eq_iff_iff, hitB, List.any_eq_true, List.any_eq_true]
  constructor
  · rintro ⟨k, hk, h⟩
    exact ⟨k, List.contains_iff_mem.1 h, List.contains_iff_mem.2 hk⟩
  · rintro ⟨a, ha, h⟩
    exact ⟨a, List.contains_iff_mem.1 h, List.contains_iff_mem.2 ha⟩
theorem has_any (reads : List Str) (a : Str) : hasK reads a = reads.any (fun b => decide (a = b)) := by
  letI : BEq Str := instBEqOfDecidableEq
  rw [Bool.eq_iff_iff, List.any_eq_true]
  constructor
  · intro h
    exact ⟨a, List.contains_iff_mem.1 h, by simp⟩
  · rintro ⟨b, hb, h⟩
    have := of_decide_eq_true h
    subst this
    exact List.contains_iff_mem.2 hb
set_option maxHeartbeats 8000000 in
theorem dFst (q f : Nat) (all : List (List Str)) (since : Nat) (A : Option Addr) (n c : Nat) (reads : List Str) (w : World) (h : DhF w q f all) (hs : since ≤ all.length) (hfew : all.length ≤ 1000) (hsh : ∀ s ∈ all, s.length ≤ 1000)
    (hr : RowsAt w 1 A (rwS reads)) (hn : reads.length = n) (hl : n ≤ 1000) :
    Calls Tryd.prog 27 #[.pointer (some ⟨q, 0, none⟩), .int .i64 (since : Nat), .slice A n c] w (Tells_ (.int .i64 (firstV all since reads : Nat)) w) := by
  refine via fun Q hQ => ?_
  obtain ⟨Ad, cd, vs, hB, hrd, hLd, hcd⟩ := h
  have HQ := Lib.hid hQ
  have c0 := hB.at_ 0 rfl
  simp only [List.getElem_toArray, List.getElem_cons_zero] at c0
  have HC0 := Lib.hid (fun (x : World) (hb : Below w.heap.size w x) => (hb.cell (World.block_lt_of_cell? _ _ c0)).trans c0)
  have HRd := Lib.hid hrd
  have HLd := Lib.hid hLd
  have HR := Lib.hid hr
  have HNL := Lib.hid hn
  have HSh := Lib.hid hsh
  clear hQ hB hrd hLd hr hn hsh
  generalize hN : all.length = N at *
  have HN := Lib.hid hN
  clear hN
  go_enter Tryd.func27, Tryd.ntmps27
  go_wp2_with fail
  go_loopg [7] (N - since) (fun g x7 wr => ∃ m : Nat, since + m ≤ N ∧ g = N - (since + m) ∧ x7 = .int .i64 ((since + m : Nat) : Int) ∧ Hid (((all.drop since).take m).any (hitB reads) = false) ∧ Hid (Below w.heap.size w wr))
  case atStart => exact ⟨0, by omega, by omega, rfl, Lib.hid rfl, Lib.hid (Below.refl _ _)⟩
  case round =>
    obtain ⟨m, hm, rfl, rfl, HT, HB⟩ := hrel
    have c0 := HC0.out wr HB.out
    by_cases hlt : since + m < N
    · have hlti : ((since + m : Nat) : Int) < (N : Int) := by omega
      have hx : all[since + m]? = some (all[since + m]'(by rw [HN.out]; exact hlt)) := List.getElem?_eq_getElem _
      generalize all[since + m]'(by rw [HN.out]; exact hlt) = s at hx
      have hxd : (all.drop since)[m]? = some s := by rw [List.getElem?_drop]; exact hx
      obtain ⟨b, o, B, cc, hA, k1, hcc, _, hrs⟩ := DhF.at_ (q := q) (f := f) (c := cd) (HRd.out.below HB.out) (HLd.out.below HB.out) hx
      have hsl := HSh.out s (List.mem_of_getElem? hx)
      have HFS := Lib.hid (find_some (p := hitB reads) hxd HT.out)
      have HNX := Lib.hid (any_next (p := hitB reads) hxd HT.out)
      have HRs := Lib.hid (fun (x : World) (hb : Below wr.heap.size wr x) => hrs.below hb)
      have hw1 : IntKind.i64.wrap (((since + m : Nat) : Int) + 1) = ((since + m + 1 : Nat) : Int) := by rw [IntKind.wrap_i64]; omega
      subst hA
      generalize hsn : s.length = sn at *
      have HSN := Lib.hid hsn
      clear hx hxd hrs hsn
      generalize hsm : since + m = sm at *
      have HSM := Lib.hid hsm
      clear hsm
      go_wp2_with fail
      go_loopg [30] sn (fun g x30 ws => ∃ j : Nat, j ≤ sn ∧ g = sn - j ∧ x30 = .int .i64 j ∧ Hid ((s.take j).any (fun a => hasK reads a) = false) ∧ Hid (Below wr.heap.size wr ws))
      case atStart => exact ⟨0, Nat.zero_le _, rfl, rfl, Lib.hid rfl, Lib.hid (Below.refl _ _)⟩
      case round =>
        obtain ⟨j, hj, rfl, rfl, HTj, HBj⟩ := hrel
        by_cases hjs : j < sn
        · have hy : s[j]? = some (s[j]'(by rw [HSN.out]; exact hjs)) := List.getElem?_eq_getElem _
          generalize s[j]'(by rw [HSN.out]; exact hjs) = a at hy
          obtain ⟨b2, o2, hA2, k2⟩ := txtAt (HRs.out _ HBj.out) hy
          have HNj := Lib.hid (any_next (p := fun a => hasK reads a) hy HTj.out)
          have HMa := Lib.hid (List.mem_of_getElem? hy)
          have HBw := Lib.hid (below_then HB.out HBj.out)
          subst hA2
          clear hy
          generalize hwj : wr = wj at *
          clear hwj
          go_wp2_with fail
          go_loopg [36] n (fun g x36 wt => ∃ k : Nat, k ≤ n ∧ g = n - k ∧ x36 = .int .i64 k ∧ Hid ((reads.take k).any (fun b => decide (a = b)) = false) ∧ Hid (Below wj.heap.size wj wt))
          case atStart => exact ⟨0, Nat.zero_le _, rfl, rfl, Lib.hid rfl, Lib.hid (Below.refl _ _)⟩
          case round =>
            obtain ⟨k, hk, rfl, rfl, HTk, HBk⟩ := hrel
            by_cases hkn : k < n
            · have hz : reads[k]? = some (reads[k]'(by rw [HNL.out]; exact hkn)) := List.getElem?_eq_getElem _
              generalize reads[k]'(by rw [HNL.out]; exact hkn) = bb at hz
              obtain ⟨b3, o3, hA3, k3⟩ := txtAt (HR.out.below (below_then HBw.out HBk.out)) hz
              have HNk := Lib.hid (any_next (p := fun b => decide (a = b)) hz HTk.out)
              have HBf := Lib.hid (below_then HBw.out HBk.out)
              subst hA3
              by_cases hab : a = bb
              · have hst := str_same hab
                have hhit : hitB reads s = true := by
                  rw [hit_swap]
                  refine List.any_eq_true.2 ⟨a, HMa.out, ?_⟩
                  rw [has_any]
                  exact HNk.out.1 (decide_eq_true hab)
                have HF := Lib.hid (show firstV all since reads = sm + 1 from by rw [firstV, HFS.out hhit, ← HSM.out])
                clear hz hhit
                go_wp2_with fail
                exact HQ.out _ _ ⟨by rw [HF.out]; first | rfl | (rw [hw1]; rfl), HBf.out⟩
              · have hst := str_diff hab
                have HE := Lib.hid (HNk.out.2 (decide_eq_false hab))
                clear hz
                go_wp2_with fail
                go_roundg (n - (k + 1))
                case measure => omega
                case rel => exact ⟨k + 1, by omega, rfl, by go_num, HE, Lib.hid ((HBk.out))⟩
            · obtain rfl : k = n := by omega
              have hT := HTk.out
              rw [List.take_of_length_le (by rw [HNL.out]; exact Nat.le_refl _), ← has_any] at hT
              have HE := Lib.hid (HNj.out.2 hT)
              clear hT
              go_wp2_with fail
              go_roundg (sn - (j + 1))
              case measure => omega
              case rel => exact ⟨j + 1, by omega, rfl, by go_num, HE, Lib.hid (below_then HBj.out HBk.out)⟩
        · obtain rfl : j = sn := by omega
          have hT := HTj.out
          rw [List.take_of_length_le (by rw [HSN.out]; exact Nat.le_refl _), ← hit_swap] at hT
          have HE := Lib.hid (HNX.out.2 hT)
          clear hT
          go_wp2_with fail
          go_roundg (N - (sm + 1))
          case measure => omega
          case rel => exact ⟨m + 1, by have := HSM.out; omega, by have := HSM.out; omega, by have := HSM.out; go_num, HE, Lib.hid (below_then HB.out HBj.out)⟩
    · have hme : since + m = N := by omega
      have hT := HT.out
      rw [List.take_of_length_le (by rw [List.length_drop, HN.out]; omega)] at hT
      have HF := Lib.hid (show firstV all since reads = 0 from by rw [firstV, find_none hT])
      have hni : ¬ ((since + m : Nat) : Int) < (N : Int) := by omega
      clear hT
      generalize ((since + m : Nat) : Int) = sm at *
      go_wp2_with fail
      exact HQ.out _ _ ⟨by rw [HF.out]; rfl, HB.out⟩
end Go.Proofs.YtkfciofpbnlmeaaDoor
