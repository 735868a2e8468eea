/- PageLoads, walked. -/
import Derived.Test.YtlekfpeonehggaaGreatDoorJ47
import Derived.Test.YtlekfpeonehggaaGreatDoorJ32
import Derived.Test.YtlekfpeonehggaaGreatDoorJ40
import Derived.Deep.DeepCutAuto
import Derived.Deep.CutBlock
section
set_option linter.unusedVariables false
set_option linter.unusedSimpArgs false
set_option maxRecDepth 100000
namespace Go.Proofs.YtlekfpeonehggaaGreatDoor
open Go.Proofs.BL Go.Proofs.Peel Go.RowKit Go.Proofs.Ky

def LawPost (W : World) (e : Ending) (W' : World) : Prop := e = .returned (.bool true) ∧ Below W.heap.size W W'
set_option maxHeartbeats 16000000 in
theorem lawLoads (P0 : List (List Rw)) (np : Nat) (hnp : P0.length = np) (most at_ by_ : Int) (ot : List UInt8) (A0 : Option Addr) (c0 : Nat) (A4 : Option Addr) (c4 : Nat) (W : World) (hE : ErrT W)
    (hP0 : PgW W A0 P0) (hm0 : np ≤ 9223372036854775807) (hw0 : ∀ r ∈ P0, r.length ≤ 9223372036854775807 ∧ ∀ x ∈ r, -9223372036854775808 ≤ x.2 ∧ x.2 ≤ 9223372036854775807)
    (hc4 : ot.length ≤ c4) (hr4 : RowsAt W 1 A4 (bys ot)) (hm4 : c4 ≤ 9223372036854775807) :
    Calls Tryz.prog 3 #[.slice A0 np c0, .int .i64 most, .int .i64 at_, .int .u8 by_, .slice A4 ot.length c4] W (LawPost W) := by
  refine via fun Q hQ => ?_
  have HQ := Lib.hid hQ
  have HE := Lib.hid hE
  have HP0 := Lib.hid hP0
  have HW0 := Lib.hid hw0
  have hot : ∃ (n c : Nat) (o2 : List UInt8), o2.length = n ∧ n ≤ 200 ∧ n ≤ c ∧ RowsAt W 1 A4 (bys o2) ∧ ((ot.length ≤ 200 ∧ n = ot.length ∧ c = c4) ∨ (200 < ot.length ∧ n = 200 ∧ c = c4 ∧ ∃ b o, A4 = some ⟨b, o, none⟩)) := by
    by_cases h : ot.length ≤ 200
    · exact ⟨_, _, ot, rfl, h, hc4, hr4, .inl ⟨h, rfl, rfl⟩⟩
    · refine ⟨200, c4, ot.take 200, by rw [List.length_take]; omega, by omega, by omega, ?_, .inr ⟨by omega, rfl, rfl, ?_⟩⟩
      · have := hr4.take 200
        rwa [← List.map_take] at this
      · obtain ⟨x, xs, e⟩ := List.exists_cons_of_ne_nil (show ot ≠ [] from fun e => by rw [e] at h; simp at h)
        subst e
        obtain ⟨b, o, e, _⟩ := hr4 0 (enB x) rfl
        exact ⟨b, o, e⟩
  obtain ⟨n3, c3', o2, hn3, h200, hc3', hr3', hot⟩ := hot
  have HO2 := Lib.hid hr3'
  have HN3 := Lib.hid hn3
  have HOT := Lib.hid hot
  have HS0 := Lib.hid (((((Sat.start W).alloc #[.int .i64 most, .slice none 0 0] 26).put (B := pagesP [] []) (fun G => trivial)).nilR 27 1).s2)
  clear hr3' hn3 hr4 hw0 hQ hE hP0 hot
  have HNP := Lib.hid hnp
  clear hnp
  go_enter Tryz.func3, Tryz.ntmps3
  go_upto_block 0 with fail
  go_cut [] (fun wx => ∃ (i : Nat) (us : List Value) (LP : Value), i ≤ 6 ∧ Hid (Sat (blk W.heap.size #[.int .i64 most, LP] 26 :: ownR LP 27 1 (lfR us) :: pagesP us (pgsC P0 i) :: old W :: []) wx))
  case first =>
    go_wp2_with fail
    go_loopg [28] np (fun g x28 wr => ∃ (i : Nat) (us : List Value) (LP : Value), i ≤ 6 ∧ i ≤ np ∧ g = np - i ∧ x28 = .int .i64 i ∧ Hid (Sat (blk W.heap.size #[.int .i64 most, LP] 26 :: ownR LP 27 1 (lfR us) :: pagesP us (pgsC P0 i) :: old W :: []) wr))
    case atStart => exact ⟨0, [], .slice none 0 0, by decide, Nat.zero_le _, rfl, rfl, HS0⟩
    case round =>
      obtain ⟨i, us, LP, hi6, hin, rfl, rfl, HS⟩ := hrel
      clear HS0
      by_cases hlt : i < np
      · have hx : P0[i]? = some (P0[i]'(by rw [HNP.out]; exact hlt)) := List.getElem?_eq_getElem _
        generalize P0[i]'(by rw [HNP.out]; exact hlt) = r at hx
        obtain ⟨b, o, B, cc, rfl, k0, hc, hR⟩ := HP0.out i r hx
        have k1 := (HS.out.drop.drop.drop.old_.cell (World.block_lt_of_cell? _ _ k0)).trans k0
        by_cases h6 : i < 6
        · have h6i : ¬ (6 : Int) ≤ (i : Int) := by omega
          have hrw := HW0.out r (List.mem_of_getElem? hx)
          have HNX := Lib.hid (pgsC_next hx)
          have HR := Lib.hid hR
          have HSn := Lib.hid (show Sat (ownR (.slice none 0 0) 29 2 (rwR (pgC r 0)) :: blk W.heap.size #[.int .i64 most, LP] 26 :: ownR LP 27 1 (lfR us) :: pagesP us (pgsC P0 i) :: old W :: []) wr from by rw [pgC_zero]; exact HS.out.nilR 29 2)
          have hrl := hrw.1
          clear hx hR hrw k0 HS
          generalize hnr : r.length = nr at *
          have HNR := Lib.hid hnr
          clear hnr
          go_wp2_with fail
          go_loopg [14, 37] nr (fun g x14 x37 ws => ∃ k : Nat, k ≤ nr ∧ g = nr - k ∧ x37 = .int .i64 k ∧ Hid (Sat (ownR x14 29 2 (rwR (pgC r k)) :: blk W.heap.size #[.int .i64 most, LP] 26 :: ownR LP 27 1 (lfR us) :: pagesP us (pgsC P0 i) :: old W :: []) ws))
          case atStart => exact ⟨0, Nat.zero_le _, rfl, rfl, HSn⟩
          case round =>
            obtain ⟨k, hk, rfl, rfl, HSs⟩ := hrel
            by_cases hkn : k < nr
            · have hy : r[k]? = some (r[k]'(by rw [HNR.out]; exact hkn)) := List.getElem?_eq_getElem _
              generalize r[k]'(by rw [HNR.out]; exact hkn) = y at hy
              obtain ⟨key, n⟩ := y
              obtain ⟨b2, o2', rfl, c1, c2⟩ := rowAt (HR.out.below HSs.out.drop.drop.drop.drop.old_) hy
              simp only at c1 c2
              by_cases h8 : k < 8
              · have hnx := pgC_next hy h8
                have HLl := Lib.hid (show ((rwR (pgC r k)).length + 1) * 24 ≤ 140737488355328 from by have := pgC_len r k; rw [rwR_len]; omega)
                obtain ⟨ky, hky⟩ : ∃ ky : ByteArray, (if 20 < key.size then key.extract 0 20 else key) = ky := ⟨_, rfl⟩
                have HNXk := Lib.hid (show rwR (pgC r (k + 1)) = rwR (pgC r k) ++ [enR (ky, n)] from by rw [hnx, cutR, ← hky]; simp [rwR])
                by_cases h20 : 20 < key.size
                · rw [if_pos h20] at hky
                  subst hky
                  have HSa := Lib.hid (HSs.out.alloc #[.string (key.extract 0 20), .int .i64 n] 29).drop
                  go_wp2_with (at_builtin; refine Classical.byContradiction fun hcontra => ?_)
                  refine hcontra ?_
                  clear hcontra
                  refine satApp (W := wr.alloc (.cells #[.string (key.extract 0 20), .int .i64 n] 29)) 29 2 24 (.agg #[.string ⟨#[]⟩, .int .i64 0]) rfl (.tmp 52) (.tmp 54) 27 rfl Tryz.underlying27 (by kernel_rfl) rfl (by decide) (by decide) _ (rwR (pgC r k)) (enR ((key.extract 0 20), n)) rfl _ rfl (by simp) rfl (enR_one _) HSa.out rfl HLl.out ?_
                  intro v9 w9 hS9
                  have HS9 := Lib.hid (show Sat (ownR v9 29 2 (rwR (pgC r (k + 1))) :: _) w9 from by rw [HNXk.out]; exact hS9)
                  clear hS9 HSa HSs
                  go_wp2_with fail
                  go_roundg (nr - (k + 1))
                  case measure => omega
                  case rel => exact ⟨k + 1, by omega, rfl, by go_num, HS9⟩
                · rw [if_neg h20] at hky
                  subst hky
                  have HSa := Lib.hid (HSs.out.alloc #[.string key, .int .i64 n] 29).drop
                  go_wp2_with (at_builtin; refine Classical.byContradiction fun hcontra => ?_)
                  refine hcontra ?_
                  clear hcontra
                  refine satApp (W := wr.alloc (.cells #[.string key, .int .i64 n] 29)) 29 2 24 (.agg #[.string ⟨#[]⟩, .int .i64 0]) rfl (.tmp 52) (.tmp 54) 27 rfl Tryz.underlying27 (by kernel_rfl) rfl (by decide) (by decide) _ (rwR (pgC r k)) (enR (key, n)) rfl _ rfl (by simp) rfl (enR_one _) HSa.out rfl HLl.out ?_
                  intro v9 w9 hS9
                  have HS9 := Lib.hid (show Sat (ownR v9 29 2 (rwR (pgC r (k + 1))) :: _) w9 from by rw [HNXk.out]; exact hS9)
                  clear hS9 HSa HSs
                  go_wp2_with fail
                  go_roundg (nr - (k + 1))
                  case measure => omega
                  case rel => exact ⟨k + 1, by omega, rfl, by go_num, HS9⟩
              · have HS9 := Lib.hid (show Sat (ownR u14 29 2 (rwR (pgC r (k + 1))) :: _) (wr.alloc (.cells #[.string key, .int .i64 n] 29)) from by rw [pgC_stay h8]; exact (HSs.out.alloc #[.string key, .int .i64 n] 29).drop)
                clear HSs
                go_wp2_with fail
                go_roundg (nr - (k + 1))
                case measure => omega
                case rel => exact ⟨k + 1, by omega, rfl, by go_num, HS9⟩
            · obtain rfl : k = nr := by omega
              have HSe := Lib.hid (show Sat (ownR u14 29 2 (rwR (pgC r r.length)) :: _) wr from by rw [HNR.out]; exact HSs.out)
              clear HSs
              obtain ⟨Bv, cv, ev, _, _, _⟩ := HSe.out.own_.slv'
              subst ev
              have g1 := HSe.out.s1.blk_.at_ 1 rfl
              have g2 := HSe.out.s1.blk_.free 1
              simp only [List.getElem_toArray, List.getElem_cons_succ, List.getElem_cons_zero] at g1
              obtain ⟨BL_, cL, eL, _, _, _⟩ := HSe.out.s2.own_.slv'
              subst eL
              have hus := HSe.out.drop.drop.drop.pagesLen
              have HLv := Lib.hid (show ((lfR us).length + 1) * 24 ≤ 140737488355328 from by rw [lfR_len, hus, pgsC, List.length_map, List.length_take]; omega)
              have HSl := Lib.hid HSe.out.s2
              clear HSe hus
              go_wp2_with (at_builtin; refine Classical.byContradiction fun hcontra => ?_)
              refine hcontra ?_
              clear hcontra
              refine satApp (W := wr) 27 1 24 (.slice none 0 0) rfl (.tmp 61) (.tmp 63) 22 rfl Tryz.underlying22 (by kernel_rfl) rfl (by decide) (by decide) _ (lfR us) [.slice Bv (rwR (pgC r r.length)).length cv] rfl _ rfl rfl rfl (by simp [Value.oneCell']) HSl.out rfl HLv.out ?_
              intro v7 w7 hS7
              obtain ⟨A7, c7, e7, _, _, _⟩ := hS7.own_.slv'
              rw [show (lfR us ++ [[Value.slice Bv (rwR (pgC r r.length)).length cv]]).length = (lfR us).length + 1 from by rw [List.length_append]; rfl] at e7
              subst e7
              have q1 := hS7.s2.blk_.at_ 1 rfl
              have q2 := hS7.s2.blk_.free 1
              simp only [List.getElem_toArray, List.getElem_cons_succ, List.getElem_cons_zero] at q1
              have hS8 : Sat (blk W.heap.size #[.int .i64 most, .slice A7 ((lfR us).length + 1) c7] 26 :: _) (w7.setCell ⟨W.heap.size, 1, none⟩ (.slice A7 ((lfR us).length + 1) c7)) := hS7.s2.set 1 (.slice A7 ((lfR us).length + 1) c7)
              have HS9 := Lib.hid (hS8.s3.s3.toW.pageEnd.t2)
              have HLf := Lib.hid (show lfR (us ++ [Value.slice Bv (rwR (pgC r r.length)).length cv]) = lfR us ++ [[Value.slice Bv (rwR (pgC r r.length)).length cv]] from by simp [lfR])
              clear hS7 hS8 HSl
              go_wp2_with fail
              go_roundg (np - (i + 1))
              case measure => omega
              case rel => exact ⟨i + 1, us ++ [Value.slice Bv (rwR (pgC r r.length)).length cv], .slice A7 ((lfR us).length + 1) c7, by omega, by omega, rfl, by go_num, Lib.hid (by rw [HLf.out, HNX.out, ← HNR.out]; exact HS9.out)⟩
        · have h6i : (6 : Int) ≤ (i : Int) := by omega
          go_wp2_with fail
          go_meet
          exact ⟨i, us, LP, hi6, HS⟩
      · obtain rfl : i = np := by omega
        go_wp2_with fail
        go_meet
        exact ⟨i, us, LP, hi6, HS⟩
  case rest =>
    obtain ⟨i, us, LP, hi6, HS⟩ := hcut
    clear HS0
    have hin := pgsC_in (P := P0) hi6 (fun r hr => (HW0.out r hr).2)
    generalize pgsC P0 i = P at *
    obtain ⟨Ar, cr, rfl, hcr, hSf⟩ := HS.out.t2.freeze
    have HS1 := Lib.hid hSf
    have HI := Lib.hid hin
    have HLB := Lib.hid (Nat.le_trans hin.d (by decide) : (stBy P).length ≤ 1000000000)
    have HBy1 := Lib.hid (dBytes _ most Ar cr P wc hSf.s1.blk_ hSf.pgr_ HLB.out (by have := hin.a; omega) (fun r hr => by have := hin.b r hr; omega) hin.c)
    clear hSf hin HS
    go_upto_if 70 with fail
    go_cut [4] (fun s4 wx => s4 = .slice A4 n3 c3' ∧ wx = wc)
    case first =>
      rcases HOT.out with ⟨h2, hn, hcc⟩ | ⟨h2, hn, hcc, b3, o3, hA3⟩
      · have h2j : ¬ (200 : Int) < (ot.length : Int) := by omega
        go_wp2_with fail
        go_meet
        exact ⟨by rw [hn, hcc], rfl⟩
      · have h2j : (200 : Int) < (ot.length : Int) := by omega
        rw [hA3]
        go_wp2_with fail
        go_meet
        exact ⟨by rw [hn, hcc, hA3], rfl⟩
    case rest =>
      obtain ⟨rfl, rfl⟩ := hcut
      clear HOT
      go_wp2_with fail
      (with_reducible refine HBy1.out.mono ?_)
      rintro e w2 ⟨v2, rfl, ho2, hb2⟩
      obtain ⟨g2, cb, e2, h2c, _⟩ := own_bys ho2 (by simp [stBy, natB])
      subst e2
      have HS2 := Lib.hid (HS1.out.made hb2 ho2)
      have hnb : 0 < (stBy P).length := by simp [stBy, natB]
      clear ho2 hb2 HS1 HBy1
      generalize hnl : (stBy P).length = nb at *
      have HNb := Lib.hid hnl
      clear hnl
      have hnbb : ((nb : Int) == 0) = false := int_diff (by omega)
      have hnb1 : (0 : Int) < (nb : Int) := by omega
      have hnb2 : (nb : Int) ≤ 1000000000 := by have := HLB.out; omega
      have z1 : -(nb : Int) < at_.tmod nb := by have := Int.tmod_lt_of_pos (-at_) hnb1; rw [Int.neg_tmod] at this; omega
      have z2 : at_.tmod nb < nb := Int.tmod_lt_of_pos at_ hnb1
      generalize hz : at_.tmod nb = z at z1 z2
      have hj : (∃ j : Nat, z = -(j : Int) ∧ -(j : Int) < 0 ∧ j < nb) ∨ (∃ j : Nat, z = (j : Int) ∧ ¬ (j : Int) < 0 ∧ j < nb) := by
        by_cases h : z < 0
        · exact .inl ⟨(-z).toNat, by omega, by omega, by omega⟩
        · exact .inr ⟨z.toNat, by omega, by omega, by omega⟩
      go_upto_if 80 with fail
      go_cut [2] (fun s2 wx => ∃ j : Nat, s2 = .int .i64 j ∧ j < nb ∧ wx = w2)
      case first =>
        rcases hj with ⟨j, rfl, hj0, hjn⟩ | ⟨j, rfl, hj0, hjn⟩
        all_goals
          go_wp2_with fail
          go_meet
          exact ⟨j, rfl, hjn, rfl⟩
      case rest =>
        obtain ⟨j, rfl, hjn, rfl⟩ := hcut
        clear hj hz z1 z2
        have hx : (stBy P)[j]? = some ((stBy P)[j]'(by rw [HNb.out]; exact hjn)) := List.getElem?_eq_getElem _
        generalize (stBy P)[j]'(by rw [HNb.out]; exact hjn) = x at hx
        have hrow : (bys (stBy P))[j]? = some (enB x) := by rw [bys, List.getElem?_map, hx]; rfl
        obtain ⟨k1, k2⟩ := own_at HS2.out.own_ hrow 0 rfl
        rw [Nat.mul_one, Nat.add_zero] at k1 k2
        obtain ⟨y, hy⟩ := xor8 x.toNat by_
        have hS6 := HS2.out.setOwn hrow 0 (by decide) (.int .u8 y.toNat)
        rw [Nat.mul_one, Nat.add_zero] at hS6
        have HS6 := Lib.hid (show Sat (ownR (.slice (some ⟨g2, 0, none⟩) nb cb) 5 1 (bys ((stBy P).set j y)) :: rPg Ar P :: blk W.heap.size #[.int .i64 most, .slice Ar P.length cr] 26 :: old W :: []) _ from by rw [bys, List.map_set]; exact hS6)
        have hjI : (j : Int) < (nb : Int) := by omega
        have HBy2 := Lib.hid (dBytes _ most Ar cr P _ hS6.s2.blk_ hS6.s1.pgr_ (by rw [HNb.out]; exact HLB.out) (by have := HI.out.a; omega) (fun r hr => by have := HI.out.b r hr; omega) HI.out.c)
        clear hS6 HS2 hx hrow
        go_wp2_with fail
        (with_reducible refine HBy2.out.mono ?_)
        rintro e w7 ⟨v7, rfl, ho7, hb7⟩
        obtain ⟨g7, c7, e7, h7, hr7⟩ := own_bys ho7 (by simp [stBy, natB])
        rw [HNb.out] at e7
        subst e7
        have hal := (Below.refl w7.heap.size w7).alloc (Nat.le_refl _) (.cells #[.slice (some ⟨g7, 0, none⟩) nb c7, .slice (some ⟨g2, 0, none⟩) nb cb, .slice A4 n3 c3'] 23)
        have hB7 := HS6.out.drop.drop.drop.old_
        obtain ⟨A9, c9, e9, h9, _, hr9⟩ := HS6.out.own_.slv'
        injection e9 with e91 e92 e93
        subst e91 e93
        rw [bys_len] at e92 h9
        have FX : ∀ i : Nat, i < 3 → ∃ (bs : List UInt8) (A : Option Addr) (c : Nat), (w7.alloc (.cells #[.slice (some ⟨g7, 0, none⟩) nb c7, .slice (some ⟨g2, 0, none⟩) nb cb, .slice A4 n3 c3'] 23)).cell? ⟨w7.heap.size, i, none⟩ = some (.slice A bs.length c) ∧ bs.length ≤ c ∧ RowsAt (w7.alloc (.cells #[.slice (some ⟨g7, 0, none⟩) nb c7, .slice (some ⟨g2, 0, none⟩) nb cb, .slice A4 n3 c3'] 23)) 1 A (bys bs) ∧ bs.length ≤ 1000000 := by
          have hB := Blk.new w7 #[.slice (some ⟨g7, 0, none⟩) nb c7, .slice (some ⟨g2, 0, none⟩) nb cb, .slice A4 n3 c3'] 23
          have hlb := HI.out.d
          have hnb3 := HNb.out
          intro i hi
          match i, hi with
          | 0, _ => exact ⟨stBy P, some ⟨g7, 0, none⟩, c7, by rw [HNb.out]; exact hB.at_ 0 rfl, h7, hr7.below hal, by omega⟩
          | 1, _ =>
            refine ⟨(stBy P).set j y, some ⟨g2, 0, none⟩, cb, ?_, h9, (hr9.below hb7).below hal, by rw [List.length_set]; omega⟩
            rw [← e92]
            exact hB.at_ 1 rfl
          | 2, _ => exact ⟨o2, A4, c3', by rw [HN3.out]; exact hB.at_ 2 rfl, by rw [HN3.out]; exact hc3', ((HO2.out.below hB7).below hb7).below hal, by rw [HN3.out]; omega⟩
        have HFX := Lib.hid FX
        have HBL := Lib.hid (below_then (below_then hB7 hb7) hal)
        clear FX hal ho7 hb7 hr7 hr9 HO2 hB7 HBy2 HS6 k1 k2 e92 h9 h7
        go_wp2_with fail
        generalize w7.heap.size = tL at *
        generalize w7.alloc (.cells #[.slice (some ⟨g7, 0, none⟩) nb c7, .slice (some ⟨g2, 0, none⟩) nb cb, .slice A4 n3 c3'] 23) = wL at *
        go_loopg [96] 3 (fun g x96 ws => ∃ i : Nat, i ≤ 3 ∧ g = 3 - i ∧ x96 = .int .i64 i ∧ Hid (Below wL.heap.size wL ws))
        case atStart => exact ⟨0, by decide, rfl, rfl, Lib.hid (Below.refl _ _)⟩
        case round =>
          obtain ⟨i, hi, rfl, rfl, HBw⟩ := hrel
          by_cases hlt : i < 3
          · have hlti : (i : Int) < 3 := by omega
            obtain ⟨bs, A, c, k0, hx1, hx2, hx3⟩ := HFX.out i hlt
            have k0 := (HBw.out.cell (World.block_lt_of_cell? _ _ k0)).trans k0
            have HXr := Lib.hid (hx2.below HBw.out)
            have HWw := Lib.hid (below_then HBL.out HBw.out)
            clear hx2
            by_cases hmo : 2 ≤ most ∧ most ≤ 64
            · obtain ⟨hm1, hm2⟩ := hmo
              obtain ⟨m, rfl⟩ : ∃ m : Nat, most = m := ⟨most.toNat, by omega⟩
              have hm1' : 2 ≤ m := by omega
              have hm2' : m ≤ 64 := by omega
              have n1 : ¬ ((m : Int) < 2) := by omega
              have n2 : ¬ ((64 : Int) < (m : Int)) := by omega
              have HLd := Lib.hid (pgLoad A c bs m wr hx1 HXr.out (HE.out.below HWw.out) hx3 hm1' hm2')
              have HDd := Lib.hid (fun (ls : List Part) (w : World) (h : Sat (roR 1 A (bys bs) :: ls) w) => dLoad A c bs m ls w hx1 h hx3 hm1' hm2')
              cases hD : decL bs m with
              | none =>
                have HDp := Lib.hid (show decP bs m = none from by rw [← decL_decP hm2']; exact hD)
                have HDl := Lib.hid hD
                clear hD
                go_wp2_with fail
                (with_reducible refine HLd.out.mono ?_)
                rintro e w8 hd8
                obtain ⟨rfl, hb8⟩ := hd8.2 HDl.out
                have HD8 := Lib.hid (HDd.out [old w8] w8 ((Sat.start w8).old_rows (HXr.out.below hb8) (by decide) (bys_one bs)))
                have HB8 := Lib.hid (below_then HBw.out hb8)
                clear hd8 hb8 HLd HDd
                go_wp2_with fail
                (with_reducible refine HD8.out.mono ?_)
                rintro e w9 hd9
                obtain ⟨rfl, hS9⟩ := hd9.2 HDp.out
                have HB9 := Lib.hid (below_then HB8.out hS9.old_)
                clear hd9 hS9 HD8
                go_wp2_with fail
                go_roundg (3 - (i + 1))
                case measure => omega
                case rel => exact ⟨i + 1, by omega, rfl, by go_num, HB9⟩
              | some P2 =>
                have HDp := Lib.hid (show decP bs m = some P2 from by rw [← decL_decP hm2']; exact hD)
                have HDl := Lib.hid hD
                clear hD
                go_wp2_with fail
                (with_reducible refine HLd.out.mono ?_)
                rintro e w8 hd8
                obtain ⟨p8, rfl, hS8⟩ := hd8.1 P2 HDl.out
                have HD8 := Lib.hid (HDd.out (old wr :: stP p8 m P2 :: []) w8 (hS8.s1.old_rows HXr.out (by decide) (bys_one bs)))
                clear hd8 hS8 HLd HDd
                go_wp2_with fail
                (with_reducible refine HD8.out.mono ?_)
                rintro e w9 hd9
                obtain ⟨q9, A9', c9', rfl, hS9⟩ := hd9.1 P2 HDp.out
                have HSm := Lib.hid (lsame p8 q9 m m A9' c9' P2 (old wr :: []) w9 (decP_ok HDp.out hm2') hS9.s3)
                clear hd9 hS9 HD8
                go_wp2_with fail
                (with_reducible refine HSm.out.mono ?_)
                rintro e w10 ⟨rfl, hS10⟩
                have HB10 := Lib.hid (below_then HBw.out hS10.drop.drop.drop.old_)
                clear hS10 HSm
                go_wp2_with fail
                go_roundg (3 - (i + 1))
                case measure => omega
                case rel => exact ⟨i + 1, by omega, rfl, by go_num, HB10⟩
            · have HLd := Lib.hid (pgLoadBad (.slice A bs.length c) most wr hmo)
              have hb : (most < 2) ∨ (¬ (most < 2) ∧ 64 < most) := by omega
              go_wp2_with fail
              (with_reducible refine HLd.out.mono ?_)
              rintro e w8 ⟨rfl, rfl⟩
              rcases hb with hb | ⟨hb, hb2⟩
              all_goals
                go_wp2_with fail
                go_roundg (3 - (i + 1))
                case measure => omega
                case rel => exact ⟨i + 1, by omega, rfl, by go_num, HBw⟩
          · obtain rfl : i = 3 := by omega
            have HWw := Lib.hid (below_then HBL.out HBw.out)
            have HAw := Lib.hid (lawake [old wr] wr (Sat.start wr))
            go_wp2_with fail
            (with_reducible refine HAw.out.mono ?_)
            rintro e w8 ⟨rfl, hS8⟩
            have HB8 := Lib.hid (below_then HWw.out hS8.old_)
            clear hS8
            go_wp2_with fail
            exact HQ.out _ _ ⟨rfl, HB8.out⟩
end Go.Proofs.YtlekfpeonehggaaGreatDoor
end
