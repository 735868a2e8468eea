/- Chapter 1's example. -/
import Derived.Test.YtoejeiaeladgjaaDoorFe
namespace Go.Proofs.YtoejeiaeladgjaaDoor
open Go.Proofs.BL Go.Proofs.Peel Go.RowKit
set_option maxRecDepth 100000
set_option linter.unusedVariables false

theorem blk_rows1 {w : World} {b : Nat} {cs : Array Value} {t : TypeId} (h : Blk w b cs t) : RowsAt w 1 (some ⟨b, 0, none⟩) (cs.toList.map fun v => [v]) := by
  intro i r hi
  rw [List.getElem?_map, Option.map_eq_some_iff] at hi
  obtain ⟨v, hv, rfl⟩ := hi
  refine ⟨b, 0, rfl, fun j u hj => ?_⟩
  cases j with
  | zero =>
    simp at hj
    subst hj
    rw [show 0 + i * 1 + 0 = i from by omega]
    exact h.at_ i (by rw [← Array.getElem?_toList]; exact hv)
  | succ j => simp at hj
def keyS : ByteArray := ⟨#[107, 101, 121]⟩
set_option maxHeartbeats 4000000 in
theorem lawake (w : World) (hE : ErrT w) : Calls Tryd.prog 22 #[] w (Ans w (.bool true)) := by
  have HE := Lib.hid hE
  clear hE
  refine via fun Q hQ => ?_
  go_enter Tryd.func22, Tryd.ntmps22
  go_wp2_with fail
  refine (fnew _ _).mono ?_
  rintro e w1 ⟨v1, rfl, hc1, hb1⟩
  rw [if_neg (by decide)] at hc1
  have HC1 := Lib.hid hc1
  have HB1 := Lib.hid hb1
  clear hc1 hb1
  go_wp2_with fail
  refine (fin_ keyS v1 [.num 7] _ HC1.out).mono ?_
  rintro e w2 ⟨v2, rfl, hc2, hb2⟩
  have HC2 := Lib.hid hc2
  have HB2 := Lib.hid (below_then HB1.out hb2)
  clear hc2 hb2
  go_wp2_with fail
  refine (fat _ _ _ _ HC2.out).mono ?_
  rintro e w3 ⟨v3, rfl, hc3, hb3⟩
  have hc3' : Chn w3 v3 [.at_ 3, .in_ keyS, .num 7] := hc3
  have HC3 := Lib.hid hc3'
  have HB3 := Lib.hid (below_then HB2.out hb3)
  clear hc3 hb3 hc3'
  go_wp2_with fail
  refine (ftrail _ _ _ (HE.out.below HB3.out) HC3.out (by decide)).mono ?_
  rintro e w4 ⟨t, rfl, ho4, hb4⟩
  obtain ⟨A, cp, rfl, hcp, hra⟩ := ho4.slv
  obtain ⟨tb, to, rfl, hcell⟩ := hra 0 [.string keyS] rfl
  have HS4 := Lib.hid (hcell 0 _ rfl)
  have HB4 := Lib.hid (below_then HB3.out hb4)
  have HC4 := Lib.hid (HC3.out.below hb4)
  have hcp1 : 1 ≤ cp := hcp
  rw [show (List.map strRow1 (trailOf [Lk.at_ 3, Lk.in_ keyS, Lk.num 7])).length = 1 from rfl]
  clear hra hcell hb4 ho4 hcp
  go_wp2_with fail
  refine (fcode _ _ _ (HE.out.below HB4.out) HC4.out).mono ?_
  rintro e w5 ⟨rfl, hb5⟩
  rw [show codeOf [Lk.at_ 3, Lk.in_ keyS, Lk.num 7] = 7 from rfl]
  have HB5 := Lib.hid (below_then HB4.out hb5)
  have HC5 := Lib.hid (HC4.out.below hb5)
  have HS5 := Lib.hid ((hb5.cell (World.block_lt_of_cell? _ _ HS4.out)).trans HS4.out)
  clear hb5
  go_wp2_with fail
  refine (fplace _ _ _ (HE.out.below HB5.out) HC5.out).mono ?_
  rintro e w6 ⟨rfl, hb6⟩
  rw [show placeOf [Lk.at_ 3, Lk.in_ keyS, Lk.num 7] = 3 from rfl]
  have HB6 := Lib.hid (below_then HB5.out hb6)
  have HC6 := Lib.hid (HC5.out.below hb6)
  have hs6 : w6.cell? ⟨tb, to, none⟩ = some (.string ⟨#[107, 101, 121]⟩) := (hb6.cell (World.block_lt_of_cell? _ _ HS5.out)).trans HS5.out
  clear hb6
  go_wp2_with fail
  refine (fdepth _ _ _ HC6.out (by decide)).mono ?_
  rintro e w7 ⟨rfl, hb7⟩
  rw [show (([Lk.at_ 3, Lk.in_ keyS, Lk.num 7].length : Nat) : Int) = 3 from rfl]
  have HB7 := Lib.hid (below_then HB6.out hb7)
  clear hb7 hs6
  go_wp2_with fail
  refine (fnew _ _).mono ?_
  rintro e w8 ⟨v8, rfl, hc8, hb8⟩
  rw [if_neg (by decide)] at hc8
  have HC8 := Lib.hid hc8
  have HB8 := Lib.hid (below_then HB7.out hb8)
  clear hc8 hb8
  go_wp2_with fail
  refine (fnew _ _).mono ?_
  rintro e w9 ⟨v9, rfl, hc9, hb9⟩
  rw [if_neg (by decide)] at hc9
  have HC9 := Lib.hid hc9
  have HC8' := Lib.hid (HC8.out.below hb9)
  have HB9 := Lib.hid (below_then HB8.out hb9)
  obtain ⟨b8, u8, rfl, _⟩ := HC8'.out
  obtain ⟨b9, u9, rfl, _⟩ := HC9.out
  clear hc9 hb9
  go_wp2_with fail
  have hbA : Below w9.heap.size w9 (w9.alloc (.cells #[.nilIface, .iface (Lk.num 6).kind.t1 (.pointer (some ⟨b8, 0, none⟩)), .iface (Lk.num 2).kind.t1 (.pointer (some ⟨b9, 0, none⟩))] 25)) := (Below.refl _ _).alloc (Nat.le_refl _) _
  refine (ffirst (some ⟨w9.heap.size, 0, none⟩) 3 3 [.nilIface, .iface (Lk.num 6).kind.t1 (.pointer (some ⟨b8, 0, none⟩)), .iface (Lk.num 2).kind.t1 (.pointer (some ⟨b9, 0, none⟩))] [[], [.num 6], [.num 2]] _ rfl (blk_rows1 (Blk.new w9 _ _)) ⟨rfl, HC8'.out.below hbA, HC9.out.below hbA, trivial⟩ (by decide) (by decide)).mono ?_
  rintro e w10 ⟨v10, rfl, hc10, hb10⟩
  have hc10' : Chn w10 v10 [.num 6] := hc10
  have HC10 := Lib.hid hc10'
  have HB10 := Lib.hid (below_then (below_then HB9.out hbA) hb10)
  clear hc10 hc10' hb10 hbA
  go_wp2_with fail
  refine (fcode _ _ _ (HE.out.below HB10.out) HC10.out).mono ?_
  rintro e w11 ⟨rfl, hb11⟩
  rw [show codeOf [Lk.num 6] = 6 from rfl]
  have HB11 := Lib.hid (below_then HB10.out hb11)
  clear hb11
  go_wp2_with fail
  refine (fnew _ _).mono ?_
  rintro e w12 ⟨v12, rfl, hc12, hb12⟩
  rw [if_pos rfl] at hc12
  obtain rfl : v12 = .nilIface := hc12
  have HB12 := Lib.hid (below_then HB11.out hb12)
  clear hb12
  go_wp2
  exact ⟨rfl, HB12.out⟩
end Go.Proofs.YtoejeiaeladgjaaDoor
