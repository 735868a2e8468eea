/- Chapter 2's laws, walked: OctetBack. -/
import Derived.Test.YtoejeiaeladgjaaDoorOm
import Derived.Test.YtoejeiaeladgjaaDoorOs
namespace Go.Proofs.YtoejeiaeladgjaaDoor
open Go.Proofs.BL Go.Proofs.Peel Go.RowKit
set_option maxRecDepth 100000
set_option linter.unusedVariables false

set_option maxHeartbeats 8000000 in
theorem lawBack (n : Nat) (m : Int) (s : ByteArray) (b : Bool) (l : List ByteArray) (vl : Value) (w : World) (hE : ErrT w) (hn : n < 2 ^ 64) (h1 : -9223372036854775808 ≤ m) (h2 : m ≤ 9223372036854775807)
    (hv : SlV w 1 vl (l.map strV)) (hm : l.length ≤ 9223372036854775807) :
    Calls Tryd.prog 12 #[.int .u64 n, .int .i64 m, .string s, .bool b, vl] w (Ans w (.bool true)) := by
  have HE := Lib.hid hE
  clear hE
  refine via fun Q hQ => ?_
  go_enter Tryd.func12, Tryd.ntmps12
  go_wp2_with fail
  refine (lshort s w).mono ?_
  rintro e w0 ⟨rfl, rfl⟩
  have hsl := shortB_len s
  generalize shortB s = s0 at hsl
  go_wp2_with fail
  refine (lsome l vl w0 hv hm).mono ?_
  rintro e w1 ⟨v1, rfl, ho1, hb1⟩
  have hl20 := someB_len l
  have hl300 := someB_short l
  generalize someB l = l0 at ho1 hl20 hl300
  obtain ⟨Al, cl, rfl, hcl, _, hrl⟩ := ho1.slv'
  simp only [List.length_map] at hcl ⊢
  have hsl5 := strsB_len hl20 hl300
  have hl1 := natB_len n hn
  have hl2 := natB_len (zig m) (zig_lt m h1 h2)
  have hl3 := strB_len s0 (by omega)
  have hl4 : (yesB b).length = 1 := rfl
  have HL300 := Lib.hid hl300
  have HRl1 := Lib.hid hrl
  have HB1 := Lib.hid hb1
  clear hv hm ho1 hb1 hrl hl300
  go_wp2_with fail
  refine (onat n w1 hn).mono ?_
  rintro e w2 ⟨v2, rfl, ho2, hb2⟩
  obtain ⟨A2, c2, rfl, _, hn2, hr2⟩ := ho2.slv'
  have HR2 := Lib.hid hr2
  have HN2 := Lib.hid hn2
  have HRl2 := Lib.hid (HRl1.out.below hb2)
  have HB2 := Lib.hid (below_then HB1.out hb2)
  clear ho2 hb2 hr2 hn2
  go_wp2_with fail
  refine (onum m w2 h1 h2).mono ?_
  rintro e w3 ⟨v3, rfl, ho3, hb3⟩
  obtain ⟨A3, c3, rfl, _, hn3, hr3⟩ := ho3.slv'
  have HR3 := Lib.hid hr3
  have HN3 := Lib.hid hn3
  have HR23 := Lib.hid (HR2.out.below hb3)
  have HRl3 := Lib.hid (HRl2.out.below hb3)
  have HB3 := Lib.hid (below_then HB2.out hb3)
  clear ho3 hb3 hr3 hn3
  go_wp2_with fail
  refine (ostr s0 w3 (by omega)).mono ?_
  rintro e w4 ⟨v4, rfl, ho4, hb4⟩
  obtain ⟨A4, c4, rfl, _, hn4, hr4⟩ := ho4.slv'
  have HR4 := Lib.hid hr4
  have HN4 := Lib.hid hn4
  have HR24 := Lib.hid (HR23.out.below hb4)
  have HR34 := Lib.hid (HR3.out.below hb4)
  have HRl4 := Lib.hid (HRl3.out.below hb4)
  have HB4 := Lib.hid (below_then HB3.out hb4)
  clear ho4 hb4 hr4 hn4
  go_wp2_with fail
  refine (oyes b w4).mono ?_
  rintro e w5 ⟨v5, rfl, ho5, hb5⟩
  obtain ⟨A5, c5, rfl, _, hn5, hr5⟩ := ho5.slv'
  have HR5 := Lib.hid hr5
  have HN5 := Lib.hid hn5
  have HR25 := Lib.hid (HR24.out.below hb5)
  have HR35 := Lib.hid (HR34.out.below hb5)
  have HR45 := Lib.hid (HR4.out.below hb5)
  have HRl5 := Lib.hid (HRl4.out.below hb5)
  have HB5 := Lib.hid (below_then HB4.out hb5)
  clear ho5 hb5 hr5 hn5
  go_wp2_with fail
  refine (ostrs Al cl l0 w5 hcl HRl5.out (by omega) (by omega) (fun s hs => by have := HL300.out s hs; omega)).mono ?_
  rintro e w6 ⟨v6, rfl, ho6, hb6⟩
  obtain ⟨A6, c6, rfl, _, hn6, hr6⟩ := ho6.slv'
  have HR6 := Lib.hid hr6
  have HN6 := Lib.hid hn6
  have HR26 := Lib.hid (HR25.out.below hb6)
  have HR36 := Lib.hid (HR35.out.below hb6)
  have HR46 := Lib.hid (HR45.out.below hb6)
  have HR56 := Lib.hid (HR5.out.below hb6)
  have HRl6 := Lib.hid (HRl5.out.below hb6)
  have HB6 := Lib.hid (below_then HB5.out hb6)
  simp only [bys_len]
  clear ho6 hb6 hr6 hn6
  go_wp2_with fail
  have hal : Below w6.heap.size w6 (w6.alloc (.cells #[.slice A2 (natB n).length c2, .slice A3 (natB (zig m)).length c3, .slice A4 (strB s0).length c4, .slice A5 1 c5, .slice A6 (strsB l0).length c6] 53)) := (Below.refl _ _).alloc (Nat.le_refl _) _
  have hflat : ([natB n, natB (zig m), strB s0, yesB b, strsB l0] : List (List UInt8)).flatten = natB n ++ natB (zig m) ++ strB s0 ++ yesB b ++ strsB l0 := by simp
  have hall : (natB n ++ natB (zig m) ++ strB s0 ++ yesB b ++ strsB l0).length ≤ 7000 := by simp only [List.length_append]; omega
  have hseq := oseq (some ⟨w6.heap.size, 0, none⟩) 5 [natB n, natB (zig m), strB s0, yesB b, strsB l0] [.slice A2 (natB n).length c2, .slice A3 (natB (zig m)).length c3, .slice A4 (strB s0).length c4, .slice A5 1 c5, .slice A6 (strsB l0).length c6] _ rfl (Nat.le_refl _) (blk_rows1 (Blk.new w6 #[.slice A2 (natB n).length c2, .slice A3 (natB (zig m)).length c3, .slice A4 (strB s0).length c4, .slice A5 1 c5, .slice A6 (strsB l0).length c6] _))
    (Bys.get (w := w6.alloc (.cells #[.slice A2 (natB n).length c2, .slice A3 (natB (zig m)).length c3, .slice A4 (strB s0).length c4, .slice A5 1 c5, .slice A6 (strsB l0).length c6] 53)) ⟨⟨A2, c2, rfl, HN2.out, HR26.out.below hal⟩, ⟨A3, c3, rfl, HN3.out, HR36.out.below hal⟩, ⟨A4, c4, rfl, HN4.out, HR46.out.below hal⟩, ⟨A5, c5, rfl, HN5.out, HR56.out.below hal⟩, ⟨A6, c6, rfl, HN6.out, HR6.out.below hal⟩, trivial⟩)
    (by rw [hflat]; omega) (by simp)
  rw [hflat] at hseq
  refine hseq.mono ?_
  rintro e wS ⟨vS, rfl, hoS, hbS⟩
  obtain ⟨AS, cS, rfl, hcS, _, hrS⟩ := hoS.slv'
  have HRS := Lib.hid hrS
  have hb6S := below_then hal hbS
  have HRlS := Lib.hid (HRl6.out.below hb6S)
  have HBS := Lib.hid (below_then HB6.out hb6S)
  simp only [bys_len]
  obtain ⟨a1, a2, a3, a4, q1, q2, q3, q4, q5⟩ := back_all n m s0 b l0 hn h1 h2 hsl hl20 HL300.out _ rfl
  generalize (natB n ++ natB (zig m) ++ strB s0 ++ yesB b ++ strsB l0) = BS at hall hrS q1 q2 q3 q4 q5 HRS hcS ⊢
  have hll : BS.length ≤ 1099511627776 := by omega
  have Q1 := Lib.hid q1
  have Q2 := Lib.hid q2
  have Q3 := Lib.hid q3
  have Q4 := Lib.hid q4
  have Q5 := Lib.hid q5
  have HcS := Lib.hid hcS
  clear q1 q2 q3 q4 q5 hcS
  clear hseq hal hflat hoS hbS hrS hb6S HR6 HR26 HR36 HR46 HR56 HN2 HN3 HN4 HN5 HN6
  go_wp2_with fail
  refine (oof AS cS BS wS (by simpa [bys_len] using HcS.out) HRS.out).mono ?_
  rintro e wO ⟨rfl, hrd, hbO⟩
  have HRlO := Lib.hid (HRlS.out.below hbO)
  have HBO := Lib.hid (below_then HBS.out hbO)
  have HEO := Lib.hid (HE.out.below HBO.out)
  have hps : w0.heap.size ≤ wS.heap.size := HBS.out.size
  generalize hp : wS.heap.size = p at hrd hps ⊢
  have H0 := Lib.hid hrd
  clear hrd hbO
  go_wp2_with fail
  refine (mNat wO hll H0.out).mono ?_
  rw [Q1.out]
  rintro e x1 ⟨rfl, hr, hf⟩
  have HR1 := Lib.hid hr
  have HF1 := Lib.hid hf
  clear hr hf
  go_wp2_with fail
  refine (mNum x1 hll HR1.out).mono ?_
  rw [Q2.out]
  rintro e x2 ⟨rfl, hr, hf⟩
  have HR2' := Lib.hid hr
  have HF2 := Lib.hid (HF1.out.trans hf (fun _ _ h => h))
  clear hr hf
  go_wp2_with fail
  refine (mStr x2 s0.size hll (by omega) (by omega) HR2'.out).mono ?_
  rw [Q3.out]
  rintro e x3 ⟨rfl, hr, hf⟩
  have HR3' := Lib.hid hr
  have HF3 := Lib.hid (HF2.out.trans hf (fun _ _ h => h))
  clear hr hf
  go_wp2_with fail
  refine (mYes x3 hll HR3'.out).mono ?_
  rw [Q4.out]
  rintro e x4 ⟨rfl, hr, hf⟩
  have HR4' := Lib.hid hr
  have HF4 := Lib.hid (HF3.out.trans hf (fun _ _ h => h))
  clear hr hf
  go_wp2_with fail
  refine (mStrs x4 20 300 hll (by decide) (by decide) (by decide) (by decide) HR4'.out).mono ?_
  rw [Q5.out]
  rintro e x5 ⟨v5', rfl, ho, hr, hf⟩
  have HO5 := Lib.hid ho
  have HR5' := Lib.hid hr
  have HF5 := Lib.hid (HF4.out.trans hf (fun _ _ h => h))
  clear hr hf ho
  go_wp2_with fail
  have hrl5 : RowsAt x5 1 Al (l0.map strV) := by
    by_cases hl0 : l0 = []
    · subst hl0; exact RowsAt.nil _ _ _
    · obtain ⟨y, ys, rfl⟩ := List.exists_cons_of_ne_nil hl0
      obtain ⟨bq, oq, e2, hc⟩ := HRlS.out 0 (strV y) rfl
      refine HRlO.out.fr HF5.out (fun x hx e => ?_)
      rw [e2] at hx
      injection hx with hx
      subst hx
      have h9 := World.block_lt_of_cell? wS _ (hc 0 _ rfl)
      have e9 : bq = p := e
      simp only at h9
      omega
  have HL5 := Lib.hid hrl5
  have HE5 := Lib.hid (Rd.errT H0.out HEO.out HF5.out)
  have hsv : SlV x5 1 (.slice Al l0.length cl) (l0.map strV) := ⟨Al, cl, by rw [List.length_map], by rw [List.length_map]; exact hcl, hrl5⟩
  refine (lsame l0 l0 v5' (.slice Al l0.length cl) x5 HO5.out.slv hsv (by omega) (by omega)).mono ?_
  rw [show decide (l0 = l0) = true from decide_eq_true rfl]
  rintro e x6 ⟨rfl, hb⟩
  have HR6' := Lib.hid (HR5'.out.below hb)
  have HE6 := Lib.hid (HE5.out.below hb)
  have HF6 := Lib.hid (HF5.out.then_below hb)
  clear hb hrl5 hsv
  go_wp2_with fail
  have hleft := mLeft x6 hll HR6'.out
  rw [Int.sub_self] at hleft
  refine hleft.mono ?_
  clear hleft
  rintro e x7 ⟨rfl, hb⟩
  have HR7 := Lib.hid (HR6'.out.below hb)
  have HE7 := Lib.hid (HE6.out.below hb)
  have HF7 := Lib.hid (HF6.out.then_below hb)
  clear hb
  go_wp2_with fail
  have herr := mErr x7 HE7.out HR7.out
  rw [show codeOf [] = 0 from rfl] at herr
  refine herr.mono ?_
  clear herr
  rintro e x8 ⟨rfl, hb⟩
  have HR8 := Lib.hid (HR7.out.below hb)
  have HE8 := Lib.hid (HE7.out.below hb)
  have HF8 := Lib.hid (HF7.out.then_below hb)
  clear hb
  go_wp2_with fail
  have hpl := mPlace x8 HE8.out HR8.out
  rw [show placeOf [] = -1 from rfl] at hpl
  refine hpl.mono ?_
  clear hpl
  rintro e x9 ⟨rfl, hb⟩
  have HR9 := Lib.hid (HR8.out.below hb)
  have HE9 := Lib.hid (HE8.out.below hb)
  have HF9 := Lib.hid (HF8.out.then_below hb)
  clear hb
  go_wp2_with fail
  have hend := mEnd x9 HE9.out hll HR9.out
  rw [show rdEnd BS BS.length [] = [] from if_neg (fun h => Nat.lt_irrefl _ h.2), show codeOf [] = 0 from rfl] at hend
  refine hend.mono ?_
  clear hend
  rintro e xa ⟨rfl, hr, hf⟩
  have HEa := Lib.hid (Rd.errT HR9.out HE9.out hf)
  have HFa := Lib.hid (HF9.out.trans hf (fun _ _ h => h))
  clear hr hf
  go_wp2_with fail
  refine (oawake xa HEa.out).mono ?_
  rintro e xb ⟨rfl, hb⟩
  have HFb := Lib.hid (HFa.out.then_below hb)
  clear hb
  go_wp2
  exact ⟨rfl, below_step HBO.out hps HFb.out⟩
end Go.Proofs.YtoejeiaeladgjaaDoor
