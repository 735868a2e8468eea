/- Chapter 2's laws, walked: OctetTells. -/
import Derived.Test.YtoejeiaeladgjaaDoorOl
import Derived.Test.YtoejeiaeladgjaaDoorLe
namespace Go.Proofs.YtoejeiaeladgjaaDoor
open Go.Proofs.BL Go.Proofs.Peel Go.RowKit
set_option maxRecDepth 100000
set_option linter.unusedVariables false

theorem flat309 : ∀ l : List ByteArray, (∀ s ∈ l, s.size ≤ 300) → (l.map strB).flatten.length ≤ l.length * 309
  | [], _ => by simp
  | s :: l, h => by
    have h1 := strB_len s (by have := h s (by simp); omega)
    have h2 := flat309 l (fun x hx => h x (by simp [hx]))
    have h3 := h s (by simp)
    simp only [List.map_cons, List.flatten_cons, List.length_append, List.length_cons]
    omega
theorem strsB_len {l : List ByteArray} (h20 : l.length ≤ 20) (h : ∀ s ∈ l, s.size ≤ 300) : (strsB l).length ≤ 6189 := by
  have h1 := natB_len l.length (by omega)
  have h2 := flat309 l h
  have h3 : l.length * 309 ≤ 20 * 309 := Nat.mul_le_mul_right _ h20
  simp only [strsB, List.length_append]
  omega
/-- Values, each bytes. -/
def Bys (w : World) : List Value → List (List UInt8) → Prop
  | [], [] => True
  | v :: vs, l :: ls => (∃ (B : Option Addr) (c : Nat), v = Value.slice B l.length c ∧ (B = none → c = 0) ∧ RowsAt w 1 B (bys l)) ∧ Bys w vs ls
  | _, _ => False
theorem Bys.get {w : World} : ∀ {vs : List Value} {ls : List (List UInt8)}, Bys w vs ls → ∀ (k : Nat) v l, vs[k]? = some v → ls[k]? = some l → ∃ (B : Option Addr) (c : Nat), v = Value.slice B l.length c ∧ (B = none → c = 0) ∧ RowsAt w 1 B (bys l)
  | [], [], _, k, v, l, h, _ => by simp at h
  | v :: vs, l :: ls, ⟨h1, _⟩, 0, u, m, hu, hm => by simp at hu hm; subst hu hm; exact h1
  | v :: vs, l :: ls, ⟨_, h2⟩, k + 1, u, m, hu, hm => h2.get k u m (by simpa using hu) (by simpa using hm)

set_option maxHeartbeats 8000000 in
theorem lawOTells (n : Nat) (m : Int) (s : ByteArray) (b : Bool) (l : List ByteArray) (vl : Value) (w : World) (hE : ErrT w) (hn : n < 2 ^ 64) (h1 : -9223372036854775808 ≤ m) (h2 : m ≤ 9223372036854775807)
    (hv : SlV w 1 vl (l.map strV)) (hm : l.length ≤ 9223372036854775807) :
    Calls Tryd.prog 9 #[.int .u64 n, .int .i64 m, .string s, .bool b, vl] w (Ans w (.bool true)) := by
  have HE := Lib.hid hE
  clear hE
  refine via fun Q hQ => ?_
  go_enter Tryd.func9, Tryd.ntmps9
  go_wp2_with fail
  refine (lshort s w).mono ?_
  rintro e w0 ⟨rfl, rfl⟩
  have hsl := shortB_len s
  generalize shortB s = s0 at hsl
  go_wp2_with fail
  refine (lsome l vl w0 hv hm).mono ?_
  rintro e w1 ⟨v1, rfl, ho1, hb1⟩
  have hl20 := someB_len l
  have hl300 := someB_short l
  generalize someB l = l0 at ho1 hl20 hl300
  obtain ⟨Al, cl, rfl, hcl, _, hrl⟩ := ho1.slv'
  simp only [List.length_map] at hcl ⊢
  have hsl5 := strsB_len hl20 hl300
  have hl1 := natB_len n hn
  have hl2 := natB_len (zig m) (zig_lt m h1 h2)
  have hl3 := strB_len s0 (by omega)
  have hl4 : (yesB b).length = 1 := rfl
  have HL300 := Lib.hid hl300
  have HRl1 := Lib.hid hrl
  have HB1 := Lib.hid hb1
  clear hv hm ho1 hb1 hrl hl300
  go_wp2_with fail
  refine (onat n w1 hn).mono ?_
  rintro e w2 ⟨v2, rfl, ho2, hb2⟩
  obtain ⟨A2, c2, rfl, _, hn2, hr2⟩ := ho2.slv'
  have HR2 := Lib.hid hr2
  have HN2 := Lib.hid hn2
  have HRl2 := Lib.hid (HRl1.out.below hb2)
  have HB2 := Lib.hid (below_then HB1.out hb2)
  clear ho2 hb2 hr2 hn2
  go_wp2_with fail
  refine (onum m w2 h1 h2).mono ?_
  rintro e w3 ⟨v3, rfl, ho3, hb3⟩
  obtain ⟨A3, c3, rfl, _, hn3, hr3⟩ := ho3.slv'
  have HR3 := Lib.hid hr3
  have HN3 := Lib.hid hn3
  have HR23 := Lib.hid (HR2.out.below hb3)
  have HRl3 := Lib.hid (HRl2.out.below hb3)
  have HB3 := Lib.hid (below_then HB2.out hb3)
  clear ho3 hb3 hr3 hn3
  go_wp2_with fail
  refine (ostr s0 w3 (by omega)).mono ?_
  rintro e w4 ⟨v4, rfl, ho4, hb4⟩
  obtain ⟨A4, c4, rfl, _, hn4, hr4⟩ := ho4.slv'
  have HR4 := Lib.hid hr4
  have HN4 := Lib.hid hn4
  have HR24 := Lib.hid (HR23.out.below hb4)
  have HR34 := Lib.hid (HR3.out.below hb4)
  have HRl4 := Lib.hid (HRl3.out.below hb4)
  have HB4 := Lib.hid (below_then HB3.out hb4)
  clear ho4 hb4 hr4 hn4
  go_wp2_with fail
  refine (oyes b w4).mono ?_
  rintro e w5 ⟨v5, rfl, ho5, hb5⟩
  obtain ⟨A5, c5, rfl, _, hn5, hr5⟩ := ho5.slv'
  have HR5 := Lib.hid hr5
  have HN5 := Lib.hid hn5
  have HR25 := Lib.hid (HR24.out.below hb5)
  have HR35 := Lib.hid (HR34.out.below hb5)
  have HR45 := Lib.hid (HR4.out.below hb5)
  have HRl5 := Lib.hid (HRl4.out.below hb5)
  have HB5 := Lib.hid (below_then HB4.out hb5)
  clear ho5 hb5 hr5 hn5
  go_wp2_with fail
  refine (ostrs Al cl l0 w5 hcl HRl5.out (by omega) (by omega) (fun s hs => by have := HL300.out s hs; omega)).mono ?_
  rintro e w6 ⟨v6, rfl, ho6, hb6⟩
  obtain ⟨A6, c6, rfl, _, hn6, hr6⟩ := ho6.slv'
  have HR6 := Lib.hid hr6
  have HN6 := Lib.hid hn6
  have HR26 := Lib.hid (HR25.out.below hb6)
  have HR36 := Lib.hid (HR35.out.below hb6)
  have HR46 := Lib.hid (HR45.out.below hb6)
  have HR56 := Lib.hid (HR5.out.below hb6)
  have HRl6 := Lib.hid (HRl5.out.below hb6)
  have HB6 := Lib.hid (below_then HB5.out hb6)
  simp only [bys_len]
  clear ho6 hb6 hr6 hn6
  go_wp2_with fail
  have hal : Below w6.heap.size w6 (w6.alloc (.cells #[.slice A2 (natB n).length c2, .slice A3 (natB (zig m)).length c3, .slice A4 (strB s0).length c4, .slice A5 1 c5, .slice A6 (strsB l0).length c6] 53)) := (Below.refl _ _).alloc (Nat.le_refl _) _
  have hflat : ([natB n, natB (zig m), strB s0, yesB b, strsB l0] : List (List UInt8)).flatten = natB n ++ natB (zig m) ++ strB s0 ++ yesB b ++ strsB l0 := by simp
  have hall : (natB n ++ natB (zig m) ++ strB s0 ++ yesB b ++ strsB l0).length ≤ 7000 := by simp only [List.length_append]; omega
  have hseq := oseq (some ⟨w6.heap.size, 0, none⟩) 5 [natB n, natB (zig m), strB s0, yesB b, strsB l0] [.slice A2 (natB n).length c2, .slice A3 (natB (zig m)).length c3, .slice A4 (strB s0).length c4, .slice A5 1 c5, .slice A6 (strsB l0).length c6] _ rfl (Nat.le_refl _) (blk_rows1 (Blk.new w6 #[.slice A2 (natB n).length c2, .slice A3 (natB (zig m)).length c3, .slice A4 (strB s0).length c4, .slice A5 1 c5, .slice A6 (strsB l0).length c6] _))
    (Bys.get (w := w6.alloc (.cells #[.slice A2 (natB n).length c2, .slice A3 (natB (zig m)).length c3, .slice A4 (strB s0).length c4, .slice A5 1 c5, .slice A6 (strsB l0).length c6] 53)) ⟨⟨A2, c2, rfl, HN2.out, HR26.out.below hal⟩, ⟨A3, c3, rfl, HN3.out, HR36.out.below hal⟩, ⟨A4, c4, rfl, HN4.out, HR46.out.below hal⟩, ⟨A5, c5, rfl, HN5.out, HR56.out.below hal⟩, ⟨A6, c6, rfl, HN6.out, HR6.out.below hal⟩, trivial⟩)
    (by rw [hflat]; omega) (by simp)
  rw [hflat] at hseq
  refine hseq.mono ?_
  rintro e wS ⟨vS, rfl, hoS, hbS⟩
  obtain ⟨AS, cS, rfl, _, _, hrS⟩ := hoS.slv'
  have HRS := Lib.hid hrS
  have hb6S := below_then hal hbS
  have HRlS := Lib.hid (HRl6.out.below hb6S)
  have HBS := Lib.hid (below_then HB6.out hb6S)
  have HFL := Lib.hid hflat
  simp only [bys_len]
  generalize hNA : (natB n ++ natB (zig m) ++ strB s0 ++ yesB b ++ strsB l0).length = NA
  have HNA := Lib.hid hNA
  clear hNA
  clear hseq hal hflat hoS hbS hrS hb6S HR6 HR26 HR36 HR46 HR56 HN2 HN3 HN4 HN5 HN6
  go_wp2_with fail
  refine (rnat n wS hn).mono ?_
  rintro e wc0 ⟨rv0, rfl, hro0, hrb0⟩
  obtain ⟨RA0, rc0, rfl, _, hrn0, hrr0⟩ := id hro0.slv'
  simp only [bys_len] at hro0 ⊢
  have HOa0 := Lib.hid hro0
  have HBa0 := Lib.hid hrb0
  clear hro0 hrb0 hrn0 hrr0
  go_wp2_with fail
  refine (rnum m wc0 h1 h2).mono ?_
  rintro e wc1 ⟨rv1, rfl, hro1, hrb1⟩
  obtain ⟨RA1, rc1, rfl, _, hrn1, hrr1⟩ := hro1.slv'
  simp only [bys_len]
  have HO1 := Lib.hid (HOa0.out.below hrb1)
  have HB1 := Lib.hid (below_then HBa0.out hrb1)
  have HRr1 := Lib.hid hrr1
  have HRn1 := Lib.hid hrn1
  clear hro1 hrb1 hrn1 hrr1
  go_wp2_with (at_builtin; go_must (refine appendN wS.heap.size 5 1 1 (.int .u8 0) rfl (.tmp 30) (.tmp 32) 53 rfl Tryd.underlying53 (by kernel_rfl) rfl (by decide) (by decide) (.slice RA0 (natB n).length rc0) (bys (natB n)) (bys (natB (zig m))) rfl RA1 (natB (zig m)).length rc1 rfl (bys_len _).symm HRn1.out HRr1.out (bys_one _) (bys_cell _) HO1.out HB1.out.size (by first | (simp only [bys_len]; omega) | (simp only [bys_len, List.length_append]; omega)) ?_); intro av1 aw1 haown1 hafr1)
  rw [bys_app] at haown1
  have HOa1 := Lib.hid haown1
  have HBa1 := Lib.hid (HO1.out.fr_below HB1.out HB1.out.size hafr1)
  clear haown1 hafr1

  go_wp2_with fail
  refine (rstr s0 aw1 (by omega)).mono ?_
  rintro e wc2 ⟨rv2, rfl, hro2, hrb2⟩
  obtain ⟨RA2, rc2, rfl, _, hrn2, hrr2⟩ := hro2.slv'
  simp only [bys_len]
  have HO2 := Lib.hid (HOa1.out.below hrb2)
  have HB2 := Lib.hid (below_then HBa1.out hrb2)
  have HRr2 := Lib.hid hrr2
  have HRn2 := Lib.hid hrn2
  clear hro2 hrb2 hrn2 hrr2
  go_wp2_with (at_builtin; go_must (refine appendN wS.heap.size 5 1 1 (.int .u8 0) rfl (.tmp 33) (.tmp 35) 53 rfl Tryd.underlying53 (by kernel_rfl) rfl (by decide) (by decide) av1 (bys (natB n ++ natB (zig m))) (bys (strB s0)) rfl RA2 (strB s0).length rc2 rfl (bys_len _).symm HRn2.out HRr2.out (bys_one _) (bys_cell _) HO2.out HB2.out.size (by first | (simp only [bys_len]; omega) | (simp only [bys_len, List.length_append]; omega)) ?_); intro av2 aw2 haown2 hafr2)
  rw [bys_app] at haown2
  have HOa2 := Lib.hid haown2
  have HBa2 := Lib.hid (HO2.out.fr_below HB2.out HB2.out.size hafr2)
  clear haown2 hafr2

  go_wp2_with fail
  refine (ryes b aw2).mono ?_
  rintro e wc3 ⟨rv3, rfl, hro3, hrb3⟩
  obtain ⟨RA3, rc3, rfl, _, hrn3, hrr3⟩ := hro3.slv'
  simp only [bys_len]
  have HO3 := Lib.hid (HOa2.out.below hrb3)
  have HB3 := Lib.hid (below_then HBa2.out hrb3)
  have HRr3 := Lib.hid hrr3
  have HRn3 := Lib.hid hrn3
  clear hro3 hrb3 hrn3 hrr3
  go_wp2_with (at_builtin; go_must (refine appendN wS.heap.size 5 1 1 (.int .u8 0) rfl (.tmp 36) (.tmp 38) 53 rfl Tryd.underlying53 (by kernel_rfl) rfl (by decide) (by decide) av2 (bys (natB n ++ natB (zig m) ++ strB s0)) (bys (yesB b)) rfl RA3 (yesB b).length rc3 rfl (bys_len _).symm HRn3.out HRr3.out (bys_one _) (bys_cell _) HO3.out HB3.out.size (by first | (simp only [bys_len]; omega) | (simp only [bys_len, List.length_append]; omega)) ?_); intro av3 aw3 haown3 hafr3)
  rw [bys_app] at haown3
  have HOa3 := Lib.hid haown3
  have HBa3 := Lib.hid (HO3.out.fr_below HB3.out HB3.out.size hafr3)
  clear haown3 hafr3

  go_wp2_with fail
  refine (rstrs Al cl l0 aw3 hcl (HRlS.out.below HBa3.out) (by omega) (by omega) (fun s hs => by have := HL300.out s hs; omega)).mono ?_
  rintro e wc4 ⟨rv4, rfl, hro4, hrb4⟩
  obtain ⟨RA4, rc4, rfl, _, hrn4, hrr4⟩ := hro4.slv'
  simp only [bys_len]
  have HO4 := Lib.hid (HOa3.out.below hrb4)
  have HB4 := Lib.hid (below_then HBa3.out hrb4)
  have HRr4 := Lib.hid hrr4
  have HRn4 := Lib.hid hrn4
  clear hro4 hrb4 hrn4 hrr4
  go_wp2_with (at_builtin; go_must (refine appendN wS.heap.size 5 1 1 (.int .u8 0) rfl (.tmp 39) (.tmp 41) 53 rfl Tryd.underlying53 (by kernel_rfl) rfl (by decide) (by decide) av3 (bys (natB n ++ natB (zig m) ++ strB s0 ++ yesB b)) (bys (strsB l0)) rfl RA4 (strsB l0).length rc4 rfl (bys_len _).symm HRn4.out HRr4.out (bys_one _) (bys_cell _) HO4.out HB4.out.size (by first | (simp only [bys_len]; omega) | (simp only [bys_len, List.length_append]; omega)) ?_); intro av4 aw4 haown4 hafr4)
  rw [bys_app] at haown4
  have HOa4 := Lib.hid haown4
  have HBa4 := Lib.hid (HO4.out.fr_below HB4.out HB4.out.size hafr4)
  clear haown4 hafr4

  have hcA := run_str (P := Tryd.prog) aw4 53 9 5 Tryd.underlying53 Tryd.underlying5 Tryd.underlying9 AS NA cS _ HNA.out.symm (HRS.out.below HBa4.out)
  obtain ⟨AB, cB, rfl, _, _, hrB⟩ := HOa4.out.slv'
  rw [bys_len, HNA.out]
  have hcB := run_str (P := Tryd.prog) aw4 53 9 5 Tryd.underlying53 Tryd.underlying5 Tryd.underlying9 AB NA cB _ HNA.out.symm hrB
  generalize (⟨(natB n ++ natB (zig m) ++ strB s0 ++ yesB b ++ strsB l0).toArray⟩ : ByteArray) = sx at hcA hcB
  have HBt := Lib.hid (below_then HBS.out HBa4.out)
  clear hrB hall
  rw [hcA, Result.andThen_ok]
  go_wp2_with fail
  refine (oseq none 0 [] [] aw4 rfl (Nat.le_refl _) (RowsAt.nil _ _ _) (fun k v l h _ => by simp at h) (by decide) (by decide)).mono ?_
  rintro e x1 ⟨xv, rfl, hxo, hxb⟩
  obtain ⟨XA, xc, rfl, _, _, _⟩ := hxo.slv'
  have HX1 := Lib.hid (below_then HBt.out hxb)
  clear hxo hxb
  go_wp2_with fail
  refine (oawake x1 (HE.out.below HX1.out)).mono ?_
  rintro e x2 ⟨rfl, hxb⟩
  have HX2 := Lib.hid (below_then HX1.out hxb)
  clear hxb
  go_wp2
  exact ⟨rfl, HX2.out⟩
end Go.Proofs.YtoejeiaeladgjaaDoor
