/- Chapter 2's laws, walked: OctetCuts. -/
import Derived.Test.YtoejeiaeladgjaaDoorOl
import Derived.Test.YtoejeiaeladgjaaDoorOn
import Derived.Test.YtoejeiaeladgjaaDoorLe
import Derived.Deep.RegionHeld3
import Derived.Deep.RegionHeld2
namespace Go.Proofs.YtoejeiaeladgjaaDoor
open Go.Proofs.BL Go.Proofs.Peel Go.RowKit
set_option maxRecDepth 100000
set_option linter.unusedVariables false

theorem pstr_cutN {n : Nat} (h : n < 2 ^ 64) {k : Nat} (hk : k < (natB n).length) : pstr ((natB n).take k) 0 300 = (none, 6) := by
  have := pnat_cut h [] hk
  rw [List.append_nil] at this
  simp only [pstr, List.drop_zero, this]
theorem pstr_cutS {s : ByteArray} (h : s.size ≤ 300) {k : Nat} (hk : k < (strB s).length) : pstr ((strB s).take k) 0 300 = (none, 6) := by
  by_cases hc : k < (natB s.size).length
  · have := pnat_cut (n := s.size) (by omega) (txt s) hc
    simp only [pstr, List.drop_zero, strB, this]
  · have h1 : (strB s).take k = natB s.size ++ (txt s).take (k - (natB s.size).length) := by
      rw [strB, List.take_append, List.take_of_length_le (by omega)]
    have h2 := pnat_natB (n := s.size) (by omega) ((txt s).take (k - (natB s.size).length))
    simp only [strB, List.length_append, txt_len] at hk
    simp only [pstr, List.drop_zero, h1, h2]
    rw [if_neg (by omega), if_pos (by simp only [List.length_append, List.length_take, txt_len]; omega)]
theorem rdNat_cut {n : Nat} (h : n < 2 ^ 64) {k : Nat} (hk : k < (natB n).length) : rdNat ((natB n).take k) 0 [] = (0, 0, bad6 0) := by
  have := pnat_cut h [] hk
  rw [List.append_nil] at this
  simp [rdNat, this]

/-- Bytes do not lie in a reader's block. -/
theorem rows_ne {w : World} {q : Nat} {bs bl : List UInt8} {a : Nat} {c : List Lk} {A : Option Addr} (h : Rd w q bs a c) (hr : RowsAt w 1 A (bys bl)) (hne : bl ≠ []) : ∀ x, A = some x → x.block ≠ q := by
  intro x hx e
  obtain ⟨y, ys, rfl⟩ := List.exists_cons_of_ne_nil hne
  obtain ⟨b, o, e2, hc⟩ := hr 0 (enB y) rfl
  rw [e2] at hx
  injection hx with hx
  subst hx
  obtain ⟨A', cp, ve, hB, _, _, _, _, hcn⟩ := h
  have h1 := hc 0 _ rfl
  simp only at e
  subst e
  have h2 := (hB.cell (o + 0 * 1 + 0)).symm.trans h1
  rcases (show o + 0 * 1 + 0 = 0 ∨ o + 0 * 1 + 0 = 1 ∨ o + 0 * 1 + 0 = 2 ∨ 3 ≤ o + 0 * 1 + 0 from by omega) with h3 | h3 | h3 | h3
  · rw [h3] at h2; simp at h2
  · rw [h3] at h2; simp at h2
  · rw [h3] at h2
    cases c with
    | nil => rw [show ve = .nilIface from hcn] at h2; simp at h2
    | cons x r => obtain ⟨_, _, e4, _⟩ := hcn; rw [e4] at h2; simp at h2
  · rw [Array.getElem?_eq_none (by simpa using h3)] at h2; cases h2
theorem rows_rd {w w' : World} {q : Nat} {bs bl : List UInt8} {a : Nat} {c : List Lk} {A : Option Addr} (h : Rd w q bs a c) (hr : RowsAt w 1 A (bys bl)) (hf : Fr (only q) w w') : RowsAt w' 1 A (bys bl) :=
  rows_set hr (fun hne => rows_ne h hr hne) hf
theorem Rd.other {w w' : World} {p q : Nat} {bs bs' : List UInt8} {a a' : Nat} {c c' : List Lk} (h : Rd w p bs a c) (h' : Rd w q bs' a' c') (hne : p ≠ q) (hf : Fr (only q) w w') : Rd w' p bs a c := by
  have h2 := h'
  obtain ⟨A, cp, ve, hB, h1, hle, hr, hp, hc⟩ := h
  obtain ⟨_, _, _, hB', _⟩ := h2
  exact ⟨A, cp, ve, hB.fr hf (fun e => hne e), h1, hle, rows_rd h' hr hf, hp, chn_set hB' hf hc⟩

set_option maxHeartbeats 8000000 in
theorem lawCuts (n : Nat) (s : ByteArray) (cut : Int) (w : World) (hE : ErrT w) (hn : n < 2 ^ 64) (h1 : -9223372036854775808 ≤ cut) (h2 : cut ≤ 9223372036854775807) :
    Calls Tryd.prog 8 #[.int .u64 n, .string s, .int .i64 cut] w (Ans w (.bool true)) := by
  have HE := Lib.hid hE
  clear hE
  refine via fun Q hQ => ?_
  go_enter Tryd.func8, Tryd.ntmps8
  go_wp2_with fail
  refine (lshort s w).mono ?_
  rintro e w0 ⟨rfl, rfl⟩
  have hsl := shortB_len s
  generalize shortB s = s0 at hsl
  go_wp2_with fail
  refine (onat n w0 hn).mono ?_
  rintro e w2 ⟨v2, rfl, ho2, hb2⟩
  obtain ⟨A2, c2, rfl, hl2, hn2, hr2⟩ := ho2.slv'
  have HR2 := Lib.hid hr2
  have HN2 := Lib.hid hn2
  have HB2 := Lib.hid hb2
  clear ho2 hb2 hr2 hn2
  go_wp2_with fail
  refine (ostr s0 w2 (by omega)).mono ?_
  rintro e w3 ⟨v3, rfl, ho3, hb3⟩
  obtain ⟨A3, c3, rfl, hl3, hn3, hr3⟩ := ho3.slv'
  have HR3 := Lib.hid hr3
  have HN3 := Lib.hid hn3
  have HR23 := Lib.hid (HR2.out.below hb3)
  have HB3 := Lib.hid (below_then HB2.out hb3)
  simp only [bys_len] at hl2 hl3 ⊢
  clear ho3 hb3 hr3 hn3
  have hal : Below w3.heap.size w3 (w3.alloc (.cells #[.slice A2 (natB n).length c2, .slice A3 (strB s0).length c3] 53)) := (Below.refl _ _).alloc (Nat.le_refl _) _
  have hblk := Blk.new w3 #[.slice A2 (natB n).length c2, .slice A3 (strB s0).length c3] 53
  have hB := below_then HB3.out hal
  have hR2 := HR23.out.below hal
  have hR3 := HR3.out.below hal
  go_wp2_with fail
  generalize w3.alloc (.cells #[.slice A2 (natB n).length c2, .slice A3 (strB s0).length c3] 53) = wB at hblk hB hR2 hR3 ⊢
  have HBlk := Lib.hid hblk
  have HB := Lib.hid hB
  have HRB2 := Lib.hid hR2
  have HRB3 := Lib.hid hR3
  clear hblk hB hR2 hR3 hal
  have HL2 := Lib.hid hl2
  have HL3 := Lib.hid hl3
  clear hl2 hl3
  go_loopg [20] 2 (fun g i wr => ∃ j : Nat, j ≤ 2 ∧ g = 2 - j ∧ i = .int .i64 j ∧ Below wB.heap.size wB wr)
  case atStart => exact ⟨0, by decide, rfl, rfl, Below.refl _ _⟩
  case round =>
    obtain ⟨j, hj, rfl, rfl, hbr⟩ := hrel
    by_cases hj2 : j < 2
    · have hgen : ∃ (bl : List UInt8) (A : Option Addr) (c : Nat), wr.cell? ⟨w3.heap.size, j, none⟩ = some (.slice A bl.length c) ∧ RowsAt wr 1 A (bys bl) ∧ bl.length ≤ c ∧ 0 < bl.length ∧ bl.length ≤ 400 ∧
          (∀ k, k < bl.length → pstr (bl.take k) 0 300 = (none, 6)) ∧ (bl = natB n → ∀ k, k < bl.length → rdNat (bl.take k) 0 [] = (0, 0, bad6 0)) := by
        rcases (show j = 0 ∨ j = 1 from by omega) with rfl | rfl
        · exact ⟨natB n, A2, c2, (HBlk.out.below hbr).at_ 0 rfl, HRB2.out.below hbr, HL2.out, by simp [natB], by have := natB_len n hn; omega, fun k hk => pstr_cutN hn hk, fun _ k hk => rdNat_cut hn hk⟩
        · exact ⟨strB s0, A3, c3, (HBlk.out.below hbr).at_ 1 rfl, HRB3.out.below hbr, HL3.out, by simp [strB, natB], by have := strB_len s0 (by omega); omega, fun k hk => pstr_cutS hsl hk, fun e k hk => by rw [e] at hk ⊢; exact rdNat_cut hn hk⟩
      obtain ⟨bl, A, c, c0, hr, hlc, hpos, h400, hps, hrd⟩ := hgen
      have HR := Lib.hid hr
      have HBr := Lib.hid (below_then HB.out hbr)
      have HPS := Lib.hid hps
      have HRD := Lib.hid hrd
      have Hbr := Lib.hid hbr
      clear hr hps hrd hbr
      generalize hLe : bl.length = len at c0 hlc hpos h400
      have HLe := Lib.hid hLe
      clear hLe
      have z1 : -(len : Int) < cut.tmod len := by have := Int.tmod_lt_of_pos (-cut) (show (0 : Int) < len from by omega); rw [Int.neg_tmod] at this; omega
      have z2 : cut.tmod len < len := Int.tmod_lt_of_pos cut (show (0 : Int) < len from by omega)
      generalize hz : cut.tmod len = z at z1 z2
      by_cases hneg : z < 0
      · obtain ⟨k, hk⟩ : ∃ k : Nat, -z = k := ⟨(-z).toNat, by omega⟩
        have hkl : k < len := by omega
        have HK := Lib.hid hk
        clear hk
        clear HR2 HR3 HR23 HRB2 HRB3 HN2 HN3 HL2 HL3 HB2 HB3
        go_wp2_with fail
        rw [HK.out]
        have h35 : ∀ x, Below wr.heap.size wr x → Calls Tryd.prog 35 #[.slice A k c] x (fun e x' => ∃ p : Nat, e = .returned (.pointer (some ⟨p, 0, none⟩)) ∧ p = x.heap.size ∧ Rd x' p (bl.take k) 0 [] ∧ Below wr.heap.size wr x' ∧ Below x.heap.size x x') := fun x hx => by
          have hl : (bl.take k).length = k := by rw [List.length_take, HLe.out]; omega
          have := oof A c (bl.take k) x (by omega) (by rw [bys, List.map_take]; exact (HR.out.below hx).take k)
          rw [hl] at this
          exact this.mono fun e x' h => ⟨_, h.1, rfl, h.2.1, below_then hx h.2.2, h.2.2⟩
        have H35 := Lib.hid h35
        have k0 : (0 : Int) ≤ (k : Int) := by omega
        have k1 : (k : Int) ≤ (c : Int) := by omega
        clear h35
        go_region_held3 (fun x => Below wr.heap.size wr x) ((first | assumption | exact below_drewN (Below.refl _ _) 1)) ((first | (go_at_call 35; refine (H35.out _ (by assumption)).mono ?_; rintro e x5 ⟨p5, rfl, hp5, hrd5, hbN, hbS⟩)))
        rename_i xa pa hpa hra hba hbsa hh
        have hp1 : pa = wr.heap.size := hpa
        subst hp1
        clear hpa
        have hr1 := hra.below hbS
        subst hp5
        have hne : wr.heap.size ≠ xa.heap.size := Nat.ne_of_lt (by obtain ⟨_, _, _, hB, _⟩ := hra; exact hB.lt)
        have hkl2 : (bl.take k).length ≤ 1099511627776 := by rw [List.length_take, HLe.out]; omega
        have hrows := HR.out.below hbN
        have HR1 := Lib.hid hr1
        have HR2' := Lib.hid hrd5
        have HRows := Lib.hid hrows
        have HNe := Lib.hid hne
        have HPle := Lib.hid hba.size
        have Hx5 := Lib.hid hbN
        have h0 := mNat x5 hkl2 hr1
        have hps := HPS.out k (by rw [HLe.out]; exact hkl)
        have hE2 : rdStr (bl.take k) 0 [] 300 = (noB, 0, bad6 0) := by simp [rdStr, hps, bad6]
        have hrdn : bl = natB n → rdNat (bl.take k) 0 [] = (0, 0, bad6 0) := fun e => HRD.out e k (by rw [HLe.out]; exact hkl)
        generalize rdNat (bl.take k) 0 [] = st at h0 hrdn
        obtain ⟨n1, a1, c1⟩ := st
        have H0 := Lib.hid h0
        have HE2 := Lib.hid hE2
        have HRdn := Lib.hid hrdn
        clear h0 hE2 hrdn hps hr1 hrd5 hrows hne hba hbsa hh hbN hbS hra H35
        go_wp2_with fail
        refine H0.out.mono ?_
        rintro e x6 ⟨rfl, hrd6, hf6⟩
        have hr26 := Rd.other HR2'.out HR1.out (Ne.symm HNe.out) hf6
        have HRows6 := Lib.hid (rows_rd HR1.out HRows.out hf6)
        have HR16 := Lib.hid hrd6
        have HR26 := Lib.hid hr26
        have Hx6 := Lib.hid (below_step Hx5.out (Nat.le_refl _) hf6)
        have h7 := mStr x6 300 hkl2 (by decide) (by decide) hr26
        rw [HE2.out] at h7
        have H7 := Lib.hid h7
        clear hrd6 hf6 hr26 h7
        go_wp2_with fail
        refine H7.out.mono ?_
        rintro e x7 ⟨rfl, hrd7, hf7⟩
        have HR17 := Lib.hid (Rd.other HR16.out HR26.out HNe.out hf7)
        have HRows7 := Lib.hid (rows_rd HR26.out HRows6.out hf7)
        have HR27 := Lib.hid hrd7
        have Hx7 := Lib.hid (below_step Hx6.out HPle.out hf7)
        clear hrd7 hf7
        go_wp2_with fail
        have hcvb : ∀ W, Below x7.heap.size x7 W → (convert 53 9 (.slice A len c)).run Tryd.prog W = .ok (.string ⟨bl.toArray⟩) W := fun W hW =>
          run_str (P := Tryd.prog) W 53 9 5 Tryd.underlying53 Tryd.underlying5 Tryd.underlying9 A len c bl HLe.out.symm (HRows7.out.below hW)
        have hN : ∀ W, Below x7.heap.size x7 W → Calls Tryd.prog 38 #[.int .u64 n] W (fun e W' => ∃ A' c', e = .returned (.slice A' (natB n).length c') ∧ (convert 53 9 (.slice A' (natB n).length c')).run Tryd.prog W' = .ok (.string ⟨(natB n).toArray⟩) W' ∧ Below x7.heap.size x7 W') := fun W hW =>
          (rnat n W hn).mono fun e W' h => by
            obtain ⟨A', c', e1, e2, hb⟩ := ByAns.str h _ _ rfl rfl
            exact ⟨A', c', e1, e2, below_then hW hb⟩
        have HE7 := Lib.hid (HE.out.below (below_then HBr.out Hx7.out))
        have hE1 : ∀ W, Below x7.heap.size x7 W → Calls Tryd.prog 39 #[.pointer (some ⟨wr.heap.size, 0, none⟩)] W (fun e W' => e = .returned (.int .i64 (codeOf c1)) ∧ Below x7.heap.size x7 W') := fun W hW =>
          (mErr W (HE7.out.below hW) (HR17.out.below hW)).mono fun e W' h => ⟨h.1, below_then hW h.2⟩
        have hE2 : ∀ W, Below x7.heap.size x7 W → Calls Tryd.prog 39 #[.pointer (some ⟨xa.heap.size, 0, none⟩)] W (fun e W' => e = .returned (.int .i64 6) ∧ Below x7.heap.size x7 W') := fun W hW =>
          (mErr W (HE7.out.below hW) (HR27.out.below hW)).mono fun e W' h => ⟨h.1, below_then hW h.2⟩
        have HCV := Lib.hid hcvb
        have HN := Lib.hid hN
        have HE1 := Lib.hid hE1
        have HE2' := Lib.hid hE2
        have hBall := Lib.hid (below_then Hbr.out Hx7.out)
        clear hcvb hN hE1 hE2 HE2 H0 H7
        by_cases hq : bl = natB n
        · have hc6 : codeOf c1 = 6 := by
            have := HRdn.out hq
            injection this with _ h; injection h with _ h; rw [h]; rfl
          have hst : (⟨bl.toArray⟩ : ByteArray) = ⟨(natB n).toArray⟩ := by rw [hq]
          rw [hc6] at HE1
          have hst2 := str_same hst
          clear hst
          generalize (⟨(natB n).toArray⟩ : ByteArray) = sy at HN hst2
          generalize (⟨bl.toArray⟩ : ByteArray) = sx at HCV hst2
          clear hq hc6 HRdn
          have hdr : Below x7.heap.size x7 x7.drew := below_drewN (Below.refl _ _) 1
          have hcd := HCV.out _ hdr
          have hcd0 := HCV.out _ (Below.refl _ _)
          first | (go_region_with (first | (go_at_call 38; refine (HN.out _ (by assumption)).mono ?_; rintro e xn ⟨An, cn, rfl, hcn, hbN⟩; have hcb := HCV.out _ hbN) | (go_at_call_of 39 (Value.pointer (some (⟨wr.heap.size, 0, none⟩ : Addr))); refine (HE1.out _ (by assumption)).mono ?_; rintro e xe ⟨rfl, hbN⟩) | (go_at_call_of 39 (Value.pointer (some (⟨xa.heap.size, 0, none⟩ : Addr))); refine (HE2'.out _ (by assumption)).mono ?_; rintro e xf ⟨rfl, hbN⟩))) | fail
          all_goals
            go_wp2_with fail
            go_roundg (2 - (j + 1))
            case measure => omega
            case rel => exact ⟨j + 1, by omega, rfl, by first | rfl | (congr 1; omega), below_then hBall.out (by assumption)⟩

        · have hst : (⟨bl.toArray⟩ : ByteArray) ≠ ⟨(natB n).toArray⟩ := fun e => hq (by injection e with e; exact Array.toList_inj.2 e |> fun h => by simpa using h)
          have hst2 := str_diff hst
          generalize (⟨(natB n).toArray⟩ : ByteArray) = sy at HN hst2
          generalize (⟨bl.toArray⟩ : ByteArray) = sx at HCV hst2
          clear hst hq HRdn
          have hdr : Below x7.heap.size x7 x7.drew := below_drewN (Below.refl _ _) 1
          have hcd := HCV.out _ hdr
          have hcd0 := HCV.out _ (Below.refl _ _)
          first | (go_region_with (first | (go_at_call 38; refine (HN.out _ (by assumption)).mono ?_; rintro e xn ⟨An, cn, rfl, hcn, hbN⟩; have hcb := HCV.out _ hbN) | (go_at_call_of 39 (Value.pointer (some (⟨wr.heap.size, 0, none⟩ : Addr))); refine (HE1.out _ (by assumption)).mono ?_; rintro e xe ⟨rfl, hbN⟩) | (go_at_call_of 39 (Value.pointer (some (⟨xa.heap.size, 0, none⟩ : Addr))); refine (HE2'.out _ (by assumption)).mono ?_; rintro e xf ⟨rfl, hbN⟩))) | fail
          all_goals
            go_wp2_with fail
            go_roundg (2 - (j + 1))
            case measure => omega
            case rel => exact ⟨j + 1, by omega, rfl, by first | rfl | (congr 1; omega), below_then hBall.out (by assumption)⟩


      · obtain ⟨k, hk⟩ : ∃ k : Nat, z = k := ⟨z.toNat, by omega⟩
        have hkl : k < len := by omega
        have HK := Lib.hid hk
        clear hk
        clear HR2 HR3 HR23 HRB2 HRB3 HN2 HN3 HL2 HL3 HB2 HB3
        go_wp2_with fail
        rw [HK.out]
        have h35 : ∀ x, Below wr.heap.size wr x → Calls Tryd.prog 35 #[.slice A k c] x (fun e x' => ∃ p : Nat, e = .returned (.pointer (some ⟨p, 0, none⟩)) ∧ p = x.heap.size ∧ Rd x' p (bl.take k) 0 [] ∧ Below wr.heap.size wr x' ∧ Below x.heap.size x x') := fun x hx => by
          have hl : (bl.take k).length = k := by rw [List.length_take, HLe.out]; omega
          have := oof A c (bl.take k) x (by omega) (by rw [bys, List.map_take]; exact (HR.out.below hx).take k)
          rw [hl] at this
          exact this.mono fun e x' h => ⟨_, h.1, rfl, h.2.1, below_then hx h.2.2, h.2.2⟩
        have H35 := Lib.hid h35
        have k0 : (0 : Int) ≤ (k : Int) := by omega
        have k1 : (k : Int) ≤ (c : Int) := by omega
        clear h35
        go_region_held3 (fun x => Below wr.heap.size wr x) ((first | assumption | exact below_drewN (Below.refl _ _) 1)) ((first | (go_at_call 35; refine (H35.out _ (by assumption)).mono ?_; rintro e x5 ⟨p5, rfl, hp5, hrd5, hbN, hbS⟩)))
        rename_i xa pa hpa hra hba hbsa hh
        have hp1 : pa = wr.heap.size := hpa
        subst hp1
        clear hpa
        have hr1 := hra.below hbS
        subst hp5
        have hne : wr.heap.size ≠ xa.heap.size := Nat.ne_of_lt (by obtain ⟨_, _, _, hB, _⟩ := hra; exact hB.lt)
        have hkl2 : (bl.take k).length ≤ 1099511627776 := by rw [List.length_take, HLe.out]; omega
        have hrows := HR.out.below hbN
        have HR1 := Lib.hid hr1
        have HR2' := Lib.hid hrd5
        have HRows := Lib.hid hrows
        have HNe := Lib.hid hne
        have HPle := Lib.hid hba.size
        have Hx5 := Lib.hid hbN
        have h0 := mNat x5 hkl2 hr1
        have hps := HPS.out k (by rw [HLe.out]; exact hkl)
        have hE2 : rdStr (bl.take k) 0 [] 300 = (noB, 0, bad6 0) := by simp [rdStr, hps, bad6]
        have hrdn : bl = natB n → rdNat (bl.take k) 0 [] = (0, 0, bad6 0) := fun e => HRD.out e k (by rw [HLe.out]; exact hkl)
        generalize rdNat (bl.take k) 0 [] = st at h0 hrdn
        obtain ⟨n1, a1, c1⟩ := st
        have H0 := Lib.hid h0
        have HE2 := Lib.hid hE2
        have HRdn := Lib.hid hrdn
        clear h0 hE2 hrdn hps hr1 hrd5 hrows hne hba hbsa hh hbN hbS hra H35
        go_wp2_with fail
        refine H0.out.mono ?_
        rintro e x6 ⟨rfl, hrd6, hf6⟩
        have hr26 := Rd.other HR2'.out HR1.out (Ne.symm HNe.out) hf6
        have HRows6 := Lib.hid (rows_rd HR1.out HRows.out hf6)
        have HR16 := Lib.hid hrd6
        have HR26 := Lib.hid hr26
        have Hx6 := Lib.hid (below_step Hx5.out (Nat.le_refl _) hf6)
        have h7 := mStr x6 300 hkl2 (by decide) (by decide) hr26
        rw [HE2.out] at h7
        have H7 := Lib.hid h7
        clear hrd6 hf6 hr26 h7
        go_wp2_with fail
        refine H7.out.mono ?_
        rintro e x7 ⟨rfl, hrd7, hf7⟩
        have HR17 := Lib.hid (Rd.other HR16.out HR26.out HNe.out hf7)
        have HRows7 := Lib.hid (rows_rd HR26.out HRows6.out hf7)
        have HR27 := Lib.hid hrd7
        have Hx7 := Lib.hid (below_step Hx6.out HPle.out hf7)
        clear hrd7 hf7
        go_wp2_with fail
        have hcvb : ∀ W, Below x7.heap.size x7 W → (convert 53 9 (.slice A len c)).run Tryd.prog W = .ok (.string ⟨bl.toArray⟩) W := fun W hW =>
          run_str (P := Tryd.prog) W 53 9 5 Tryd.underlying53 Tryd.underlying5 Tryd.underlying9 A len c bl HLe.out.symm (HRows7.out.below hW)
        have hN : ∀ W, Below x7.heap.size x7 W → Calls Tryd.prog 38 #[.int .u64 n] W (fun e W' => ∃ A' c', e = .returned (.slice A' (natB n).length c') ∧ (convert 53 9 (.slice A' (natB n).length c')).run Tryd.prog W' = .ok (.string ⟨(natB n).toArray⟩) W' ∧ Below x7.heap.size x7 W') := fun W hW =>
          (rnat n W hn).mono fun e W' h => by
            obtain ⟨A', c', e1, e2, hb⟩ := ByAns.str h _ _ rfl rfl
            exact ⟨A', c', e1, e2, below_then hW hb⟩
        have HE7 := Lib.hid (HE.out.below (below_then HBr.out Hx7.out))
        have hE1 : ∀ W, Below x7.heap.size x7 W → Calls Tryd.prog 39 #[.pointer (some ⟨wr.heap.size, 0, none⟩)] W (fun e W' => e = .returned (.int .i64 (codeOf c1)) ∧ Below x7.heap.size x7 W') := fun W hW =>
          (mErr W (HE7.out.below hW) (HR17.out.below hW)).mono fun e W' h => ⟨h.1, below_then hW h.2⟩
        have hE2 : ∀ W, Below x7.heap.size x7 W → Calls Tryd.prog 39 #[.pointer (some ⟨xa.heap.size, 0, none⟩)] W (fun e W' => e = .returned (.int .i64 6) ∧ Below x7.heap.size x7 W') := fun W hW =>
          (mErr W (HE7.out.below hW) (HR27.out.below hW)).mono fun e W' h => ⟨h.1, below_then hW h.2⟩
        have HCV := Lib.hid hcvb
        have HN := Lib.hid hN
        have HE1 := Lib.hid hE1
        have HE2' := Lib.hid hE2
        have hBall := Lib.hid (below_then Hbr.out Hx7.out)
        clear hcvb hN hE1 hE2 HE2 H0 H7
        by_cases hq : bl = natB n
        · have hc6 : codeOf c1 = 6 := by
            have := HRdn.out hq
            injection this with _ h; injection h with _ h; rw [h]; rfl
          have hst : (⟨bl.toArray⟩ : ByteArray) = ⟨(natB n).toArray⟩ := by rw [hq]
          rw [hc6] at HE1
          have hst2 := str_same hst
          clear hst
          generalize (⟨(natB n).toArray⟩ : ByteArray) = sy at HN hst2
          generalize (⟨bl.toArray⟩ : ByteArray) = sx at HCV hst2
          clear hq hc6 HRdn
          have hdr : Below x7.heap.size x7 x7.drew := below_drewN (Below.refl _ _) 1
          have hcd := HCV.out _ hdr
          have hcd0 := HCV.out _ (Below.refl _ _)
          first | (go_region_with (first | (go_at_call 38; refine (HN.out _ (by assumption)).mono ?_; rintro e xn ⟨An, cn, rfl, hcn, hbN⟩; have hcb := HCV.out _ hbN) | (go_at_call_of 39 (Value.pointer (some (⟨wr.heap.size, 0, none⟩ : Addr))); refine (HE1.out _ (by assumption)).mono ?_; rintro e xe ⟨rfl, hbN⟩) | (go_at_call_of 39 (Value.pointer (some (⟨xa.heap.size, 0, none⟩ : Addr))); refine (HE2'.out _ (by assumption)).mono ?_; rintro e xf ⟨rfl, hbN⟩))) | fail
          all_goals
            go_wp2_with fail
            go_roundg (2 - (j + 1))
            case measure => omega
            case rel => exact ⟨j + 1, by omega, rfl, by first | rfl | (congr 1; omega), below_then hBall.out (by assumption)⟩

        · have hst : (⟨bl.toArray⟩ : ByteArray) ≠ ⟨(natB n).toArray⟩ := fun e => hq (by injection e with e; exact Array.toList_inj.2 e |> fun h => by simpa using h)
          have hst2 := str_diff hst
          generalize (⟨(natB n).toArray⟩ : ByteArray) = sy at HN hst2
          generalize (⟨bl.toArray⟩ : ByteArray) = sx at HCV hst2
          clear hst hq HRdn
          have hdr : Below x7.heap.size x7 x7.drew := below_drewN (Below.refl _ _) 1
          have hcd := HCV.out _ hdr
          have hcd0 := HCV.out _ (Below.refl _ _)
          first | (go_region_with (first | (go_at_call 38; refine (HN.out _ (by assumption)).mono ?_; rintro e xn ⟨An, cn, rfl, hcn, hbN⟩; have hcb := HCV.out _ hbN) | (go_at_call_of 39 (Value.pointer (some (⟨wr.heap.size, 0, none⟩ : Addr))); refine (HE1.out _ (by assumption)).mono ?_; rintro e xe ⟨rfl, hbN⟩) | (go_at_call_of 39 (Value.pointer (some (⟨xa.heap.size, 0, none⟩ : Addr))); refine (HE2'.out _ (by assumption)).mono ?_; rintro e xf ⟨rfl, hbN⟩))) | fail
          all_goals
            go_wp2_with fail
            go_roundg (2 - (j + 1))
            case measure => omega
            case rel => exact ⟨j + 1, by omega, rfl, by first | rfl | (congr 1; omega), below_then hBall.out (by assumption)⟩


    · obtain rfl : j = 2 := by omega
      have HB2 := Lib.hid (below_then HB.out hbr)
      clear hbr
      go_wp2_with fail
      refine (oawake wr (HE.out.below HB2.out)).mono ?_
      rintro e x2 ⟨rfl, hxb⟩
      have HX2 := Lib.hid (below_then HB2.out hxb)
      clear hxb
      go_wp2
      exact ⟨rfl, HX2.out⟩
end Go.Proofs.YtoejeiaeladgjaaDoor
