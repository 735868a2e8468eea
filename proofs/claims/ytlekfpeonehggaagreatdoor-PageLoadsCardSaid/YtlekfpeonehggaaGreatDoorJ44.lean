/- The document's reader of bytes: Of, wrong, nat, Nat, Num, Str, End. -/
import Derived.Test.YtlekfpeonehggaaGreatDoorJ07
import Derived.Test.YtlekfpeonehggaaGreatDoorJ10
import Derived.Great.Walk
import Derived.IntWalk
section
set_option linter.unusedVariables false
set_option linter.unusedSimpArgs false
set_option maxRecDepth 100000
namespace Go.Proofs.YtlekfpeonehggaaGreatDoor
open Go.Proofs.BL Go.Proofs.Peel Go.RowKit

/-- A reader of the document: bytes, a place, what is wrong, where. -/
def riB (p : Nat) (A : Option Addr) (n c : Nat) (a : Nat) (e bad : Int) : Part := blk p #[.slice A n c, .int .i64 a, .int .i64 e, .int .i64 bad] 69
def rI (p : Nat) (bs : List UInt8) (a : Nat) (e bad : Int) : Part := Part.ex fun (x : Option Addr × Nat) => (riB p x.1 bs.length x.2 a e bad).star (Part.when (bs.length ≤ x.2) (roR 1 x.1 (bys bs)))
section
variable {l : List Part} {w : World}
theorem Sat.openRi {p : Nat} {bs : List UInt8} {a : Nat} {e bad : Int} (h : Sat (rI p bs a e bad :: l) w) : ∃ A c, bs.length ≤ c ∧ Sat (riB p A bs.length c a e bad :: roR 1 A (bys bs) :: l) w := by
  obtain ⟨⟨A, c⟩, h⟩ := h.open_
  obtain ⟨hc, h2⟩ := h.split.s1.when_
  exact ⟨A, c, hc, h2.s1⟩
theorem Sat.shutRi {p : Nat} {bs : List UInt8} {A : Option Addr} {c a : Nat} {e bad : Int} (h : Sat (riB p A bs.length c a e bad :: roR 1 A (bys bs) :: l) w) (hc : bs.length ≤ c) : Sat (rI p bs a e bad :: l) w :=
  Sat.shut (f := fun (x : Option Addr × Nat) => (riB p x.1 bs.length x.2 a e bad).star (Part.when (bs.length ≤ x.2) (roR 1 x.1 (bys bs)))) (A, c) (h.s1.with_ hc).s1.join
end
/-- What is told of it. -/
structure RiF (w : World) (p : Nat) (A : Option Addr) (c : Nat) (bs : List UInt8) (a : Nat) (e bad : Int) : Prop where
  b : Blk w p #[.slice A bs.length c, .int .i64 a, .int .i64 e, .int .i64 bad] 69
  r : RowsAt w 1 A (bys bs)
  c : bs.length ≤ c
theorem Sat.riF {p : Nat} {bs : List UInt8} {A : Option Addr} {c a : Nat} {e bad : Int} {l : List Part} {w : World} (h : Sat (riB p A bs.length c a e bad :: roR 1 A (bys bs) :: l) w) (hc : bs.length ≤ c) : RiF w p A c bs a e bad := ⟨h.blk_, h.s1.rows_, hc⟩
def pnD (l : List UInt8) : Nat × Nat := match pnat l with | some x => x | none => (0, 0)
def dNat (bs : List UInt8) (a : Nat) (e bad : Int) : Nat × Nat × Int × Int := if e = 0 then (if (pnD (bs.drop a)).2 = 0 then (0, a, 6, (a : Int)) else ((pnD (bs.drop a)).1, a + (pnD (bs.drop a)).2, 0, bad)) else (0, a, e, bad)
def RvPost (p : Nat) (bs : List UInt8) (l : List Part) (v : Value) (st : Nat × Int × Int) (e : Ending) (w' : World) : Prop := e = .returned v ∧ Sat (rI p bs st.1 st.2.1 st.2.2 :: l) w'
def OfPost (bs : List UInt8) (l : List Part) (e : Ending) (w' : World) : Prop := ∃ p : Nat, e = .returned (.pointer (some ⟨p, 0, none⟩)) ∧ Sat (rI p bs 0 0 (-1) :: l) w'
theorem dOf {A : Option Addr} {c : Nat} {bs : List UInt8} {l : List Part} {w : World} (h : Sat (roR 1 A (bys bs) :: l) w) (hc : bs.length ≤ c) : Calls Tryz.prog 22 #[.slice A bs.length c] w (OfPost bs (roR 1 A (bys bs) :: l)) := by
  refine via fun Q hQ => ?_
  have hS : Sat (riB w.heap.size A bs.length c 0 0 (-1) :: roR 1 A (bys bs) :: roR 1 A (bys bs) :: l) _ := h.two.alloc #[.slice A bs.length c, .int .i64 0, .int .i64 0, .int .i64 (-1)] 69
  have HS := Lib.hid (hS.shutRi hc)
  clear hS h
  generalize bs.length = n at *
  go_enter Tryz.func22, Tryz.ntmps22
  go_wp2_with fail
  exact ⟨_, rfl, HS.out⟩
theorem dWrong {p : Nat} {bs : List UInt8} {a : Nat} {e bad : Int} {l : List Part} {w : World} (h : Sat (rI p bs a e bad :: l) w) (f : Nat) (x : Int) : Calls Tryz.prog 51 #[.pointer (some ⟨p, 0, none⟩), .int .i64 f, .int .i64 x] w (RvPost p bs l (.tuple #[]) (f, x, (f : Int))) := by
  refine via fun Q hQ => ?_
  obtain ⟨A, c, hc, h2⟩ := h.openRi
  have c1 := h2.blk_.at_ 1 rfl
  have c2 := h2.blk_.at_ 2 rfl
  have c3 := h2.blk_.at_ 3 rfl
  have f1 := h2.blk_.free 1
  have f2 := h2.blk_.free 2
  have f3 := h2.blk_.free 3
  simp only [List.getElem_toArray, List.getElem_cons_succ, List.getElem_cons_zero] at c1 c2 c3
  have hS : Sat (riB p A bs.length c f x f :: roR 1 A (bys bs) :: l) _ := ((h2.set 2 (.int .i64 x)).set 3 (.int .i64 f)).set 1 (.int .i64 f)
  have HS := Lib.hid (hS.shutRi hc)
  clear hS h h2
  go_enter Tryz.func51, Tryz.ntmps51
  go_wp2_with fail
  refine Great.bodyPost_end0 rfl rfl ?_
  exact hQ _ _ ⟨rfl, HS.out⟩
theorem bys_at {w : World} {A : Option Addr} {bs : List UInt8} (h : RowsAt w 1 A (bys bs)) {i : Nat} {y : UInt8} (hi : bs[i]? = some y) : ∃ b o, A = some ⟨b, o, none⟩ ∧ w.cell? ⟨b, o + i, none⟩ = some (.int .u8 y.toNat) := by
  obtain ⟨b, o, e, hc⟩ := h i (enB y) (by rw [bys, List.getElem?_map, hi]; rfl)
  refine ⟨b, o, e, ?_⟩
  have := hc 0 _ rfl
  rwa [Nat.mul_one, Nat.add_zero] at this
theorem dcell {w : World} {b o : Nat} {bs r : List UInt8} {a : Nat} {k : UInt8} (hr : RowsAt w 1 (some ⟨b, o, none⟩) (bys bs)) (hd : bs.drop a = k :: r) {kn : Nat} (h8 : kn ≤ 8) (hle : kn ≤ r.length) (i : Nat) (h1 : 1 ≤ i) (h2 : i ≤ kn) :
    ∃ y : UInt8, (r.take kn)[i - 1]? = some y ∧ w.cell? ⟨b, o + (a + i), none⟩ = some (.int .u8 y.toNat) ∧ val ((r.take kn).take i) = val ((r.take kn).take (i - 1)) * 256 + y.toNat ∧ val ((r.take kn).take (i - 1)) < 72057594037927936 := by
  have hl : (r.take kn).length = kn := by rw [List.length_take]; omega
  have hg : bs[a + i]? = r[i - 1]? := by
    have := congrArg (fun l => l[i]?) hd
    simp only [List.getElem?_drop] at this
    rw [this, show i = (i - 1) + 1 by omega, List.getElem?_cons_succ]; rfl
  have hlt : i - 1 < (r.take kn).length := by omega
  have hgt : (r.take kn)[i - 1]? = r[i - 1]? := List.getElem?_take_of_lt (by omega)
  refine ⟨(r.take kn)[i - 1], List.getElem?_eq_getElem hlt, ?_, ?_, ?_⟩
  · obtain ⟨b', o', e, hc⟩ := bys_at hr (i := a + i) (y := (r.take kn)[i - 1]) (by rw [hg, ← hgt]; exact List.getElem?_eq_getElem hlt)
    injection e with e; injection e with e1 e2; subst e1 e2
    exact hc
  · have := take_step (r.take kn) hlt
    rw [show i - 1 + 1 = i by omega] at this
    rw [this, val_snoc]
  · have h1 := val_lt ((r.take kn).take (i - 1))
    have h2 : ((r.take kn).take (i - 1)).length ≤ 7 := by rw [List.length_take]; omega
    have h3 : 256 ^ ((r.take kn).take (i - 1)).length ≤ 256 ^ 7 := Nat.pow_le_pow_right (by decide) h2
    have : val ((r.take kn).take (i - 1)) < 256 ^ 7 := Nat.lt_of_lt_of_le h1 h3
    omega
theorem dnat {p : Nat} {A : Option Addr} {c : Nat} {bs : List UInt8} {a0 : Nat} {e bad : Int} (a : Nat) (w : World) (hl : bs.length ≤ 1099511627776) (ha : a ≤ 1099511627776) (h : RiF w p A c bs a0 e bad) :
    Calls Tryz.prog 50 #[.pointer (some ⟨p, 0, none⟩), .int .i64 a] w (fun e w' => w' = w ∧ e = .returned (.tuple #[.int .u64 (pnD (bs.drop a)).1, .int .i64 (pnD (bs.drop a)).2])) := by
  refine via fun Q hQ => ?_
  have c0 := h.b.at_ 0 rfl
  simp only [List.getElem_toArray, List.getElem_cons_succ, List.getElem_cons_zero] at c0
  have hr := h.r
  clear h
  cases hd : bs.drop a with
  | nil =>
    have hn : ¬ a < bs.length := by have := congrArg List.length hd; simp at this; omega
    have hv : pnD [] = (0, 0) := rfl
    rw [hd, hv] at hQ
    generalize bs.length = n at *
    clear hr hd hv
    go_enter Tryz.func50, Tryz.ntmps50
    go_wp2_with fail
  | cons k r =>
    have hlen : bs.length = a + 1 + r.length := by have := congrArg List.length hd; simp at this; omega
    have hk : bs[a]? = some k := by
      have := congrArg (fun l => l[0]?) hd
      simpa using this
    obtain ⟨b, o, rfl, c1⟩ := bys_at hr hk
    have hdc := fun kn h8 hle => dcell hr hd (kn := kn) h8 hle
    rw [hd] at hQ
    have HQ := Lib.hid hQ
    generalize bs.length = n at *
    have hklt := k.toNat_lt
    clear hr hd hk hQ
    by_cases h8 : 8 < k.toNat
    · have HP := Lib.hid (show pnD (k :: r) = (0, 0) by simp only [pnD, pnat, if_pos h8])
      clear hdc
      go_enter Tryz.func50, Tryz.ntmps50
      go_wp2_with fail
      exact HQ.out _ _ ⟨rfl, by rw [HP.out]; rfl⟩
    by_cases hsh : r.length < k.toNat
    · have HP := Lib.hid (show pnD (k :: r) = (0, 0) by simp only [pnD, pnat, if_neg h8, if_pos hsh])
      clear hdc
      generalize r.length = m at *
      go_enter Tryz.func50, Tryz.ntmps50
      go_wp2_with fail
      exact HQ.out _ _ ⟨rfl, by rw [HP.out]; rfl⟩
    · have HP := Lib.hid (show pnat (k :: r) = if (r.take k.toNat).head? = some 0 then none else some (val (r.take k.toNat), k.toNat + 1) by rw [pnat, if_neg h8, if_neg hsh])
      have HDC := Lib.hid (hdc k.toNat (by omega) (by omega))
      have hll : (r.take k.toNat).length = k.toNat := by rw [List.length_take]; omega
      clear hdc
      generalize r.take k.toNat = L at *
      generalize hkn : k.toNat = kn at *
      generalize r.length = m at *
      clear hkn hklt
      go_enter Tryz.func50, Tryz.ntmps50
      go_wp2_with fail
      go_loopg [7, 8] kn (fun g v i wr => ∃ j : Nat, 1 ≤ j ∧ j ≤ kn + 1 ∧ g = kn + 1 - j ∧ i = .int .i64 j ∧ v = .int .u64 (val (L.take (j - 1))) ∧ wr = w)
      case atStart => exact ⟨1, by omega, by omega, by omega, rfl, rfl, rfl⟩
      case round =>
        obtain ⟨j, hj1, hj2, rfl, rfl, rfl, rfl⟩ := hrel
        by_cases hjl : j ≤ kn
        · obtain ⟨y, _, c2, hst, hvl⟩ := HDC.out j hj1 hjl
          have hylt := y.toNat_lt
          generalize hve : val (L.take (j - 1)) = vv at hst hvl
          have HST := Lib.hid hst
          clear hst hve
          go_wp2
          go_roundg (kn + 1 - (j + 1))
          case measure => omega
          case rel => exact ⟨j + 1, by omega, by omega, rfl, by go_num, by rw [Nat.add_sub_cancel, HST.out]; go_num, rfl⟩
        · obtain rfl : j = kn + 1 := by omega
          have hall : L.take (kn + 1 - 1) = L := List.take_of_length_le (by omega)
          rw [hall]
          clear hall
          cases kn with
          | zero =>
            have HL := Lib.hid (List.eq_nil_of_length_eq_zero hll)
            clear hll
            go_wp2
            exact HQ.out _ _ ⟨rfl, by simp only [pnD, HP.out, HL.out]; rfl⟩
          | succ kk =>
            obtain ⟨y, hy, c2, _, _⟩ := HDC.out 1 (Nat.le_refl _) (by omega)
            have hylt := y.toNat_lt
            have hhd : L.head? = some y := by rw [List.head?_eq_getElem?]; exact hy
            have HL := Lib.hid hhd
            clear hll hy hhd
            by_cases hy0 : y = 0
            · subst hy0
              generalize val L = vv at *
              go_wp2
              exact HQ.out _ _ ⟨rfl, by simp only [pnD, HP.out, HL.out]; rfl⟩
            · have g0 : ((y.toNat : Int) == 0) = false := int_diff (fun e => hy0 (UInt8.toNat_inj.1 (by simpa using e)))
              have HNY := Lib.hid hy0
              clear hy0
              generalize (y.toNat : Int) = z at c2 g0
              have HV := Lib.hid (show pnD (k :: r) = (val L, kk + 1 + 1) by simp only [pnD, HP.out, HL.out, Option.some.injEq, HNY.out, if_false])
              generalize val L = vv at *
              go_wp2
              exact HQ.out _ _ ⟨rfl, by rw [HV.out]; first | rfl | go_num⟩
theorem pnD_le (l : List UInt8) : (pnD l).2 ≤ l.length ∧ (pnD l).1 < 18446744073709551616 := by
  unfold pnD
  cases hp : pnat l with
  | none => exact ⟨Nat.zero_le _, by decide⟩
  | some nk =>
    have := pnat_len (n := nk.1) (k := nk.2) hp
    exact ⟨this.1, this.2.2⟩
def dNum (bs : List UInt8) (a : Nat) (e bad : Int) : Int × Nat × Int × Int := (zag (dNat bs a e bad).1, (dNat bs a e bad).2)
theorem dNat_le {bs : List UInt8} {a : Nat} {e bad : Int} (ha : a ≤ bs.length) : (dNat bs a e bad).2.1 ≤ bs.length ∧ (dNat bs a e bad).1 < 18446744073709551616 := by
  unfold dNat
  have h := pnD_le (bs.drop a)
  rw [List.length_drop] at h
  split
  · split
    · exact ⟨ha, by show (0 : Nat) < _; decide⟩
    · exact ⟨by show a + _ ≤ _; omega, h.2⟩
  · exact ⟨ha, by show (0 : Nat) < _; decide⟩
theorem mDNat {p : Nat} {bs : List UInt8} {a : Nat} {e bad : Int} {l : List Part} {w : World} (hl : bs.length ≤ 1099511627776) (ha : a ≤ bs.length) (h : Sat (rI p bs a e bad :: l) w) :
    Calls Tryz.prog 23 #[.pointer (some ⟨p, 0, none⟩)] w (RvPost p bs l (.int .u64 (dNat bs a e bad).1) (dNat bs a e bad).2) := by
  refine via fun Q hQ => ?_
  obtain ⟨A, c, hc, h2⟩ := h.openRi
  have HF := Lib.hid (h2.riF hc)
  have c1 := h2.blk_.at_ 1 rfl
  have c2 := h2.blk_.at_ 2 rfl
  have f1 := h2.blk_.free 1
  simp only [List.getElem_toArray, List.getElem_cons_succ, List.getElem_cons_zero] at c1 c2
  have HQ := Lib.hid hQ
  have hpl := pnD_le (bs.drop a)
  rw [List.length_drop] at hpl
  by_cases he : e = 0
  · subst he
    have HV := Lib.hid (show dNat bs a 0 bad = if (pnD (bs.drop a)).2 = 0 then (0, a, 6, (a : Int)) else ((pnD (bs.drop a)).1, a + (pnD (bs.drop a)).2, 0, bad) from rfl)
    have HN := Lib.hid (dnat a w hl (by omega) HF.out)
    have HH := Lib.hid h
    have HS := Lib.hid h2
    clear h h2 hQ
    generalize pnD (bs.drop a) = x at *
    obtain ⟨n, k⟩ := x
    go_enter Tryz.func23, Tryz.ntmps23
    go_wp2_with fail
    refine HN.out.mono ?_
    rintro _ _ ⟨rfl, rfl⟩
    by_cases hk : k = 0
    · subst hk
      go_wp2_with fail
      refine (dWrong HH.out a 6).mono ?_
      rintro _ w2 ⟨rfl, hs⟩
      have HS2 := Lib.hid hs
      clear hs
      go_wp2
      exact HQ.out _ _ ⟨by rw [HV.out]; rfl, by rw [HV.out]; exact HS2.out⟩
    · have hS : Sat (riB p A bs.length c ((a + k : Nat) : Int).toNat 0 bad :: roR 1 A (bys bs) :: l) _ := HS.out.set 1 (.int .i64 ((a + k : Nat) : Int))
      rw [Int.toNat_natCast] at hS
      have HS2 := Lib.hid (hS.shutRi hc)
      have HV2 := Lib.hid (HV.out.trans (if_neg hk))
      clear hS
      have hkk : ((k : Int) == 0) = false := int_diff (by omega)
      go_wp2
      exact HQ.out _ _ ⟨by rw [HV2.out]; rfl, by rw [HV2.out]; exact HS2.out⟩
  · have HV := Lib.hid (show dNat bs a e bad = (0, a, e, bad) from if_neg he)
    have HH := Lib.hid h
    have hee : (e == 0) = false := int_diff he
    clear h h2 hQ hpl he
    generalize bs.length = n at *
    go_enter Tryz.func23, Tryz.ntmps23
    go_wp2_with fail
    exact HQ.out _ _ ⟨by rw [HV.out]; rfl, by rw [HV.out]; exact HH.out⟩
theorem mDNum {p : Nat} {bs : List UInt8} {a : Nat} {e bad : Int} {l : List Part} {w : World} (hl : bs.length ≤ 1099511627776) (ha : a ≤ bs.length) (h : Sat (rI p bs a e bad :: l) w) :
    Calls Tryz.prog 25 #[.pointer (some ⟨p, 0, none⟩)] w (RvPost p bs l (.int .i64 (dNum bs a e bad).1) (dNum bs a e bad).2) := by
  have hlt := (dNat_le (e := e) (bad := bad) ha).2
  have h0 := mDNat hl ha h
  unfold dNum
  generalize dNat bs a e bad = st at hlt h0 ⊢
  obtain ⟨n, st⟩ := st
  simp only at hlt
  refine via fun Q hQ => ?_
  go_enter Tryz.func25, Tryz.ntmps25
  go_wp2_with fail
  refine h0.mono ?_
  rintro _ w1 ⟨rfl, hs⟩
  have HS := Lib.hid hs
  clear hs h0
  by_cases ho : n % 2 = 1
  · have HZ := Lib.hid (show zag n = -1 - (n / 2 : Nat) from if_pos ho)
    go_wp2
    exact ⟨by rw [HZ.out]; go_num, HS.out⟩
  · have HZ := Lib.hid (show zag n = (n / 2 : Nat) from if_neg ho)
    go_wp2
    exact ⟨by rw [HZ.out]; go_num, HS.out⟩
def dEnd (bs : List UInt8) (a : Nat) (e bad : Int) : Nat × Int × Int := if e = 0 ∧ a < bs.length then (a, 6, (a : Int)) else (a, e, bad)
theorem mDEnd {p : Nat} {bs : List UInt8} {a : Nat} {e bad : Int} {l : List Part} {w : World} (hl : bs.length ≤ 1099511627776) (ha : a ≤ bs.length) (h : Sat (rI p bs a e bad :: l) w) :
    Calls Tryz.prog 26 #[.pointer (some ⟨p, 0, none⟩)] w (RvPost p bs l (.int .i64 (dEnd bs a e bad).2.1) (dEnd bs a e bad)) := by
  refine via fun Q hQ => ?_
  obtain ⟨A, c, hc, h2⟩ := h.openRi
  have c0 := h2.blk_.at_ 0 rfl
  have c1 := h2.blk_.at_ 1 rfl
  have c2 := h2.blk_.at_ 2 rfl
  simp only [List.getElem_toArray, List.getElem_cons_succ, List.getElem_cons_zero] at c0 c1 c2
  have HQ := Lib.hid hQ
  have HB := Lib.hid h
  clear h2 hQ h
  by_cases he : e = 0
  · subst he
    by_cases hlt : a < bs.length
    · have HV := Lib.hid (show dEnd bs a 0 bad = (a, 6, (a : Int)) from if_pos ⟨rfl, hlt⟩)
      go_enter Tryz.func26, Tryz.ntmps26
      go_wp2_with fail
      go_quiet (fail)
      go_wp2_with fail
      refine (dWrong (HB.out.drewN nq) a 6).mono ?_
      rintro _ w2 ⟨rfl, hs⟩
      have HS2 := Lib.hid hs
      obtain ⟨A2, c', hc', h4⟩ := hs.openRi
      have c2 := h4.blk_.at_ 2 rfl
      simp only [List.getElem_toArray, List.getElem_cons_succ, List.getElem_cons_zero] at c2
      clear hs h4
      go_wp2
      exact HQ.out _ _ ⟨by rw [HV.out]; rfl, by rw [HV.out]; exact HS2.out⟩
    · have HV := Lib.hid (show dEnd bs a 0 bad = (a, 0, bad) from if_neg (fun h => hlt h.2))
      go_enter Tryz.func26, Tryz.ntmps26
      go_wp2_with fail
      go_quiet (fail)
      go_wp2_with fail
      exact HQ.out _ _ ⟨by rw [HV.out]; rfl, by rw [HV.out]; exact HB.out.drewN nq⟩
  · have HV := Lib.hid (show dEnd bs a e bad = (a, e, bad) from if_neg (fun h => he h.1))
    have hee : (e == 0) = false := int_diff he
    clear he
    go_enter Tryz.func26, Tryz.ntmps26
    go_wp2_with fail
    go_quiet (fail)
    go_wp2_with fail
    exact HQ.out _ _ ⟨by rw [HV.out]; rfl, by rw [HV.out]; exact HB.out.drewN nq⟩
def dStr (bs : List UInt8) (a : Nat) (e bad most : Int) : ByteArray × Nat × Int × Int := if e = 0 then (match pstr bs a most with | (some (s, a'), _) => (s, a', 0, bad) | (none, x) => (noB, a, x, (a : Int))) else (noB, a, e, bad)
theorem dStr_le {bs : List UInt8} {a : Nat} {e bad most : Int} (ha : a ≤ bs.length) : (dStr bs a e bad most).2.1 ≤ bs.length := by
  unfold dStr
  split
  · unfold pstr
    cases hp : pnat (bs.drop a) with
    | none => simp only; exact ha
    | some nk =>
      have := (pnat_len (n := nk.1) (k := nk.2) hp).1
      rw [List.length_drop] at this
      by_cases h1 : (nk.1 : Int) > max most 0
      · simp only [if_pos h1]; exact ha
      · by_cases h2 : nk.1 > bs.length - (a + nk.2)
        · simp only [if_neg h1, if_pos h2]; exact ha
        · simp only [if_neg h1, if_neg h2]; omega
  · exact ha
set_option maxHeartbeats 4000000 in
theorem mDStr {p : Nat} {bs : List UInt8} {a : Nat} {e bad : Int} {l : List Part} {w : World} (most : Int) (hl : bs.length ≤ 1099511627776) (ha : a ≤ bs.length) (hm1 : -9223372036854775808 ≤ most) (hm2 : most ≤ 9223372036854775807) (h : Sat (rI p bs a e bad :: l) w) :
    Calls Tryz.prog 24 #[.pointer (some ⟨p, 0, none⟩), .int .i64 most] w (RvPost p bs l (.string (dStr bs a e bad most).1) (dStr bs a e bad most).2) := by
  refine via fun Q hQ => ?_
  obtain ⟨A, c, hc, h2⟩ := h.openRi
  have HF := Lib.hid (h2.riF hc)
  have c0 := h2.blk_.at_ 0 rfl
  have c1 := h2.blk_.at_ 1 rfl
  have c2 := h2.blk_.at_ 2 rfl
  have f1 := h2.blk_.free 1
  simp only [List.getElem_toArray, List.getElem_cons_succ, List.getElem_cons_zero] at c0 c1 c2
  have HQ := Lib.hid hQ
  by_cases he : e = 0
  · subst he
    have hV : dStr bs a 0 bad most = (match pstr bs a most with | (some (s, a'), _) => (s, a', 0, bad) | (none, x) => (noB, a, x, (a : Int))) := if_pos rfl
    have HN := Lib.hid (dnat a w hl (by omega) HF.out)
    have HH := Lib.hid h
    have HS := Lib.hid h2
    clear h h2 hQ
    have HM := Lib.hid (show max most 0 = if most < 0 then 0 else most by split <;> omega)
    cases hp : pnat (bs.drop a) with
    | none =>
      have HV := Lib.hid (show dStr bs a 0 bad most = (noB, a, 6, (a : Int)) by rw [hV]; simp only [pstr, hp])
      have hx : pnD (bs.drop a) = (0, 0) := by simp only [pnD, hp]
      rw [hx] at HN
      clear hV hp hx
      go_enter Tryz.func24, Tryz.ntmps24
      go_wp2_with fail
      all_goals
        refine HN.out.mono ?_
        rintro _ _ ⟨rfl, rfl⟩
        go_wp2_with fail
        refine (dWrong HH.out a 6).mono ?_
        rintro _ w2 ⟨rfl, hs⟩
        have HS2 := Lib.hid hs
        clear hs
        go_wp2
        exact HQ.out _ _ ⟨by rw [HV.out]; rfl, by rw [HV.out]; exact HS2.out⟩
    | some nk =>
      obtain ⟨n, k⟩ := nk
      have hpl := pnat_len hp
      rw [List.length_drop] at hpl
      obtain ⟨hp1, hp2, hp3⟩ := hpl
      have hx : pnD (bs.drop a) = (n, k) := by simp only [pnD, hp]
      rw [hx] at HN
      have hpe : pstr bs a most = if (n : Int) > max most 0 then (none, 7) else if n > bs.length - (a + k) then (none, 6) else (some (⟨((bs.drop (a + k)).take n).toArray⟩, a + k + n), 0) := by simp only [pstr, hp]
      rw [hpe] at hV
      have hkk : ((k : Int) == 0) = false := int_diff (by omega)
      clear hx hp hpe
      by_cases hb : (n : Int) > max most 0
      · have HV := Lib.hid (show dStr bs a 0 bad most = (noB, a, 7, (a : Int)) by rw [hV, if_pos hb])
        clear hV
        go_enter Tryz.func24, Tryz.ntmps24
        go_wp2_with fail
        all_goals
          refine HN.out.mono ?_
          rintro _ _ ⟨rfl, rfl⟩
          go_wp2_with fail
          refine (dWrong HH.out a 7).mono ?_
          rintro _ w2 ⟨rfl, hs⟩
          have HS2 := Lib.hid hs
          clear hs
          go_wp2
          exact HQ.out _ _ ⟨by rw [HV.out]; rfl, by rw [HV.out]; exact HS2.out⟩
      rw [if_neg hb] at hV
      have HNB := Lib.hid (Int.not_lt.1 hb)
      by_cases hb2 : n > bs.length - (a + k)
      · have HV := Lib.hid (show dStr bs a 0 bad most = (noB, a, 6, (a : Int)) by rw [hV, if_pos hb2])
        clear hV
        go_enter Tryz.func24, Tryz.ntmps24
        go_wp2_with fail
        all_goals
          refine HN.out.mono ?_
          rintro _ _ ⟨rfl, rfl⟩
          go_wp2_with fail
          go_quiet (fail)
          go_wp2_with fail
          refine (dWrong (HH.out.drewN nq) a 6).mono ?_
          rintro _ w2 ⟨rfl, hs⟩
          have HS2 := Lib.hid hs
          clear hs
          go_wp2
          exact HQ.out _ _ ⟨by rw [HV.out]; rfl, by rw [HV.out]; exact HS2.out⟩
      rw [if_neg hb2] at hV
      simp only at hV
      have HV := Lib.hid hV
      clear hV
      have hrd := rows_drop (k := a + k) (n := n) (cp := c) HF.out.r (by omega) hc
      have hcv : ∀ m : Nat, (convert 23 9 (.slice (if c = a + k then A else Option.map (fun x => x.add (a + k)) A) n (c - (a + k)))).run Tryz.prog (w.drewN m) = .ok (.string ⟨((bs.drop (a + k)).take n).toArray⟩) (w.drewN m) :=
        fun m => run_str (P := Tryz.prog) (w.drewN m) 23 9 5 Tryz.underlying23 Tryz.underlying5 Tryz.underlying9 _ n _ ((bs.drop (a + k)).take n) (by rw [List.length_take, List.length_drop]; omega) (hrd.below (drew_below w m))
      have hS : ∀ (m : Nat) (v : Int), v = ((a + k + n : Nat) : Int) → Sat (rI p bs (a + k + n) 0 bad :: l) ((w.drewN m).setCell ⟨p, 1, none⟩ (.int .i64 v)) := fun m v hv => by
        subst hv
        exact (show Sat (riB p A bs.length c (a + k + n) 0 bad :: roR 1 A (bys bs) :: l) _ from (HS.out.drewN m).set 1 (.int .i64 ((a + k + n : Nat) : Int))).shutRi hc
      have HSS := Lib.hid hS
      have w0 : IntKind.i64.wrap (n : Int) = (n : Int) := by rw [IntKind.wrap_i64]; omega
      have w1 : IntKind.i64.wrap ((a : Int) + k) = (a : Int) + k := by rw [IntKind.wrap_i64]; omega
      have w2 : (0 : Int) ≤ (a : Int) + k := by omega
      have w3 : ((a : Int) + k).toNat = a + k := by omega
      have w4 : (a : Int) + k ≤ (a : Int) + k + n := by omega
      have w5 : (a : Int) + k + n ≤ (c : Int) := by omega
      have w6 : IntKind.i64.wrap ((a : Int) + k + n) = (a : Int) + k + n := by rw [IntKind.wrap_i64]; omega
      have w7 : (0 : Int) ≤ (a : Int) + k + n := by omega
      have w8 : ((a : Int) + k + n).toNat = a + k + n := by omega
      have w9 : a + k + n - (a + k) = n := by omega
      have w10 : (a : Int) + k ≤ max ((a : Int) + k + n) 0 := by omega
      clear hrd hS
      generalize (⟨((bs.drop (a + k)).take n).toArray⟩ : ByteArray) = sx at hcv HV
      go_enter Tryz.func24, Tryz.ntmps24
      go_wp2_with fail
      all_goals
        refine HN.out.mono ?_
        rintro _ _ ⟨rfl, rfl⟩
        go_wp2_with fail
        go_quiet (fail)
        go_wp2_with fail
        go_quiet (fail)
        go_wp2_with fail
        all_goals exact HQ.out _ _ ⟨by rw [HV.out], by rw [HV.out]; exact HSS.out _ _ (by push_cast; omega)⟩
  · have HV := Lib.hid (show dStr bs a e bad most = (noB, a, e, bad) from if_neg he)
    have HH := Lib.hid h
    have hee : (e == 0) = false := int_diff he
    clear h h2 hQ he
    generalize bs.length = n at *
    go_enter Tryz.func24, Tryz.ntmps24
    go_wp2_with fail
    exact HQ.out _ _ ⟨by rw [HV.out]; rfl, by rw [HV.out]; exact HH.out⟩
end Go.Proofs.YtlekfpeonehggaaGreatDoor
end
