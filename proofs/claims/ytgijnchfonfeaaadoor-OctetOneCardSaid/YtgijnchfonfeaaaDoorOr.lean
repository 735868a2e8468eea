/- Package octet: the reader's Strs. -/
import Derived.Test.YtgijnchfonfeaaaDoorOq
namespace Go.Proofs.YtgijnchfonfeaaaDoor
open Go.Proofs.BL Go.Proofs.Peel Go.RowKit
set_option maxRecDepth 100000
set_option linter.unusedVariables false

def strV (s : ByteArray) : List Value := [.string s]

def rdMany (bs : List UInt8) (most : Int) : Nat → Nat → List Lk → List ByteArray → List ByteArray × Nat × List Lk
  | 0, a, c, acc => (acc, a, c)
  | n + 1, a, c, acc => if c = [] then rdMany bs most n (rdStr bs a c most).2.1 (rdStr bs a c most).2.2 (acc ++ [(rdStr bs a c most).1]) else (acc, a, c)
theorem rdMany_bad (bs : List UInt8) (most : Int) (n a : Nat) {c : List Lk} (acc : List ByteArray) (h : c ≠ []) : rdMany bs most n a c acc = (acc, a, c) := by
  cases n with
  | zero => rfl
  | succ n => rw [rdMany, if_neg h]
def rdStrs (bs : List UInt8) (a : Nat) (c : List Lk) (many most : Int) : List ByteArray × Nat × List Lk :=
  if c = [] then
    (if (rdNat bs a []).2.2 = [] ∧ ((rdNat bs a []).1 : Int) > max many 0 then ([], a, bad7 a)
    else if (rdMany bs most (rdNat bs a []).1 (rdNat bs a []).2.1 (rdNat bs a []).2.2 []).2.2 = [] then rdMany bs most (rdNat bs a []).1 (rdNat bs a []).2.1 (rdNat bs a []).2.2 []
    else ([], (rdMany bs most (rdNat bs a []).1 (rdNat bs a []).2.1 (rdNat bs a []).2.2 []).2))
  else ([], a, c)
theorem rdStr_step {bs : List UInt8} {a : Nat} {most : Int} (h : (rdStr bs a [] most).2.2 = []) : a < (rdStr bs a [] most).2.1 := by
  unfold rdStr at h ⊢
  rw [if_pos rfl] at h ⊢
  cases hp : pstr bs a most with
  | mk o x =>
    rw [hp] at h
    cases o with
    | none => simp at h
    | some sa =>
      obtain ⟨s, a'⟩ := sa
      simp only
      unfold pstr at hp
      split at hp
      · cases hp
      · rename_i n k hpn
        have := (pnat_len hpn).2.1
        split at hp
        · cases hp
        · split at hp
          · cases hp
          · injection hp with hp _; injection hp with hp; injection hp with _ hp; omega
/-- Beyond a row of one's own: a reader's block and its bytes. -/
theorem Rd.own {w w' : World} {p : Nat} {bs : List UInt8} {a : Nat} {c : List Lk} {base : Nat} {E : TypeId} {sz : Nat} {v : Value} {rows : List (List Value)} (h : Rd w p bs a c) (ho : Own w base E sz v rows) (hp : p < base) (hE : E ≠ 42) (hE2 : isErrT E = false)
    (hf : Fr (fun k => v.ownBlock = some k) w w') : Rd w' p bs a c := by
  obtain ⟨A, cp, ve, hB, h1, hle, hr, hpl, hc⟩ := h
  have hb : ∀ k, v.ownBlock = some k → base ≤ k := fun k hk => (ho.1.lt k hk).1
  refine ⟨A, cp, ve, hB.fr hf (fun e => by have := hb _ e; omega), h1, hle, ?_, hpl, hc.fr hf (fun k cs t f hk hh => by rw [ho.own_type k hk hh]; exact hE2)⟩
  by_cases hbs : bs = []
  · subst hbs; exact RowsAt.nil _ _ _
  · exact hr.fr hf (fun x hx e => by have := hb _ e; have := hpl hbs x hx; omega)
def StrsPost (p : Nat) (bs : List UInt8) (w : World) (l : List ByteArray) (st : Nat × List Lk) (e : Ending) (w' : World) : Prop :=
  ∃ v, e = .returned v ∧ Own w' w.heap.size 9 1 v (l.map strV) ∧ Rd w' p bs st.1 st.2 ∧ Fr (only p) w w'

set_option maxHeartbeats 2000000 in
theorem mStrs {p : Nat} {bs : List UInt8} {a : Nat} {c : List Lk} (w : World) (many most : Int) (hl : bs.length ≤ 1099511627776) (ha1 : -9223372036854775808 ≤ many) (ha2 : many ≤ 9223372036854775807) (hm1 : -9223372036854775808 ≤ most) (hm2 : most ≤ 9223372036854775807) (h : Rd w p bs a c) :
    Calls Tryd.prog 8 #[.pointer (some ⟨p, 0, none⟩), .int .i64 many, .int .i64 most] w (StrsPost p bs w (rdStrs bs a c many most).1 (rdStrs bs a c many most).2) := by
  have ha := h.at_le
  have c1 := h.c1
  have hpw : p < w.heap.size := by obtain ⟨_, _, _, hB, _⟩ := h; exact hB.lt
  have HRD := Lib.hid h
  clear h
  by_cases hc : c = []
  · subst hc
    have h0 := mNat w hl HRD.out
    have hlt := rdNat_lt bs a []
    have E : rdStrs bs a [] many most = if (rdNat bs a []).2.2 = [] ∧ ((rdNat bs a []).1 : Int) > max many 0 then ([], a, bad7 a)
      else if (rdMany bs most (rdNat bs a []).1 (rdNat bs a []).2.1 (rdNat bs a []).2.2 []).2.2 = [] then rdMany bs most (rdNat bs a []).1 (rdNat bs a []).2.1 (rdNat bs a []).2.2 []
      else ([], (rdMany bs most (rdNat bs a []).1 (rdNat bs a []).2.1 (rdNat bs a []).2.2 []).2) := by rw [rdStrs, if_pos rfl]
    generalize rdStrs bs a [] many most = RR at E ⊢
    have hz : (rdNat bs a []).2.2 ≠ [] → (rdNat bs a []).1 = 0 := by
      intro h
      unfold rdNat at h ⊢
      rw [if_pos rfl] at h ⊢
      cases hp : pnat (bs.drop a) with
      | none => rfl
      | some nk => rw [hp] at h; simp at h
    generalize rdNat bs a [] = st at h0 hlt E hz
    obtain ⟨n, a1, c1'⟩ := st
    simp only at h0 hlt E hz
    have HE0 := Lib.hid E
    clear E
    have H0 := Lib.hid h0
    clear h0
    refine via fun Q hQ => ?_
    go_enter Tryd.func8, Tryd.ntmps8
    go_wp2_with fail
    refine (rbad w HRD.out).mono ?_
    rintro e w1 ⟨rfl, rfl⟩
    go_wp2_with fail
    refine H0.out.mono ?_
    rintro e w2 ⟨rfl, hrd, hf⟩
    obtain ⟨ve, g2, hch⟩ := Rd.c2 hrd
    have HR2 := Lib.hid hrd
    have HF2 := Lib.hid hf
    clear hrd hf H0
    cases c1' with
    | cons x r =>
      obtain ⟨b, u, rfl, _⟩ := hch
      have hn0 : n = 0 := hz (List.cons_ne_nil _ _)
      subst hn0
      clear hz
      have hR : RR = ([], a1, x :: r) := by rw [HE0.out]; simp [rdMany]
      subst hR
      clear HE0
      go_wp2_with fail
      go_loopg [10] 0 (fun g i wr => g = 0 ∧ i = .int .u64 0 ∧ w2 = wr)
      case atStart => exact ⟨rfl, rfl, rfl⟩
      case round =>
        obtain ⟨rfl, rfl, rfl⟩ := hrel
        go_wp2
        exact ⟨_, rfl, Own.nil _ _ _ _, HR2.out, HF2.out⟩
    | nil =>
      obtain rfl : ve = .nilIface := hch
      clear hz
      obtain ⟨mx, hmx⟩ : ∃ m : Nat, max many 0 = (m : Int) := ⟨(max many 0).toNat, by omega⟩
      by_cases hbig : (mx : Int) < n
      · have HBig := Lib.hid (show ((n : Int) > max many 0) from by omega)
        have hR : RR = ([], a, bad7 a) := by rw [HE0.out, if_pos ⟨rfl, HBig.out⟩]
        subst hR
        clear HE0
        go_wp2_with fail
        refine (rfail w2 a 7 HR2.out ha (by decide)).mono ?_
        rintro e w3 ⟨rfl, hrd, hf⟩
        have HR3 := Lib.hid hrd
        have HF3 := Lib.hid (HF2.out.trans hf (fun _ _ h => h))
        clear hrd hf
        go_wp2
        all_goals exact ⟨_, rfl, Own.nil _ _ _ _, HR3.out, HF3.out⟩
      · have HBig := Lib.hid (show ¬ ((n : Int) > max many 0) from by omega)
        have hR : RR = if (rdMany bs most n a1 [] []).2.2 = [] then rdMany bs most n a1 [] [] else ([], (rdMany bs most n a1 [] []).2) := by rw [HE0.out, if_neg (fun h => HBig.out h.2)]
        clear HE0
        generalize hRM : rdMany bs most n a1 [] [] = RM at hR
        have HRM := Lib.hid hR
        clear hR
        have hbN : (mx < n) = False := eq_false (by omega)
        have hbD : decide (mx < n) = false := decide_eq_false (by omega)
        go_wp2_with fail
        clear g2 c1
        go_loopg [9, 10] n (fun g o i wr => ∃ (j : Nat) (acc : List ByteArray) (a2 : Nat) (c2 : List Lk), j ≤ n ∧ g = n - j ∧ i = .int .u64 j ∧ Own wr w1.heap.size 9 1 o (acc.map strV) ∧ Rd wr p bs a2 c2 ∧ Fr (only p) w1 wr ∧
          rdMany bs most (n - j) a2 c2 acc = RM ∧ acc.length ≤ a2 + 1 ∧ (c2 = [] → acc.length ≤ a2))
        case atStart => exact ⟨0, [], a1, [], Nat.zero_le _, rfl, rfl, Own.nil _ _ _ _, HR2.out, HF2.out, hRM, Nat.zero_le _, fun _ => Nat.zero_le _⟩
        case round =>
          obtain ⟨j, acc, a2, c2, hj, rfl, rfl, ho, hrd, hf, hmany, hacc1, hacc2⟩ := hrel
          have ha2 := hrd.at_le
          obtain ⟨ve, g2, hch⟩ := Rd.c2 hrd
          have HO := Lib.hid ho
          have HR := Lib.hid hrd
          have HF := Lib.hid hf
          have HM := Lib.hid hmany
          have hsz := hf.size
          clear ho hrd hf hmany
          by_cases hjn : j < n
          · have hjn' : ((j : Int) < (n : Int)) := by omega
            cases c2 with
            | nil =>
              obtain rfl : ve = .nilIface := hch
              have hacc := hacc2 rfl
              clear hacc1 hacc2
              go_wp2_with fail
              refine (mStr wr most hl hm1 hm2 HR.out).mono ?_
              rintro e w4 ⟨rfl, hrd4, hf4⟩
              have hst := fun h => rdStr_step (bs := bs) (a := a2) (most := most) h
              have hstep : rdMany bs most (n - (j + 1)) (rdStr bs a2 [] most).2.1 (rdStr bs a2 [] most).2.2 (acc ++ [(rdStr bs a2 [] most).1]) = RM := by
                rw [← HM.out, show n - j = (n - (j + 1)) + 1 from by omega, rdMany, if_pos rfl]
              have hle4 := hrd4.at_le
              have hbad : (rdStr bs a2 [] most).2.2 ≠ [] → (rdStr bs a2 [] most).2.1 = a2 := by
                intro h
                unfold rdStr at h ⊢
                rw [if_pos rfl] at h ⊢
                cases hp : pstr bs a2 most with
                | mk o x => rw [hp] at h; cases o with
                  | none => rfl
                  | some sa => exact absurd rfl h
              generalize rdStr bs a2 [] most = st at hrd4 hst hstep hle4 hbad
              obtain ⟨s4, a4, c4⟩ := st
              simp only at hrd4 hst hstep hle4 hbad
              have hge : a2 ≤ a4 := by
                by_cases h : c4 = []
                · have := hst h; omega
                · rw [hbad h]; exact Nat.le_refl _
              have hownb : ∀ k, Value.ownBlock _ = some k → w1.heap.size ≤ k := fun k hk => (HO.out.1.lt k hk).1
              have hO4 := HO.out.fr hf4 (fun k hk (e : k = p) => by have := hownb k hk; omega)
              have hsz4 := hf4.size
              have HO4 := Lib.hid hO4
              have HR4 := Lib.hid hrd4
              have HF4 := Lib.hid (HF.out.trans hf4 (fun _ _ h => h))
              have HOB := Lib.hid hownb
              have HST := Lib.hid hst
              have HSTEP := Lib.hid hstep
              clear hO4 hrd4 hf4 hownb hst hstep hbad HR HF HO
              have hbase : w1.heap.size ≤ w4.heap.size := by omega
              go_wp2_with (at_builtin; go_must (refine append1 w1.heap.size 9 1 16 (.string ⟨#[]⟩) rfl (.tmp 46) (.tmp 50) 29 rfl Tryd.underlying29 (by kernel_rfl) rfl (by decide) (by decide) _ (acc.map strV) (strV s4) rfl _ rfl rfl rfl (by simp [strV, Value.oneCell']) HO4.out hbase (by simp only [List.length_map]; omega) ?_); intro v1 w5 hown1 hfr1)
              go_roundg (n - (j + 1))
              case measure => omega
              case rel => exact ⟨j + 1, acc ++ [s4], a4, c4, by omega, rfl, by first | rfl | go_num, by rw [List.map_append]; exact hown1, Rd.own HR4.out HO4.out hpw (by decide) (by decide) hfr1, HF4.out.trans hfr1 (fun i hi h => by have := HOB.out i h; omega), HSTEP.out, by simp; omega, fun h => by have := HST.out h; simp; omega⟩
            | cons x r =>
              obtain ⟨b, u, rfl, _⟩ := hch
              have hE : RM = (acc, a2, x :: r) := by rw [← HM.out]; exact rdMany_bad _ _ _ _ _ (List.cons_ne_nil _ _)
              have hR : RR = ([], a2, x :: r) := by rw [HRM.out, hE]; simp
              subst hR
              clear hE HRM
              go_wp2
              exact ⟨_, rfl, Own.nil _ _ _ _, HR.out, HF.out⟩
          · obtain rfl : j = n := by omega
            have hE : RM = (acc, a2, c2) := by rw [← HM.out, Nat.sub_self]; rfl
            cases c2 with
            | nil =>
              obtain rfl : ve = .nilIface := hch
              have hR : RR = (acc, a2, []) := by rw [HRM.out, hE]; simp
              subst hR
              clear hE HRM
              go_wp2
              exact ⟨_, rfl, HO.out, HR.out, HF.out⟩
            | cons x r =>
              obtain ⟨b, u, rfl, _⟩ := hch
              have hR : RR = ([], a2, x :: r) := by rw [HRM.out, hE]; simp
              subst hR
              clear hE HRM
              go_wp2
              exact ⟨_, rfl, Own.nil _ _ _ _, HR.out, HF.out⟩
  · have E : rdStrs bs a c many most = ([], a, c) := by simp [rdStrs, hc]
    rw [E]
    have hd : decide (c ≠ []) = true := by simp [hc]
    refine via fun Q hQ => ?_
    go_enter Tryd.func8, Tryd.ntmps8
    go_wp2_with fail
    refine (rbad w HRD.out).mono ?_
    rintro e w1 ⟨rfl, rfl⟩
    rw [hd]
    go_wp2
    exact ⟨_, rfl, Own.nil _ _ _ _, HRD.out, Fr.refl _ _⟩
end Go.Proofs.YtgijnchfonfeaaaDoor
