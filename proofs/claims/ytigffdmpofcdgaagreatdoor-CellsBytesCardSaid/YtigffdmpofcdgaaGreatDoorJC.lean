/- Package cells: at, set, drop, Get, Len, Rows, Copy. Package cells: set, drop, New. Package cells: drop, New. -/
import Derived.Test.YtigffdmpofcdgaaGreatDoorJA
import Derived.Test.YtigffdmpofcdgaaGreatDoorJB
import Derived.Test.YtigffdmpofcdgaaGreatDoorJI
import Derived.Great.Walk
section
set_option linter.unusedVariables false
set_option maxRecDepth 100000
namespace Go.Proofs.YtigffdmpofcdgaaGreatDoor
open Go.Proofs.BL Go.Proofs.Peel Go.RowKit Go.Proofs.Ky

abbrev ceP (p : Nat) (l : List Rw) : Part := objS 88 61 2 p (rwR l)
/-- What an object of package cells is. -/
def CeF (w : World) (p : Nat) (v : Value) (l : List Rw) : Prop := Blk w p #[v] 88 ∧ Own w 0 61 2 v (rwR l)
theorem CeF.below {w w' : World} {p : Nat} {v : Value} {l : List Rw} (h : CeF w p v l) (hb : Below w.heap.size w w') : CeF w' p v l := ⟨h.1.below hb, h.2.below hb⟩
theorem Sat.ceF {p : Nat} {l : List Rw} {ls : List Part} {w : World} (h : Sat (ceP p l :: ls) w) : ∃ v, CeF w p v l ∧ Sat (blk p #[v] 88 :: ownR v 61 2 (rwR l) :: ls) w := by
  obtain ⟨v, h⟩ := h.openO
  exact ⟨v, ⟨h.blk_, h.s1.own_⟩, h⟩
theorem CeF.cells {w : World} {p g n c : Nat} {l : List Rw} (h : CeF w p (.slice (some ⟨g, 0, none⟩) n c) l) {i : Nat} {r : Rw} (hi : l[i]? = some r) :
    (w.cell? ⟨g, i * 2, none⟩ = some (.string r.1) ∧ w.cell? ⟨g, i * 2 + 1, none⟩ = some (.int .i64 r.2)) ∧ w.frozen? ⟨g, i * 2, none⟩ = false ∧ w.frozen? ⟨g, i * 2 + 1, none⟩ = false := by
  have hr : (rwR l)[i]? = some (enR r) := by rw [rwR, List.getElem?_map, hi]; rfl
  exact ⟨⟨(own_at h.2 hr 0 rfl).1, (own_at h.2 hr 1 rfl).1⟩, (own_at h.2 hr 0 rfl).2, (own_at h.2 hr 1 rfl).2⟩
theorem rwR_set (l : List Rw) (i : Nat) (x : Rw) : rwR (l.set i x) = (rwR l).set i (enR x) := by rw [rwR, List.map_set]; rfl
theorem there_key {l : List Rw} {key : ByteArray} (h : there tx key l = true) : ∃ n, l[low tx key l]? = some (key, n) := by
  unfold there at h
  cases hg : l[low tx key l]? with
  | none => rw [hg] at h; cases h
  | some r =>
    rw [hg] at h
    have : r.1 = key := of_decide_eq_true h
    exact ⟨r.2, by rw [← this]⟩

set_option maxHeartbeats 1000000 in
theorem cAt (p : Nat) (v : Value) (l : List Rw) (key : ByteArray) (w : World) (hF : CeF w p v l) (hup : Up tx l) (hl : l.length ≤ 1000000) :
    Calls Tryz.prog 56 #[.pointer (some ⟨p, 0, none⟩), .string key] w (AtCPost (low tx key l) (there tx key l) w) := by
  refine via fun Q hQ => ?_
  have c0 := hF.1.at_ 0 rfl
  obtain ⟨A, c, hv, hc, _, hr⟩ := hF.2.slv'
  rw [rwR_len] at hv hc
  subst hv
  have HC := Lib.hid (bsfC A c l key w hr hup hl hc)
  clear hF hr hup
  go_enter Tryz.func56, Tryz.ntmps56
  go_wp2_with fail
  refine HC.out.mono ?_
  rintro e w1 ⟨rfl, hb⟩
  have HB := Lib.hid hb
  clear hb HC
  go_wp2
  exact ⟨rfl, HB.out⟩

def GetPost (g : Option Int) (w : World) (e : Ending) (w' : World) : Prop := e = .returned (.tuple #[.int .i64 (g.getD 0), .bool g.isSome]) ∧ Below w.heap.size w w'
set_option maxHeartbeats 1000000 in
theorem cGet (p : Nat) (v : Value) (l : List Rw) (key : ByteArray) (w : World) (hF : CeF w p v l) (hup : Up tx l) (hl : l.length ≤ 1000000) :
    Calls Tryz.prog 59 #[.pointer (some ⟨p, 0, none⟩), .string key] w (GetPost (get key l) w) := by
  refine via fun Q hQ => ?_
  have HA := Lib.hid (cAt p v l key w hF hup hl)
  have hg := get_there tx (k := key) hup
  have HF := Lib.hid hF
  clear hF
  cases ht : there tx key l with
  | false =>
    rw [ht] at HA hg
    rw [if_neg (by simp)] at hg
    generalize low tx key l = k at HA
    have HG := Lib.hid hg
    clear hg ht hup
    go_enter Tryz.func59, Tryz.ntmps59
    go_wp2_with fail
    refine HA.out.mono ?_
    rintro e w1 ⟨rfl, hb⟩
    have HB := Lib.hid hb
    clear hb HA
    go_wp2
    exact ⟨by rw [HG.out]; rfl, HB.out⟩
  | true =>
    obtain ⟨n, hn⟩ := there_key ht
    rw [ht] at HA hg
    rw [if_pos rfl, hn] at hg
    generalize low tx key l = k at HA hn
    have hkl := (List.getElem?_eq_some_iff.1 hn).1
    obtain ⟨g, c, rfl, hc, _⟩ := own_some HF.out.2 (by intro e; exact absurd (show l.length = 0 from by have h9 := congrArg List.length e; rwa [rwR_len] at h9) (by omega))
    rw [rwR_len] at HF hc
    have HG := Lib.hid hg
    have HN := Lib.hid hn
    clear hg ht hup hn
    go_enter Tryz.func59, Tryz.ntmps59
    go_wp2_with fail
    refine HA.out.mono ?_
    rintro e w1 ⟨rfl, hb⟩
    have hF1 := HF.out.below hb
    have c0 := hF1.1.at_ 0 rfl
    obtain ⟨⟨_, c2⟩, _, _⟩ := hF1.cells HN.out
    simp only at c2
    have HB := Lib.hid hb
    clear hb HA hF1
    go_wp2
    exact ⟨by rw [HG.out]; rfl, HB.out⟩

def RowsPost (l : List Rw) (w : World) (e : Ending) (w' : World) : Prop := ∃ v, e = .returned v ∧ Own w' w.heap.size 61 2 v (rwR l) ∧ Below w.heap.size w w'
set_option maxHeartbeats 1000000 in
theorem cRows (p : Nat) (v : Value) (l : List Rw) (w : World) (hF : CeF w p v l) (hl : l.length ≤ 1000000) : Calls Tryz.prog 38 #[.pointer (some ⟨p, 0, none⟩)] w (RowsPost l w) := by
  have c0 := hF.1.at_ 0 rfl
  have HC := Lib.hid (clR_own v (rwR l) w hF.2 (rwR_one l) (by rw [rwR_len]; omega))
  clear hF
  refine via fun Q hQ => ?_
  go_enter Tryz.func38, Tryz.ntmps38
  go_wp2_with fail
  refine HC.out.mono ?_
  rintro e w1 ⟨v1, rfl, ho, hb⟩
  have HO := Lib.hid ho
  have HB := Lib.hid hb
  clear ho hb HC
  go_wp2
  exact ⟨v1, rfl, HO.out, HB.out⟩

def NewCPost (ls : List Part) (l : List Rw) (e : Ending) (w' : World) : Prop := ∃ p : Nat, e = .returned (.pointer (some ⟨p, 0, none⟩)) ∧ Sat (ceP p l :: ls) w'
set_option maxHeartbeats 1000000 in
theorem cCopy (p : Nat) (l : List Rw) (ls : List Part) (w : World) (h : Sat (ceP p l :: ls) w) (hl : l.length ≤ 1000000) : Calls Tryz.prog 49 #[.pointer (some ⟨p, 0, none⟩)] w (NewCPost (ceP p l :: ls) l) := by
  obtain ⟨v, hF, h2⟩ := h.ceF
  have c0 := hF.1.at_ 0 rfl
  have HC := Lib.hid (clR_own v (rwR l) w hF.2 (rwR_one l) (by rw [rwR_len]; omega))
  have H := Lib.hid h
  clear h hF h2
  refine via fun Q hQ => ?_
  go_enter Tryz.func49, Tryz.ntmps49
  go_wp2_with fail
  refine HC.out.mono ?_
  rintro e w1 ⟨v1, rfl, ho, hb⟩
  obtain ⟨A1, c1, hv1, _, _, _⟩ := ho.slv'
  rw [rwR_len] at hv1
  subst hv1
  have hS := H.out.made hb ho
  have HS := Lib.hid (hS.alloc #[.slice A1 l.length c1] 88).shutO
  clear ho hb HC hS
  go_wp2_with fail
  exact ⟨_, rfl, HS.out⟩
end Go.Proofs.YtigffdmpofcdgaaGreatDoor
end

section
set_option linter.unusedVariables false
set_option maxRecDepth 100000
namespace Go.Proofs.YtigffdmpofcdgaaGreatDoor
open Go.Proofs.BL Go.Proofs.Peel Go.RowKit Go.Proofs.Ky

def setC (key : ByteArray) (n : Int) (l : List Rw) : List Rw × List Lk := match setP tx key n l with | some m => (m, []) | none => (l, [.bnd 256 ((l.length : Int) + 1), .num 5])
def SetPost (p : Nat) (ls : List Part) (r : List Rw × List Lk) (e : Ending) (w' : World) : Prop := ∃ v, e = .returned v ∧ Chn w' v r.2 ∧ Sat (ceP p r.1 :: ls) w'
set_option maxHeartbeats 4000000 in
theorem cSet (p : Nat) (l : List Rw) (key : ByteArray) (n : Int) (ls : List Part) (w : World) (h : Sat (ceP p l :: ls) w) (hup : Up tx l) (hl : l.length ≤ 256) :
    Calls Tryz.prog 48 #[.pointer (some ⟨p, 0, none⟩), .string key, .int .i64 n] w (SetPost p ls (setC key n l)) := by
  obtain ⟨v, hF, h2⟩ := h.ceF
  refine via fun Q hQ => ?_
  have HA := Lib.hid (cAt p v l key w hF hup (by omega))
  have hsc : setC key n l = if there tx key l then (l.set (low tx key l) (key, n), []) else if 256 ≤ l.length then (l, [.bnd 256 ((l.length : Int) + 1), .num 5]) else (l.take (low tx key l) ++ (key, n) :: l.drop (low tx key l), []) := by
    unfold setC setP
    split
    · rename_i m hm
      split at hm
      · rename_i h1; rw [if_pos h1]; injection hm with hm; rw [hm]
      · rename_i h1
        rw [if_neg h1]
        split at hm
        · cases hm
        · rename_i h2; rw [if_neg h2]; injection hm with hm; rw [hm]
    · rename_i hm
      split at hm
      · cases hm
      · rename_i h1
        rw [if_neg h1]
        split at hm
        · rename_i h2; rw [if_pos h2]
        · cases hm
  have hlow := low_le tx key l
  have HF := Lib.hid hF
  have H := Lib.hid h
  have H2 := Lib.hid h2
  clear hF h h2
  cases ht : there tx key l with
  | true =>
    obtain ⟨n0, hn⟩ := there_key ht
    rw [ht] at HA hsc
    rw [if_pos rfl] at hsc
    rw [hsc] at hQ
    generalize low tx key l = k at HA hn hQ hlow
    have hkl := (List.getElem?_eq_some_iff.1 hn).1
    obtain ⟨g, c, rfl, hc, _⟩ := own_some HF.out.2 (by intro e; exact absurd (show l.length = 0 from by have h9 := congrArg List.length e; rwa [rwR_len] at h9) (by omega))
    rw [rwR_len] at HF hc H2
    have HN := Lib.hid hn
    clear ht hup hn hsc
    go_enter Tryz.func48, Tryz.ntmps48
    go_wp2_with fail
    refine HA.out.mono ?_
    rintro e w1 ⟨rfl, hb⟩
    have hF1 := HF.out.below hb
    have c0 := hF1.1.at_ 0 rfl
    obtain ⟨⟨_, c2⟩, _, f2⟩ := hF1.cells HN.out
    simp only at c2
    have hxr : (rwR l)[k]? = some (enR (key, n0)) := by rw [rwR, List.getElem?_map, HN.out]; rfl
    have hS3 := ((H2.out.below hb).s1.setOwn hxr 1 (by decide) (.int .i64 n)).s1.shutO
    rw [show (rwR l).set k ((enR (key, n0)).set 1 (.int .i64 n)) = rwR (l.set k (key, n)) from (rwR_set l k (key, n)).symm] at hS3
    have HS3 := Lib.hid hS3
    clear hb HA hF1 hS3 hxr
    go_wp2
    exact ⟨.nilIface, rfl, rfl, HS3.out⟩
  | false =>
    rw [ht] at HA hsc
    rw [if_neg (by simp)] at hsc
    generalize low tx key l = k at HA hQ hlow hsc
    by_cases hfull : 256 ≤ l.length
    · rw [if_pos hfull] at hsc
      rw [hsc] at hQ
      obtain ⟨A, c, hv, hc, _, _⟩ := HF.out.2.slv'
      rw [rwR_len] at hv hc
      subst hv
      clear ht hup hsc
      go_enter Tryz.func48, Tryz.ntmps48
      go_wp2_with fail
      refine HA.out.mono ?_
      rintro e w1 ⟨rfl, hb⟩
      have c0 := (HF.out.below hb).1.at_ 0 rfl
      have HS1 := Lib.hid (H.out.below hb)
      have hNew : ∀ x, Keep w1 ⟨p, 0, none⟩ (.slice A l.length c) x ∧ World.cell? x ⟨p, 0, none⟩ = some (.slice A l.length c) → Calls Tryz.prog 54 #[.int .i64 5] x (fun e x' => ∃ v, e = .returned v ∧ Chn x' v [.num 5] ∧ Keep w1 ⟨p, 0, none⟩ (.slice A l.length c) x' ∧ World.cell? x' ⟨p, 0, none⟩ = some (.slice A l.length c)) := fun x hx =>
        (fnew 5 x).mono fun e x' ⟨v, h1, h2, h3⟩ => ⟨v, h1, by simpa using h2, hx.1.below h3, (hx.1.below h3).2⟩
      have hBd : ∀ x v, Keep w1 ⟨p, 0, none⟩ (.slice A l.length c) x ∧ World.cell? x ⟨p, 0, none⟩ = some (.slice A l.length c) → Chn x v [.num 5] → Calls Tryz.prog 57 #[.int .i64 256, .int .i64 ((l.length : Int) + 1), v] x (fun e x' => ∃ v', e = .returned v' ∧ Chn x' v' [.bnd 256 ((l.length : Int) + 1), .num 5] ∧ Keep w1 ⟨p, 0, none⟩ (.slice A l.length c) x' ∧ World.cell? x' ⟨p, 0, none⟩ = some (.slice A l.length c)) := fun x v hx hv =>
        (fbound 256 ((l.length : Int) + 1) v _ x hv).mono fun e x' ⟨v', h1, h2, h3⟩ => ⟨v', h1, by simpa using h2, hx.1.below h3, (hx.1.below h3).2⟩
      have hd : Keep w1 ⟨p, 0, none⟩ (.slice A l.length c) w1.drew ∧ w1.drew.cell? ⟨p, 0, none⟩ = some (.slice A l.length c) := ⟨(Keep.start c0).below (drew_below _ 1), c0⟩
      have HN := Lib.hid hNew
      have HD := Lib.hid hBd
      clear hNew hBd hb HA
      have hw1 : IntKind.i64.wrap ((l.length : Int) + 1) = (l.length : Int) + 1 := by rw [IntKind.wrap_i64]; omega
      go_wp2_with fail
      go_region_held3 (fun x => Keep w1 ⟨p, 0, none⟩ (.slice A l.length c) x ∧ x.cell? ⟨p, 0, none⟩ = some (.slice A l.length c)) ((first | assumption | exact hd)) ((first | (go_at_call 54; refine (HN.out _ (by assumption)).mono ?_; rintro e x1 ⟨v1, rfl, hc1, hx1⟩) | (go_at_call 57; refine (HD.out _ _ (by assumption) (by assumption)).mono ?_; rintro e x2 ⟨v2, rfl, hc2, hx2⟩)))
      have HC2 := Lib.hid hc2
      have HB2 := Lib.hid hx2.1.1
      clear hc2 hx2 hc1 hx1 hd
      go_wp2
      exact ⟨v2, rfl, HC2.out, HS1.out.below HB2.out⟩
    · rw [if_neg hfull] at hsc
      rw [hsc] at hQ
      obtain ⟨A, c, hv, hc, _, _⟩ := HF.out.2.slv'
      rw [rwR_len] at hv hc
      clear ht hup hsc
      subst hv
      go_enter Tryz.func48, Tryz.ntmps48
      go_wp2_with fail
      refine HA.out.mono ?_
      rintro e w1 ⟨rfl, hb⟩
      have c0 := (HF.out.below hb).1.at_ 0 rfl
      have hS := (H2.out.below hb)
      have hS2 := hS.below ((Below.refl w1.heap.size w1).alloc (Nat.le_refl _) (.cells #[.string key, .int .i64 n] 61))
      have hne : (Value.slice A l.length c).ownBlock ≠ some w1.heap.size := fun e => absurd (hS.s1.own_.1.lt _ e).2 (by omega)
      have HI := Lib.hid (insR_own 0 (.slice A l.length c) (rwR l) k w1.heap.size (enR (key, n)) _ hS2.s1.own_ (Nat.zero_le _) (by rw [rwR_len]; omega) (rwR_one l) (Blk.new w1 _ _) rfl (enR_one _) hne (by rw [rwR_len]; omega))
      have HS2 := Lib.hid hS2
      clear hS hS2 hne hb HA
      go_wp2_with fail
      refine HI.out.mono ?_
      rintro e w2 ⟨v', rfl, h2, h3, h4⟩
      have hS3 := (HS2.out.s1.grown h2 h3 h4).s1
      have he : (rwR l).take k ++ enR (key, n) :: (rwR l).drop k = rwR (l.take k ++ (key, n) :: l.drop k) := by
        rw [rwR, rwR, List.map_append, List.map_cons, List.map_take, List.map_drop]
      rw [he] at hS3
      obtain ⟨g', c', rfl, _, _⟩ := own_some hS3.s1.own_ (by simp [rwR])
      have d0 := hS3.blk_.at_ 0 rfl
      have f0 := hS3.blk_.free 0
      have HS4 := Lib.hid (hS3.set 0 (.slice (some ⟨g', 0, none⟩) (rwR (l.take k ++ (key, n) :: l.drop k)).length c')).shutO
      clear h2 h3 h4 hS3 he c0 HI
      generalize (rwR (l.take k ++ (key, n) :: l.drop k)).length = ln at *
      go_wp2
      exact ⟨.nilIface, rfl, rfl, HS4.out⟩
end Go.Proofs.YtigffdmpofcdgaaGreatDoor
end

section
set_option linter.unusedVariables false
set_option maxRecDepth 100000
namespace Go.Proofs.YtigffdmpofcdgaaGreatDoor
open Go.Proofs.BL Go.Proofs.Peel Go.RowKit Go.Proofs.Ky

theorem map_erase {α β : Type} (f : α → β) : ∀ (l : List α) (k : Nat), (l.map f).eraseIdx k = (l.eraseIdx k).map f
  | [], k => by simp
  | x :: l, 0 => rfl
  | x :: l, k + 1 => by rw [List.map_cons, List.eraseIdx_cons_succ, List.eraseIdx_cons_succ, List.map_cons, map_erase f l k]
def DropPost (p : Nat) (ls : List Part) (l : List Rw) (e : Ending) (w' : World) : Prop := e = .returned (.tuple #[]) ∧ Sat (ceP p l :: ls) w'
set_option maxHeartbeats 4000000 in
theorem cDrop (p : Nat) (l : List Rw) (key : ByteArray) (ls : List Part) (w : World) (h : Sat (ceP p l :: ls) w) (hup : Up tx l) (hl : l.length ≤ 256) :
    Calls Tryz.prog 62 #[.pointer (some ⟨p, 0, none⟩), .string key] w (DropPost p ls (dropP tx key l)) := by
  obtain ⟨v, hF, h2⟩ := h.ceF
  refine via fun Q hQ => ?_
  have HA := Lib.hid (cAt p v l key w hF hup (by omega))
  have hdp : dropP tx key l = if there tx key l then l.eraseIdx (low tx key l) else l := rfl
  have HF := Lib.hid hF
  have H := Lib.hid h
  have H2 := Lib.hid h2
  clear hF h h2
  cases ht : there tx key l with
  | true =>
    obtain ⟨n0, hn⟩ := there_key ht
    rw [ht] at HA hdp
    rw [if_pos rfl] at hdp
    rw [hdp] at hQ
    generalize low tx key l = k at HA hn hQ
    have hkl := (List.getElem?_eq_some_iff.1 hn).1
    obtain ⟨A, c, hv, hc, _, _⟩ := HF.out.2.slv'
    rw [rwR_len] at hv hc
    subst hv
    clear ht hup hn hdp
    have hw1 : IntKind.i64.wrap ((k : Int) + 1) = (k : Int) + 1 := by rw [IntKind.wrap_i64]; omega
    go_enter Tryz.func62, Tryz.ntmps62
    go_wp2_with fail
    refine HA.out.mono ?_
    rintro e w1 ⟨rfl, hb⟩
    have c0 := (HF.out.below hb).1.at_ 0 rfl
    have hS := H2.out.below hb
    have HI := Lib.hid (delR_own 0 (.slice A l.length c) (rwR l) k _ hS.s1.own_ (by rw [rwR_len]; exact hkl) (rwR_one l))
    have HS2 := Lib.hid hS
    clear hS hb HA
    go_wp2_with fail
    refine HI.out.mono ?_
    rintro e w2 ⟨v', rfl, h2, h3, h4⟩
    have hS3 := (HS2.out.s1.grown h2 h3 (fun k h => .inl (h4 ▸ h))).s1
    have he : (rwR l).eraseIdx k = rwR (l.eraseIdx k) := map_erase enR l k
    rw [he] at hS3
    obtain ⟨A', c', hv', _⟩ := hS3.s1.own_.slv'
    rw [rwR_len] at hv'
    subst hv'
    have d0 := hS3.blk_.at_ 0 rfl
    have f0 := hS3.blk_.free 0
    have HS4 := Lib.hid (hS3.set 0 (.slice A' (l.eraseIdx k).length c')).shutO
    clear h2 h3 h4 hS3 he c0 HI
    generalize (l.eraseIdx k).length = ln at *
    go_wp2
    refine Great.bodyPost_end0 rfl rfl ?_
    exact hQ _ _ ⟨rfl, HS4.out⟩
  | false =>
    rw [ht] at HA hdp
    rw [if_neg (by simp)] at hdp
    rw [hdp] at hQ
    generalize low tx key l = k at HA
    clear ht hup hdp
    go_enter Tryz.func62, Tryz.ntmps62
    go_wp2_with fail
    refine HA.out.mono ?_
    rintro e w1 ⟨rfl, hb⟩
    have HS1 := Lib.hid (H.out.below hb)
    clear hb HA
    go_wp2
    refine Great.bodyPost_end0 rfl rfl ?_
    exact hQ _ _ ⟨rfl, HS1.out⟩

def okK (k : ByteArray) : Bool := decide (k.size ≤ 16)
theorem setC_one (key : ByteArray) (n : Int) (l : List Rw) : (setC key n l).1 = (setP tx key n l).getD l := by
  unfold setC
  cases setP tx key n l <;> rfl
theorem new_next (rows : List Rw) (l : List Rw) {j : Nat} {r : Rw} (h : rows[j]? = some r) : newP tx okK (rows.take (j + 1)) l = if okK r.1 then (setC r.1 r.2 (newP tx okK (rows.take j) l)).1 else newP tx okK (rows.take j) l := by
  have hj := (List.getElem?_eq_some_iff.1 h).1
  have e : rows[j] = r := (List.getElem?_eq_some_iff.1 h).2
  unfold newP
  rw [List.take_succ_eq_append_getElem hj, List.foldl_append, e, setC_one]
  rfl
theorem fit_new (rows l : List Rw) (h : Fit tx l) : Fit tx (newP tx okK rows l) := by
  have := new_same tx okK rows l h
  rw [this.1]
  exact this.2
theorem fit_nil : Fit tx ([] : List Rw) := ⟨List.Pairwise.nil, by simp⟩

set_option maxHeartbeats 4000000 in
theorem cNew (A : Option Addr) (c : Nat) (rows : List Rw) (ls : List Part) (w : World) (h : Sat (roR 2 A (rwR rows) :: ls) w) (hl : rows.length ≤ 1000000) (hc : rows.length ≤ c) :
    Calls Tryz.prog 35 #[.slice A rows.length c] w (NewCPost (roR 2 A (rwR rows) :: ls) (newP tx okK rows [])) := by
  refine via fun Q hQ => ?_
  have hS0 := ((h.nilR 61 2).below ((Below.refl w.heap.size w).alloc (Nat.le_refl _) (.cells #[.slice none 0 0] 88)))
  have hS1 := (h.alloc #[.slice none 0 0] 88)
  have hS2 : Sat (ceP w.heap.size [] :: roR 2 A (rwR rows) :: ls) (w.alloc (.cells #[.slice none 0 0] 88)) := ((hS1.nilR 61 2).s1).shutO
  have HS := Lib.hid hS2
  clear hS0 hS1 hS2 h
  generalize hn : rows.length = n at *
  have HNL := Lib.hid hn
  clear hn
  generalize hp : w.heap.size = p at *
  have HP := Lib.hid hp
  clear hp
  go_enter Tryz.func35, Tryz.ntmps35
  go_wp2_with fail
  have hp := HP.out
  subst hp
  generalize w.heap.size = p at *
  generalize w.alloc (.cells #[.slice none 0 0] 88) = wa at *
  go_loopg [10] n (fun g x wr => ∃ j : Nat, j ≤ n ∧ g = n - j ∧ x = .int .i64 j ∧ Hid (Sat (ceP p (newP tx okK (rows.take j) []) :: roR 2 A (rwR rows) :: ls) wr))
  case atStart => exact ⟨0, Nat.zero_le _, rfl, rfl, HS⟩
  case round =>
    obtain ⟨j, hj, rfl, rfl, HR⟩ := hrel
    by_cases hlt : j < n
    · have hx : rows[j]? = some (rows[j]'(by rw [HNL.out]; exact hlt)) := List.getElem?_eq_getElem _
      generalize rows[j]'(by rw [HNL.out]; exact hlt) = r at hx
      obtain ⟨key, nn⟩ := r
      obtain ⟨b, o, hA, c1, c2⟩ := rowAt HR.out.s1.rows_ hx
      subst hA
      simp only at c1 c2
      have hnx := new_next rows [] hx
      have hfit := fit_new (rows.take j) [] fit_nil
      have HX := Lib.hid hx
      generalize newP tx okK (rows.take j) [] = l at HR hnx hfit
      have HFit := Lib.hid hfit
      clear hx hfit
      by_cases hk : key.size ≤ 16
      · rw [if_pos (show okK key = true from decide_eq_true hk)] at hnx
        have HSr := Lib.hid (HR.out.below ((Below.refl wr.heap.size wr).alloc (Nat.le_refl _) (.cells #[.string key, .int .i64 nn] 61)))
        have HC := Lib.hid (cSet p l key nn (roR 2 (some ⟨b, o, none⟩) (rwR rows) :: ls) _ HSr.out HFit.out.1 HFit.out.2)
        have HNX := Lib.hid hnx
        have hk2 : (key.size : Int) ≤ 16 := by omega
        clear hnx
        go_wp2_with fail
        refine HC.out.mono ?_
        rintro e w2 ⟨v2, rfl, _, hS3⟩
        have HS3 := Lib.hid hS3
        clear hS3 HC
        go_wp2_with fail
        go_roundg (n - (j + 1))
        case measure => omega
        case rel => exact ⟨j + 1, by omega, rfl, rfl, Lib.hid (by rw [HNX.out]; exact HS3.out)⟩
      · rw [if_neg (show ¬ okK key = true from fun e => hk (of_decide_eq_true e))] at hnx
        have HSr := Lib.hid (HR.out.below ((Below.refl wr.heap.size wr).alloc (Nat.le_refl _) (.cells #[.string key, .int .i64 nn] 61)))
        have HNX := Lib.hid hnx
        have hk2 : ¬ (key.size : Int) ≤ 16 := by omega
        clear hnx
        go_wp2_with fail
        go_roundg (n - (j + 1))
        case measure => omega
        case rel => exact ⟨j + 1, by omega, rfl, rfl, Lib.hid (by rw [HNX.out]; exact HSr.out)⟩
    · obtain rfl : j = n := by omega
      have hS := HR.out
      rw [List.take_of_length_le (by rw [HNL.out]; exact Nat.le_refl _)] at hS
      have HS := Lib.hid hS
      clear hS
      go_wp2
      exact ⟨p, rfl, HS.out⟩
end Go.Proofs.YtigffdmpofcdgaaGreatDoor
end
