/- Package cells: changes, Apply. Package cells: Apply, walked. Package cells: Diff, walked. The law's Changes, Ours, Plain, alike of chapter 7. The document's Apply and Diff of chapter 7. The document's Diff of chapter 7. What CellsChanges asks, plain. CellsMost: keys of two letters, rows one by one. Plain.. CellsMost: rows put one by one. Plain. CellsMost, walked. CellsMost: there are 256 rows at most, whichever way they come: for every argument the law's call returns true and leaves its arguments as they were. Conditions: none beyond the given statement's own. -/
import Derived.Test.YticgnakjnhdfhaaDoorJE
import Derived.Test.YticgnakjnhdfhaaDoorJL
import Derived.Shelf.Abstract
import Derived.Test.YticgnakjnhdfhaaDoorJP
import Derived.Test.YticgnakjnhdfhaaDoorJW
section
set_option linter.unusedVariables false
set_option maxRecDepth 100000
namespace Go.Proofs.YticgnakjnhdfhaaDoor
open Go.Proofs.BL Go.Proofs.Peel Go.RowKit Go.Proofs.Ky

abbrev Cg := Chg ByteArray
def enC (c : Cg) : List Value := [.string c.1, .int .i64 c.2.1, .bool c.2.2]
def rwC (l : List Cg) : List (List Value) := l.map enC
theorem rwC_len (l : List Cg) : (rwC l).length = l.length := by simp [rwC]
theorem enC_one (c : Cg) : ∀ u ∈ enC c, u.oneCell' = true := fun u hu => by
  simp [enC] at hu
  rcases hu with rfl | rfl | rfl <;> rfl
theorem rwC_three (l : List Cg) : ∀ r, r ∈ rwC l → r.length = 3 := fun r hr => by obtain ⟨x, _, rfl⟩ := List.mem_map.1 hr; rfl
theorem chAt {w : World} {A : Option Addr} {l : List Cg} (h : RowsAt w 3 A (rwC l)) {i : Nat} {r : Cg} (hi : l[i]? = some r) :
    ∃ b o, A = some ⟨b, o, none⟩ ∧ w.cell? ⟨b, o + i * 3, none⟩ = some (.string r.1) ∧ w.cell? ⟨b, o + i * 3 + 1, none⟩ = some (.int .i64 r.2.1) ∧ w.cell? ⟨b, o + i * 3 + 2, none⟩ = some (.bool r.2.2) := by
  obtain ⟨b, o, e, hc⟩ := h i (enC r) (by rw [rwC, List.getElem?_map, hi]; rfl)
  exact ⟨b, o, e, hc 0 _ rfl, hc 1 _ rfl, hc 2 _ rfl⟩
def IdxCPost (b : Bool) (w : World) (e : Ending) (w' : World) : Prop := ∃ z : Int, e = .returned (.int .i64 z) ∧ decide (z ≥ 0) = b ∧ Below w.heap.size w w'
def AnyCPost (b : Bool) (w : World) (e : Ending) (w' : World) : Prop := e = .returned (.bool b) ∧ Below w.heap.size w w'
/-- A function value tells something of each element. -/
def PredC (g : FuncId) (lb : Array Value) (p : Cg → Bool) (l : List Cg) (w : World) : Prop :=
  ∀ o ∈ l, ∀ W, Below w.heap.size w W → Calls Tryd.prog g (#[.agg (enC o).toArray] ++ lb) W (AnyCPost (p o) W)
theorem any_nextC {p : Cg → Bool} {l : List Cg} {j : Nat} {r : Cg} (hx : l[j]? = some r) (h : (l.take j).any p = false) : (p r = true → l.any p = true) ∧ (p r = false → (l.take (j + 1)).any p = false) := by
  have hj := (List.getElem?_eq_some_iff.1 hx).1
  have e : l[j] = r := (List.getElem?_eq_some_iff.1 hx).2
  refine ⟨fun hp => List.any_eq_true.2 ⟨r, List.mem_of_getElem? hx, hp⟩, fun hp => ?_⟩
  rw [List.take_succ_eq_append_getElem hj, List.any_append, h, e]
  simp [hp]
set_option maxHeartbeats 2000000 in
theorem idxC (g : FuncId) (lb : Array Value) (eg : ∀ args w, (callFunc g args).run Tryd.prog w = .ok (.enter g args) w) (p : Cg → Bool) (A : Option Addr) (c : Nat) (l : List Cg) (w : World) (hr : RowsAt w 3 A (rwC l)) (hl : l.length ≤ 1000000) (hp : PredC g lb p l w) :
    Calls Tryd.prog 70 #[.slice A l.length c, .func (.func g) #[] lb] w (IdxCPost (l.any p) w) := by
  refine via fun Q hQ => ?_
  have HR := Lib.hid hr
  have HP := Lib.hid hp
  clear hr hp
  generalize hn : l.length = n at *
  have HNL := Lib.hid hn
  clear hn
  go_enter Tryd.func70, Tryd.ntmps70
  go_wp2_with fail
  go_loopg [8] n (fun d x wr => ∃ j : Nat, j ≤ n ∧ d = n - j ∧ x = .int .i64 j ∧ Hid ((l.take j).any p = false) ∧ Hid (Below w.heap.size w wr))
  case atStart => exact ⟨0, Nat.zero_le _, rfl, rfl, Lib.hid rfl, Lib.hid (Below.refl _ _)⟩
  case round =>
    obtain ⟨j, hj, rfl, rfl, HT, HB⟩ := hrel
    by_cases hlt : j < n
    · have hx : l[j]? = some (l[j]'(by rw [HNL.out]; exact hlt)) := List.getElem?_eq_getElem _
      generalize l[j]'(by rw [HNL.out]; exact hlt) = r at hx
      obtain ⟨b, o, hA, c1, c2, c3⟩ := chAt (HR.out.below HB.out) hx
      subst hA
      have hnx := any_nextC hx HT.out
      have hcall := HP.out r (List.mem_of_getElem? hx) wr HB.out
      generalize p r = z at hcall hnx
      obtain ⟨rk, rn, rt⟩ := r
      simp only [enC] at hcall c1 c2 c3
      have HNX := Lib.hid hnx
      have HCall := Lib.hid hcall
      clear hx hnx hcall
      go_wp2_with fail
      refine HCall.out.mono ?_
      rintro e w2 ⟨rfl, hb2⟩
      have HB2 := Lib.hid (below_then HB.out hb2)
      clear hb2 HCall
      cases z with
      | true =>
        have HE := Lib.hid (HNX.out.1 rfl)
        go_wp2_with fail
        exact ⟨j, rfl, by rw [HE.out]; exact decide_eq_true (by omega), HB2.out⟩
      | false =>
        have HE := Lib.hid (HNX.out.2 rfl)
        go_wp2_with fail
        go_roundg (n - (j + 1))
        case measure => omega
        case rel => exact ⟨j + 1, by omega, rfl, rfl, HE, HB2⟩
    · obtain rfl : j = n := by omega
      have hT := HT.out
      rw [List.take_of_length_le (by rw [HNL.out]; exact Nat.le_refl _)] at hT
      have HE := Lib.hid hT
      clear hT
      go_wp2
      exact ⟨-1, rfl, by rw [HE.out]; rfl, HB.out⟩
set_option maxHeartbeats 1000000 in
theorem anyC (g : FuncId) (lb : Array Value) (eg : ∀ args w, (callFunc g args).run Tryd.prog w = .ok (.enter g args) w) (p : Cg → Bool) (A : Option Addr) (c : Nat) (l : List Cg) (w : World) (hr : RowsAt w 3 A (rwC l)) (hl : l.length ≤ 1000000) (hp : PredC g lb p l w) :
    Calls Tryd.prog 49 #[.slice A l.length c, .func (.func g) #[] lb] w (AnyCPost (l.any p) w) := by
  refine via fun Q hQ => ?_
  have HI := Lib.hid (idxC g lb eg p A c l w hr hl hp)
  clear hr hp
  go_enter Tryd.func49, Tryd.ntmps49
  go_wp2_with fail
  refine HI.out.mono ?_
  rintro e w1 ⟨z, rfl, hz, hb⟩
  have HB := Lib.hid hb
  have HZ := Lib.hid hz
  clear hb hz HI
  go_wp2
  exact ⟨by rw [← HZ.out]; rfl, HB.out⟩

def mayC (c : Cg) : Bool := decide (c.1.size ≤ 16) && (c.2.2 || decide (c.2.1 = 0))
set_option maxHeartbeats 2000000 in
theorem mayCh (k : ByteArray) (n : Int) (t : Bool) (W : World) : Calls Tryd.prog 51 #[.agg #[.string k, .int .i64 n, .bool t]] W (AnyCPost (mayC (k, n, t)) W) := by
  have hm : mayC (k, n, t) = (decide (k.size ≤ 16) && (t || decide (n = 0))) := rfl
  refine via fun Q hQ => ?_
  rw [hm] at hQ
  have HB := Lib.hid (show Below W.heap.size W (W.alloc (.cells #[.string k, .int .i64 n, .bool t] 57)) from (Below.refl _ _).alloc (Nat.le_refl _) _)
  by_cases hk : k.size ≤ 16
  · have hk2 : (k.size : Int) ≤ 16 := by omega
    rw [decide_eq_true hk] at hQ
    cases t with
    | true =>
      clear hm
      go_enter Tryd.func51, Tryd.ntmps51
      go_wp2_with fail
      first | exact ⟨rfl, HB.out⟩ | exact hQ _ _ ⟨rfl, HB.out⟩
    | false =>
      by_cases hn : n = 0
      · subst hn
        clear hm
        go_enter Tryd.func51, Tryd.ntmps51
        go_wp2_with fail
        first | exact ⟨rfl, HB.out⟩ | exact hQ _ _ ⟨rfl, HB.out⟩
      · have hnb : (n == 0) = false := int_diff hn
        rw [decide_eq_false hn] at hQ
        clear hm hn
        go_enter Tryd.func51, Tryd.ntmps51
        go_wp2_with fail
        first | exact ⟨rfl, HB.out⟩ | exact hQ _ _ ⟨rfl, HB.out⟩
  · have hk2 : decide ((k.size : Int) ≤ 16) = false := decide_eq_false (by omega)
    rw [decide_eq_false hk] at hQ
    clear hm hk
    go_enter Tryd.func51, Tryd.ntmps51
    go_wp2_with fail
    first | exact ⟨rfl, HB.out⟩ | exact hQ _ _ ⟨rfl, HB.out⟩
set_option maxHeartbeats 1000000 in
theorem apply1 (c : Cg) (W : World) : Calls Tryd.prog 50 (#[.agg (enC c).toArray] ++ #[]) W (AnyCPost (!(mayC c)) W) := by
  obtain ⟨k, n, t⟩ := c
  have hal : Below W.heap.size W (W.alloc (.cells #[.string k, .int .i64 n, .bool t] 57)) := (Below.refl _ _).alloc (Nat.le_refl _) _
  have HB := Lib.hid hal
  have HM := Lib.hid (mayCh k n t (W.alloc (.cells #[.string k, .int .i64 n, .bool t] 57)))
  generalize mayC (k, n, t) = z at *
  clear hal
  refine via fun Q hQ => ?_
  show Calls Tryd.prog 50 #[.agg #[.string k, .int .i64 n, .bool t]] W Q
  go_enter Tryd.func50, Tryd.ntmps50
  go_wp2_with fail
  (with_reducible refine HM.out.mono ?_)
  rintro e w1 ⟨rfl, hb⟩
  have HB1 := Lib.hid (below_then HB.out hb)
  clear hb HM
  go_wp2_with fail
  exact ⟨rfl, HB1.out⟩
/-- One change: the rows behind it, what is wrong. -/
def chV (c : Cg) (l : List Rw) : List Rw × List Lk := if c.2.2 then setC c.1 c.2.1 l else (dropP tx c.1 l, [])
def appV (l : List Rw) (cs : List Cg) : List Rw × Int :=
  if cs.any (fun c => !(mayC c)) then (l, 2) else match appP tx l cs with | some m => (m, 0) | none => (l, 5)
theorem chV_ok {c : Cg} {l : List Rw} (h : (chV c l).2 = []) (cs : List Cg) : appP tx l (c :: cs) = appP tx (chV c l).1 cs := by
  obtain ⟨k, n, t⟩ := c
  unfold chV at *
  simp only [appP]
  cases t with
  | false => rfl
  | true =>
    simp only [if_true] at h ⊢
    unfold setC at *
    cases hs : setP tx k n l with
    | none => rw [hs] at h; simp at h
    | some m => rfl
theorem chV_bad {c : Cg} {l : List Rw} (h : (chV c l).2 ≠ []) (cs : List Cg) : appP tx l (c :: cs) = none ∧ codeOf (chV c l).2 = 5 := by
  obtain ⟨k, n, t⟩ := c
  unfold chV at *
  simp only [appP]
  cases t with
  | false => exact absurd rfl h
  | true =>
    simp only [if_true] at h ⊢
    unfold setC at *
    cases hs : setP tx k n l with
    | none => exact ⟨rfl, rfl⟩
    | some m => rw [hs] at h; exact absurd rfl h
theorem fit_ch {c : Cg} {l : List Rw} (h : Fit tx l) : Fit tx (chV c l).1 := by
  unfold chV
  split
  · unfold setC
    rw [set_with tx h.1 h.2]
    split
    · rename_i m hm
      split at hm
      · cases hm
      · injection hm with hm
        subst hm
        exact ⟨up_with_some tx _ h.1, by show (withR tx c.1 (some c.2.1) l).length ≤ 256; omega⟩
    · exact h
  · rw [drop_with tx h.1]
    exact ⟨up_with_none tx h.1, Nat.le_trans (len_with_none tx h.1) h.2⟩
end Go.Proofs.YticgnakjnhdfhaaDoor
end

section
set_option linter.unusedVariables false
set_option maxRecDepth 100000
namespace Go.Proofs.YticgnakjnhdfhaaDoor
open Go.Proofs.BL Go.Proofs.Peel Go.RowKit Go.Proofs.Ky

theorem appV_if (l : List Rw) (cs : List Cg) : (cs.any (fun c => !(mayC c)) = true → appV l cs = (l, 2)) ∧ (cs.any (fun c => !(mayC c)) = false → (appP tx l cs = none → appV l cs = (l, 5)) ∧ ∀ m, appP tx l cs = some m → appV l cs = (m, 0)) := by
  unfold appV
  refine ⟨fun h => if_pos h, fun h => ⟨fun h2 => ?_, fun m h2 => ?_⟩⟩
  · rw [if_neg (by rw [h]; simp), h2]
  · rw [if_neg (by rw [h]; simp), h2]
def ApplyPost (p : Nat) (ls : List Part) (r : List Rw × Int) (e : Ending) (w' : World) : Prop := e = .returned (.int .i64 r.2) ∧ Sat (ceP p r.1 :: errP :: ls) w'
set_option maxHeartbeats 8000000 in
theorem cApply (p : Nat) (l : List Rw) (A : Option Addr) (c : Nat) (cs : List Cg) (ls : List Part) (w : World) (h : Sat (ceP p l :: errP :: roR 3 A (rwC cs) :: ls) w) (hfit : Fit tx l) (hl : cs.length ≤ 1000000) (hc : cs.length ≤ c) :
    Calls Tryd.prog 25 #[.pointer (some ⟨p, 0, none⟩), .slice A cs.length c] w (ApplyPost p (roR 3 A (rwC cs) :: ls) (appV l cs)) := by
  refine via fun Q hQ => ?_
  have HA := Lib.hid (anyC 50 #[] (enters_of Tryd.func50 (by kernel_rfl) rfl) (fun o => !(mayC o)) A c cs w h.s2.rows_ hl (fun o ho W hW => apply1 o W))
  have HS := Lib.hid h
  have HFit := Lib.hid hfit
  have hav := appV_if l cs
  generalize cs.any (fun o => !(mayC o)) = z at HA hav
  have HAv := Lib.hid hav
  have hl256 := hfit.2
  clear h hfit hav
  generalize hn : cs.length = n at *
  have HNL := Lib.hid hn
  clear hn
  go_enter Tryd.func25, Tryd.ntmps25
  go_wp2_with fail
  (with_reducible refine HA.out.mono ?_)
  rintro e w1 ⟨rfl, hb1⟩
  have HS1 := Lib.hid (HS.out.below hb1)
  clear hb1 HA HS
  cases z with
  | true =>
    have HE := Lib.hid (HAv.out.1 rfl)
    go_wp2_with fail
    exact ⟨by rw [HE.out]; rfl, by rw [HE.out]; exact HS1.out⟩
  | false =>
    have HE := Lib.hid (HAv.out.2 rfl)
    have HCp := Lib.hid (cCopy p l _ w1 HS1.out (by omega))
    clear HAv
    go_wp2_with fail
    (with_reducible refine HCp.out.mono ?_)
    rintro e w2 ⟨q, rfl, hS2⟩
    have HS2 := Lib.hid hS2
    clear hS2 HCp HS1
    go_wp2_with fail
    go_loopg [17] n (fun g x wr => ∃ (j : Nat) (l1 : List Rw), j ≤ n ∧ g = n - j ∧ x = .int .i64 j ∧ Hid (Fit tx l1) ∧ Hid (appP tx l cs = appP tx l1 (cs.drop j)) ∧ Hid (Sat (ceP q l1 :: ceP p l :: errP :: roR 3 A (rwC cs) :: ls) wr))
    case atStart => exact ⟨0, l, Nat.zero_le _, rfl, rfl, HFit, Lib.hid rfl, HS2⟩
    case round =>
      obtain ⟨j, l1, hj, rfl, rfl, HF1, HP, HSr⟩ := hrel
      by_cases hlt : j < n
      · have hx : cs[j]? = some (cs[j]'(by rw [HNL.out]; exact hlt)) := List.getElem?_eq_getElem _
        have hdr : cs.drop j = cs[j]'(by rw [HNL.out]; exact hlt) :: cs.drop (j + 1) := List.drop_eq_getElem_cons _
        generalize cs[j]'(by rw [HNL.out]; exact hlt) = r at hx hdr
        obtain ⟨b, o, hA, c1, c2, c3⟩ := chAt HSr.out.s3.rows_ hx
        subst hA
        have hp := HP.out
        rw [hdr] at hp
        have HFd := Lib.hid (fit_ch (c := r) HF1.out)
        have HGood := Lib.hid (fun h => hp.trans (chV_ok (c := r) (l := l1) h (cs.drop (j + 1))))
        have HBad := Lib.hid (fun h => (⟨hp.trans (chV_bad (c := r) (l := l1) h (cs.drop (j + 1))).1, (chV_bad (c := r) (l := l1) h (cs.drop (j + 1))).2⟩ : appP tx l cs = none ∧ codeOf (chV r l1).2 = 5))
        obtain ⟨key, nn, t⟩ := r
        simp only at c1 c2 c3
        have hal : Below wr.heap.size wr (wr.alloc (.cells #[.string key, .int .i64 nn, .bool t] 57)) := (Below.refl _ _).alloc (Nat.le_refl _) _
        have HSa := Lib.hid (HSr.out.below hal)
        clear hx hdr hp hal
        cases t with
        | false =>
          have hcv : chV (key, nn, false) l1 = (dropP tx key l1, []) := rfl
          rw [hcv] at HFd HGood
          have HG := Lib.hid (HGood.out rfl)
          have HDr := Lib.hid (cDrop q l1 key _ _ HSa.out HF1.out.1 HF1.out.2)
          clear HGood HBad hcv
          go_wp2_with fail
          (with_reducible refine HDr.out.mono ?_)
          rintro e w3 ⟨rfl, hS3⟩
          have HS3 := Lib.hid hS3
          clear hS3 HDr c1 c2 c3
          go_wp2_with fail
          go_roundg (n - (j + 1))
          case measure => omega
          case rel => exact ⟨j + 1, _, by omega, rfl, rfl, HFd, HG, HS3⟩
        | true =>
          have hcv : chV (key, nn, true) l1 = setC key nn l1 := rfl
          rw [hcv] at HFd HGood HBad
          have HSe := Lib.hid (cSet q l1 key nn _ _ HSa.out HF1.out.1 HF1.out.2)
          generalize setC key nn l1 = sc at HFd HGood HBad HSe
          obtain ⟨l2, ch⟩ := sc
          clear hcv
          by_cases hch : ch = []
          · subst hch
            have HG := Lib.hid (HGood.out rfl)
            clear HGood HBad
            go_wp2_with fail
            (with_reducible refine HSe.out.mono ?_)
            rintro e w3 ⟨v3, rfl, hc3, hS3⟩
            obtain rfl : v3 = .nilIface := hc3
            have HS3 := Lib.hid hS3
            clear hS3 HSe c1 c2 c3
            go_wp2_with fail
            go_roundg (n - (j + 1))
            case measure => omega
            case rel => exact ⟨j + 1, l2, by omega, rfl, rfl, HFd, HG, HS3⟩
          · obtain ⟨hb1, hb2⟩ := HBad.out hch
            have HB1 := Lib.hid (show appV l cs = (l, 5) from HE.out.1 hb1)
            have HB2 := Lib.hid (show codeOf ch = 5 from hb2)
            clear HGood HBad hb1 hb2
            go_wp2_with fail
            (with_reducible refine HSe.out.mono ?_)
            rintro e w3 ⟨v3, rfl, hc3, hS3⟩
            obtain ⟨ki, bi, rfl⟩ := chn_iface hc3 hch
            have HS3 := Lib.hid hS3
            have HCo := Lib.hid (fcode _ _ w3 hS3.s2.err_ hc3)
            rw [HB2.out] at HCo
            clear hS3 HSe c1 c2 c3 hc3 hch
            go_wp2_with fail
            (with_reducible refine HCo.out.mono ?_)
            rintro e w4 ⟨rfl, hb4⟩
            have HS4 := Lib.hid (HS3.out.below hb4)
            clear hb4 HCo
            go_wp2_with fail
            exact ⟨by rw [HB1.out]; rfl, by rw [HB1.out]; exact HS4.out.drop⟩
      · obtain rfl : j = n := by omega
        have hp := HP.out
        rw [List.drop_of_length_le (by rw [HNL.out]; exact Nat.le_refl _)] at hp
        have HB1 := Lib.hid (show appV l cs = (l1, 0) from HE.out.2 _ (by rw [hp]; rfl))
        obtain ⟨vq, hq⟩ := HSr.out.openO
        obtain ⟨Aq, cq, hvq, _, _, _⟩ := hq.s1.own_.slv'
        rw [rwR_len] at hvq
        subst hvq
        obtain ⟨vp, hp2⟩ := hq.s2.openO
        have c1 := hq.blk_.at_ 0 rfl
        have c2 := hp2.blk_.at_ 0 rfl
        have f2 := hp2.blk_.free 0
        have HS2 := Lib.hid ((hp2.set 0 (.slice Aq l1.length cq)).s1.drop.s1.drop.shutO (T := 72))
        clear hq hp2 hp
        go_wp2_with fail
        exact ⟨by rw [HB1.out]; rfl, by rw [HB1.out]; exact HS2.out⟩
end Go.Proofs.YticgnakjnhdfhaaDoor
end

section
set_option linter.unusedVariables false
set_option linter.unusedSimpArgs false
set_option maxRecDepth 100000
namespace Go.Proofs.YticgnakjnhdfhaaDoor
open Go.Proofs.BL Go.Proofs.Peel Go.RowKit Go.Proofs.Ky

theorem infoC : (Tryd.prog.info? 57).map (fun i => (i.zero, i.size, i.bytes)) = some (some (.agg #[.string ⟨#[]⟩, .int .i64 0, .bool false]), 3, 32) := by kernel_rfl
theorem zeroC : (Value.agg #[.string ⟨#[]⟩, .int .i64 0, .bool false]).cells.size = 3 := rfl
theorem rwC_put (l : List Cg) (c : Cg) : rwC (l ++ [c]) = rwC l ++ [enC c] := by simp [rwC]
theorem headAt {w : World} {b o : Nat} {r : Rw} {t : List Rw} (h : RowsAt w 2 (some ⟨b, o, none⟩) (rwR (r :: t))) :
    w.cell? ⟨b, o, none⟩ = some (.string r.1) ∧ w.cell? ⟨b, o + 1, none⟩ = some (.int .i64 r.2) := by
  obtain ⟨b', o', e, k1, k2⟩ := rowAt h (i := 0) (r := r) rfl
  injection e with e
  injection e with e1 e2
  subst e1 e2
  exact ⟨by simpa using k1, by simpa using k2⟩
theorem headA {w : World} {A : Option Addr} {r : Rw} {t : List Rw} (h : RowsAt w 2 A (rwR (r :: t))) : ∃ b o, A = some ⟨b, o, none⟩ := by
  obtain ⟨b, o, e, _⟩ := rowAt h (i := 0) (r := r) rfl
  exact ⟨b, o, e⟩
theorem Sat.roTail {b o c : Nat} {r : Rw} {t : List Rw} {l : List Part} {w : World} (h : Sat (roR 2 (some ⟨b, o, none⟩) (rwR (r :: t)) :: l) w) (hc : t.length + 1 ≤ c) :
    Sat (roR 2 (if c = 1 then some ⟨b, o, none⟩ else some ⟨b, o + 2, none⟩) (rwR t) :: l) w := by
  split
  · have ht : t = [] := List.eq_nil_of_length_eq_zero (by omega)
    subst ht
    exact h.drop.roNil 2 _
  · exact (h.roDrop 1).s1.drop
def DiffPost (ls : List Part) (cs : List Cg) (e : Ending) (w' : World) : Prop := ∃ A c, e = .returned (.slice A cs.length c) ∧ cs.length ≤ c ∧ Sat (roR 3 A (rwC cs) :: ls) w'
theorem diffP_nil (g : Nat) : diffP tx g [] [] = [] := by cases g <;> rfl
theorem diffP_put (g : Nat) (s : Rw) (b : List Rw) : diffP tx (g + 1) [] (s :: b) = (s.1, s.2, true) :: diffP tx g [] b := rfl
theorem diffP_del (g : Nat) (r : Rw) (a : List Rw) : diffP tx (g + 1) (r :: a) [] = (r.1, 0, false) :: diffP tx g a [] := rfl
theorem diffP_lt {g : Nat} {r s : Rw} {a b : List Rw} (h : tx.lt r.1 s.1 = true) : diffP tx (g + 1) (r :: a) (s :: b) = (r.1, 0, false) :: diffP tx g a (s :: b) := if_pos h
theorem diffP_gt {g : Nat} {r s : Rw} {a b : List Rw} (h1 : tx.lt r.1 s.1 = false) (h2 : tx.lt s.1 r.1 = true) : diffP tx (g + 1) (r :: a) (s :: b) = (s.1, s.2, true) :: diffP tx g (r :: a) b :=
  (if_neg (by rw [h1]; simp)).trans (if_pos h2)
theorem diffP_eq {g : Nat} {r s : Rw} {a b : List Rw} (h1 : tx.lt r.1 s.1 = false) (h2 : tx.lt s.1 r.1 = false) : diffP tx (g + 1) (r :: a) (s :: b) = (if r.2 ≠ s.2 then [(s.1, s.2, true)] else []) ++ diffP tx g a b :=
  (if_neg (by rw [h1]; simp)).trans (if_neg (by rw [h2]; simp))
set_option maxHeartbeats 8000000 in
theorem cDiff (p q : Nat) (l m : List Rw) (ls : List Part) (w : World) (h : Sat (ceP p l :: ceP q m :: ls) w) (hf : Fit tx l) (hg : Fit tx m) :
    Calls Tryd.prog 29 #[.pointer (some ⟨p, 0, none⟩), .pointer (some ⟨q, 0, none⟩)] w (DiffPost (ceP p l :: ceP q m :: ls) (diffR tx l m)) := by
  refine via fun Q hQ => ?_
  have hds := diff_same tx hf.1 hg.1 (l.length + m.length) (Nat.le_refl _)
  generalize diffR tx l m = D at hds hQ
  have hl1 := hf.2
  have hm1 := hg.2
  obtain ⟨vp, hF, h2⟩ := h.ceF
  have HRp := Lib.hid (cRows p vp l w hF (by omega))
  have HS := Lib.hid h
  have HDs := Lib.hid hds.symm
  clear hf hg h hF h2 hds
  go_enter Tryd.func29, Tryd.ntmps29
  go_wp2_with fail
  (with_reducible refine HRp.out.mono ?_)
  rintro e w1 ⟨v1, rfl, ho1, hb1⟩
  obtain ⟨A1, c1, rfl, hc1, hS1⟩ := HS.out.fixR hb1 ho1
  obtain ⟨vq, hFq, _⟩ := hS1.s2.ceF
  have HRq := Lib.hid (cRows q vq m w1 hFq (by omega))
  have HS1 := Lib.hid hS1
  have HC1 := Lib.hid hc1
  clear ho1 hb1 hS1 hFq hc1 HRp HS
  go_wp2_with fail
  (with_reducible refine HRq.out.mono ?_)
  rintro e w2 ⟨v2, rfl, ho2, hb2⟩
  obtain ⟨A2, c2, rfl, hc2, hS2⟩ := HS1.out.fixR hb2 ho2
  have HS2 := Lib.hid (hS2.nilR 57 3)
  have HC2 := Lib.hid hc2
  clear ho2 hb2 hS2 hc2 HRq HS1
  go_wp2_with fail
  go_loopg [5, 6, 7] (l.length + m.length) (fun g x5 x6 x7 wr => ∃ (a b : List Rw) (B1 B2 : Option Addr) (d1 d2 : Nat) (cs : List Cg), a.length + b.length ≤ g ∧ x5 = .slice B1 a.length d1 ∧ x6 = .slice B2 b.length d2 ∧ Hid (a.length ≤ d1) ∧ Hid (b.length ≤ d2) ∧ Hid (cs.length + a.length + b.length ≤ 512) ∧ Hid (D = cs ++ diffP tx g a b) ∧ Hid (Sat (ownR x7 57 3 (rwC cs) :: roR 2 B2 (rwR b) :: roR 2 B1 (rwR a) :: ceP p l :: ceP q m :: ls) wr))
  case atStart => exact ⟨l, m, A1, A2, c1, c2, [], Nat.le_refl _, rfl, rfl, HC1, HC2, Lib.hid (by simp only [List.length_nil]; omega), Lib.hid (by rw [HDs.out]; rfl), HS2⟩
  case round =>
    obtain ⟨a, b, B1, B2, d1, d2, cs, hg, rfl, rfl, HD1, HD2, HCL, HP, HSr⟩ := hrel
    have HLen := Lib.hid (show ((rwC cs).length + 1) * 32 ≤ 140737488355328 from by have := HCL.out; rw [rwC_len]; omega)
    cases a with
    | nil =>
      cases b with
      | nil =>
        have hp := HP.out
        rw [diffP_nil, List.append_nil] at hp
        obtain ⟨A7, c7, e7, hc7, _, hS7⟩ := HSr.out.still
        rw [rwC_len] at e7 hc7
        subst e7 hp
        have HS7 := Lib.hid hS7.s1.drop.s1.drop
        have HC7 := Lib.hid hc7
        clear hS7 hc7 HSr HP
        simp only [List.length_nil]
        go_wp2_with fail
        exact ⟨A7, c7, rfl, HC7.out, HS7.out⟩
      | cons s b =>
        cases gk with
        | zero => simp at hg
        | succ gk =>
          obtain ⟨b2, o2, rfl⟩ := headA HSr.out.s1.rows_
          obtain ⟨k1, k2⟩ := headAt HSr.out.s1.rows_
          obtain ⟨sk, sn⟩ := s
          simp only at k1 k2
          have hnb : ((sk, sn) :: b).length = b.length + 1 := rfl
          generalize ((sk, sn) :: b).length = nb at hnb hg HD2 HCL ⊢
          have HNb := Lib.hid hnb
          have p1 : (nb : Int) > 0 := by omega
          have p2 : ((nb : Int) == 0) = false := int_diff (by omega)
          have p3 : (1 : Int) ≤ (nb : Int) := by omega
          have p6 : 0 < nb := by omega
          have p7 : (0 : Int) < (nb : Int) := by omega
          clear hnb
          simp only [List.length_nil]
          go_wp2_with fail
          go_quiet (fail)
          have HSn := Lib.hid (HSr.out.drewN nq)
          have k1 : (wr.drewN nq).cell? ⟨b2, o2, none⟩ = some (.string sk) := k1
          have k2 : (wr.drewN nq).cell? ⟨b2, o2 + 1, none⟩ = some (.int .i64 sn) := k2
          clear HSr
          generalize wr.drewN nq = wn at k1 k2 HSn ⊢
          go_wp2_with fail
          go_quiet (fail)
          have HSm := Lib.hid (HSn.out.drewN nq)
          have k1 : (wn.drewN nq).cell? ⟨b2, o2, none⟩ = some (.string sk) := k1
          have k2 : (wn.drewN nq).cell? ⟨b2, o2 + 1, none⟩ = some (.int .i64 sn) := k2
          clear HSn
          generalize wn.drewN nq = wm at k1 k2 HSm ⊢
          go_wp2_with fail
          have hd : World.cell? wm.drew ⟨b2, o2, none⟩ = some (.string sk) ∧ World.cell? wm.drew ⟨b2, o2 + 1, none⟩ = some (.int .i64 sn) := ⟨k1, k2⟩
          have HK : Hid (∀ w5, RowsAt w5 2 (some ⟨b2, o2, none⟩) (rwR ((sk, sn) :: b)) → World.cell? w5 ⟨b2, o2, none⟩ = some (.string sk) ∧ World.cell? w5 ⟨b2, o2 + 1, none⟩ = some (.int .i64 sn)) := Lib.hid (fun w5 h => headAt h)
          have HSm1 := Lib.hid (HSm.out.below ((Below.refl wm.heap.size wm).alloc (Nat.le_refl _) (.cells #[.string sk, .int .i64 sn, .bool true] 57)).drew)
          go_region_held3 (fun x => x.cell? ⟨b2, o2, none⟩ = some (.string sk) ∧ x.cell? ⟨b2, o2 + 1, none⟩ = some (.int .i64 sn)) ((first | assumption | exact hd | exact ⟨upA k1 _, upA k2 _⟩ | exact hd2)) ((refine satStep1 57 3 32 (.agg #[.string ⟨#[]⟩, .int .i64 0, .bool false]) (by rfl) _ _ _ (by rfl) Tryd.underlying53 infoC zeroC (by decide) (by decide) u7 (rwC cs) (enC (sk, sn, true)) (by rfl) wm.heap.size (by rfl) (heap_alloc_new wm _) rfl (enC_one _) HSm1.out rfl HLen.out ?_; intro v5 w5 hS5; have hd2 : World.cell? w5 ⟨b2, o2, none⟩ = some (.string sk) ∧ World.cell? w5 ⟨b2, o2 + 1, none⟩ = some (.int .i64 sn) := HK.out w5 hS5.s1.rows_))
          rw [← rwC_put] at hS5
          have HS5 := Lib.hid hS5
          clear hS5 hd hd2 HSm1 HSm k1 k2
          rcases Classical.em (d2 = 1) with e2 | e2
          all_goals
            go_wp2_with fail
            have HT := Lib.hid (HS5.out.s1.roTail (c := d2) (by have := HD2.out; have := HNb.out; omega)).s1
            go_roundg gk
            case measure => omega
            case rel =>
              have hcl := HCL.out
              try simp only [List.length_nil] at hcl hg
              refine ⟨[], b, B1, (if d2 = 1 then some ⟨b2, o2, none⟩ else some ⟨b2, o2 + 2, none⟩), d1, d2 - 1, cs ++ [(sk, sn, true)], ?_, rfl, by (first | (rw [HNb.out, if_pos e2, e2]; try rfl; done) | (rw [HNb.out, if_neg e2]; try rfl; done)), HD1, Lib.hid (by have := HD2.out; have := HNb.out; omega), Lib.hid ?_, Lib.hid (by rw [HP.out, diffP_put]; simp), HT⟩
              · have := HNb.out; (try simp only [List.length_cons, List.length_nil]); omega
              · have := HNb.out; (try simp only [List.length_append, List.length_cons, List.length_nil]); omega
    | cons r a =>
      obtain ⟨b1, o1, rfl⟩ := headA HSr.out.s2.rows_
      obtain ⟨j1, j2⟩ := headAt HSr.out.s2.rows_
      obtain ⟨rk, rn⟩ := r
      simp only at j1 j2
      have hna : ((rk, rn) :: a).length = a.length + 1 := rfl
      generalize ((rk, rn) :: a).length = na at hna hg HD1 HCL ⊢
      have HNa := Lib.hid hna
      have q1 : (na : Int) > 0 := by omega
      have q2 : ((na : Int) == 0) = false := int_diff (by omega)
      have q3 : (1 : Int) ≤ (na : Int) := by omega
      have q6 : 0 < na := by omega
      have q7 : (0 : Int) < (na : Int) := by omega
      have q4 : decide (0 < na) = true := decide_eq_true (by omega)
      have q5 : decide ((na : Int) > 0) = true := decide_eq_true q1
      cases gk with
      | zero => omega
      | succ gk =>
        clear hna
        cases b with
        | nil =>
          simp only [List.length_nil]
          rcases Classical.em (d1 = 1) with e1 | e1
          all_goals
            go_wp2_with fail
            go_quiet (fail)
            have HSm := Lib.hid (HSr.out.drewN nq)
            have j1 : (wr.drewN nq).cell? ⟨b1, o1, none⟩ = some (.string rk) := j1
            clear HSr
            generalize wr.drewN nq = wm at j1 HSm ⊢
            go_wp2_with (at_builtin; (refine satApp (W := wm) 57 3 32 (.agg #[.string ⟨#[]⟩, .int .i64 0, .bool false]) rfl (.tmp 65) (.tmp 71) 53 rfl Tryd.underlying53 infoC zeroC (by decide) (by decide) _ (rwC cs) (enC (rk, 0, false)) rfl _ rfl rfl rfl (enC_one _) HSm.out rfl HLen.out ?_); intro v4 w4 hS4; rw [← rwC_put] at hS4; have HS4 := Lib.hid hS4; clear hS4)
            have HT := Lib.hid (HS4.out.s2.roTail (c := d1) (by have := HD1.out; have := HNa.out; omega)).t2
            go_roundg gk
            case measure => omega
            case rel =>
              have hcl := HCL.out
              try simp only [List.length_nil] at hcl hg
              refine ⟨a, [], (if d1 = 1 then some ⟨b1, o1, none⟩ else some ⟨b1, o1 + 2, none⟩), B2, d1 - 1, d2, cs ++ [(rk, 0, false)], ?_, by (first | (rw [HNa.out, if_pos e1, e1]; try rfl; done) | (rw [HNa.out, if_neg e1]; try rfl; done)), rfl, Lib.hid (by have := HD1.out; have := HNa.out; omega), HD2, Lib.hid ?_, Lib.hid (by rw [HP.out, diffP_del]; simp), HT⟩
              · have := HNa.out; (try simp only [List.length_cons, List.length_nil]); omega
              · have := HNa.out; (try simp only [List.length_append, List.length_cons, List.length_nil]); omega
        | cons s b =>
          obtain ⟨b2, o2, rfl⟩ := headA HSr.out.s1.rows_
          obtain ⟨k1, k2⟩ := headAt HSr.out.s1.rows_
          obtain ⟨sk, sn⟩ := s
          simp only at k1 k2
          have hnb : ((sk, sn) :: b).length = b.length + 1 := rfl
          generalize ((sk, sn) :: b).length = nb at hnb hg HD2 HCL ⊢
          have HNb := Lib.hid hnb
          have p1 : (nb : Int) > 0 := by omega
          have p2 : ((nb : Int) == 0) = false := int_diff (by omega)
          have p3 : (1 : Int) ≤ (nb : Int) := by omega
          have p6 : 0 < nb := by omega
          have p7 : (0 : Int) < (nb : Int) := by omega
          clear hnb
          have hl1 := less_tx rk sk
          have hl2 := less_tx sk rk
          cases hL : tx.lt rk sk with
          | true =>
            have hb1 := hl1.trans hL
            clear hl1 hl2
            rcases Classical.em (d1 = 1) with e1 | e1
            all_goals
              go_wp2_with fail
              go_quiet (fail)
              have HSm := Lib.hid (HSr.out.drewN nq)
              have j1 : (wr.drewN nq).cell? ⟨b1, o1, none⟩ = some (.string rk) := j1
              clear HSr
              generalize wr.drewN nq = wm at j1 HSm ⊢
              go_wp2_with (at_builtin; (refine satApp (W := wm) 57 3 32 (.agg #[.string ⟨#[]⟩, .int .i64 0, .bool false]) rfl (.tmp 65) (.tmp 71) 53 rfl Tryd.underlying53 infoC zeroC (by decide) (by decide) _ (rwC cs) (enC (rk, 0, false)) rfl _ rfl rfl rfl (enC_one _) HSm.out rfl HLen.out ?_); intro v4 w4 hS4; rw [← rwC_put] at hS4; have HS4 := Lib.hid hS4; clear hS4)
              have HT := Lib.hid (HS4.out.s2.roTail (c := d1) (by have := HD1.out; have := HNa.out; omega)).t2
              go_roundg gk
              case measure => omega
              case rel =>
                have hcl := HCL.out
                try simp only [List.length_nil] at hcl hg
                refine ⟨a, ((sk, sn) :: b), (if d1 = 1 then some ⟨b1, o1, none⟩ else some ⟨b1, o1 + 2, none⟩), some ⟨b2, o2, none⟩, d1 - 1, d2, cs ++ [(rk, 0, false)], ?_, by (first | (rw [HNa.out, if_pos e1, e1]; try rfl; done) | (rw [HNa.out, if_neg e1]; try rfl; done)), by (rw [HNb.out]; rfl), Lib.hid (by have := HD1.out; have := HNa.out; omega), Lib.hid (by have := HD2.out; have := HNb.out; simp only [List.length_cons]; omega), Lib.hid ?_, Lib.hid (by rw [HP.out, diffP_lt hL]; simp), HT⟩
                · have := HNa.out; have := HNb.out; (try simp only [List.length_cons, List.length_nil]); omega
                · have := HNa.out; have := HNb.out; (try simp only [List.length_append, List.length_cons, List.length_nil]); omega
          | false =>
            have hb1 := hl1.trans hL
            cases hM : tx.lt sk rk with
            | true =>
              have hb2 := hl2.trans hM
              clear hl1 hl2
              go_wp2_with fail
              go_quiet (fail)
              have HSn := Lib.hid (HSr.out.drewN nq)
              have k1 : (wr.drewN nq).cell? ⟨b2, o2, none⟩ = some (.string sk) := k1
              have k2 : (wr.drewN nq).cell? ⟨b2, o2 + 1, none⟩ = some (.int .i64 sn) := k2
              have j1 : (wr.drewN nq).cell? ⟨b1, o1, none⟩ = some (.string rk) := j1
              clear HSr
              generalize wr.drewN nq = wn at k1 k2 j1 HSn ⊢
              go_wp2_with fail
              go_quiet (fail)
              have HSm := Lib.hid (HSn.out.drewN nq)
              have k1 : (wn.drewN nq).cell? ⟨b2, o2, none⟩ = some (.string sk) := k1
              have k2 : (wn.drewN nq).cell? ⟨b2, o2 + 1, none⟩ = some (.int .i64 sn) := k2
              clear HSn
              generalize wn.drewN nq = wm at k1 k2 HSm ⊢
              go_wp2_with fail
              have hd : World.cell? wm.drew ⟨b2, o2, none⟩ = some (.string sk) ∧ World.cell? wm.drew ⟨b2, o2 + 1, none⟩ = some (.int .i64 sn) := ⟨k1, k2⟩
              have HK : Hid (∀ w5, RowsAt w5 2 (some ⟨b2, o2, none⟩) (rwR ((sk, sn) :: b)) → World.cell? w5 ⟨b2, o2, none⟩ = some (.string sk) ∧ World.cell? w5 ⟨b2, o2 + 1, none⟩ = some (.int .i64 sn)) := Lib.hid (fun w5 h => headAt h)
              have HSm1 := Lib.hid (HSm.out.below ((Below.refl wm.heap.size wm).alloc (Nat.le_refl _) (.cells #[.string sk, .int .i64 sn, .bool true] 57)).drew)
              go_region_held3 (fun x => x.cell? ⟨b2, o2, none⟩ = some (.string sk) ∧ x.cell? ⟨b2, o2 + 1, none⟩ = some (.int .i64 sn)) ((first | assumption | exact hd | exact ⟨upA k1 _, upA k2 _⟩ | exact hd2)) ((refine satStep1 57 3 32 (.agg #[.string ⟨#[]⟩, .int .i64 0, .bool false]) (by rfl) _ _ _ (by rfl) Tryd.underlying53 infoC zeroC (by decide) (by decide) u7 (rwC cs) (enC (sk, sn, true)) (by rfl) wm.heap.size (by rfl) (heap_alloc_new wm _) rfl (enC_one _) HSm1.out rfl HLen.out ?_; intro v5 w5 hS5; have hd2 : World.cell? w5 ⟨b2, o2, none⟩ = some (.string sk) ∧ World.cell? w5 ⟨b2, o2 + 1, none⟩ = some (.int .i64 sn) := HK.out w5 hS5.s1.rows_))
              rw [← rwC_put] at hS5
              have HS5 := Lib.hid hS5
              clear hS5 hd hd2 HSm1 HSm k1 k2
              rcases Classical.em (d2 = 1) with e2 | e2
              all_goals
                go_wp2_with fail
                have HT := Lib.hid (HS5.out.s1.roTail (c := d2) (by have := HD2.out; have := HNb.out; omega)).s1
                go_roundg gk
                case measure => omega
                case rel =>
                  have hcl := HCL.out
                  try simp only [List.length_nil] at hcl hg
                  refine ⟨((rk, rn) :: a), b, some ⟨b1, o1, none⟩, (if d2 = 1 then some ⟨b2, o2, none⟩ else some ⟨b2, o2 + 2, none⟩), d1, d2 - 1, cs ++ [(sk, sn, true)], ?_, by (rw [HNa.out]; rfl), by (first | (rw [HNb.out, if_pos e2, e2]; try rfl; done) | (rw [HNb.out, if_neg e2]; try rfl; done)), Lib.hid (by have := HD1.out; have := HNa.out; simp only [List.length_cons]; omega), Lib.hid (by have := HD2.out; have := HNb.out; omega), Lib.hid ?_, Lib.hid (by rw [HP.out, diffP_gt hL hM]; simp), HT⟩
                  · have := HNa.out; have := HNb.out; (try simp only [List.length_cons, List.length_nil]); omega
                  · have := HNa.out; have := HNb.out; (try simp only [List.length_append, List.length_cons, List.length_nil]); omega
            | false =>
              have hb2 := hl2.trans hM
              clear hl1 hl2
              by_cases hn : rn = sn
              · subst hn
                have hnn : (rn != rn) = false := bne_self_eq_false _
                go_wp2_with fail
                go_quiet (fail)
                have HSn := Lib.hid (HSr.out.drewN nq)
                have k1 : (wr.drewN nq).cell? ⟨b2, o2, none⟩ = some (.string sk) := k1
                have k2 : (wr.drewN nq).cell? ⟨b2, o2 + 1, none⟩ = some (.int .i64 rn) := k2
                have j1 : (wr.drewN nq).cell? ⟨b1, o1, none⟩ = some (.string rk) := j1
                have j2 : (wr.drewN nq).cell? ⟨b1, o1 + 1, none⟩ = some (.int .i64 rn) := j2
                clear HSr
                generalize wr.drewN nq = wn at k1 k2 j1 j2 HSn ⊢
                go_wp2_with fail
                go_quiet (fail)
                have HSk := Lib.hid (HSn.out.drewN nq)
                have k1 : (wn.drewN nq).cell? ⟨b2, o2, none⟩ = some (.string sk) := k1
                have k2 : (wn.drewN nq).cell? ⟨b2, o2 + 1, none⟩ = some (.int .i64 rn) := k2
                have j1 : (wn.drewN nq).cell? ⟨b1, o1, none⟩ = some (.string rk) := j1
                have j2 : (wn.drewN nq).cell? ⟨b1, o1 + 1, none⟩ = some (.int .i64 rn) := j2
                clear HSn
                generalize wn.drewN nq = wk at k1 k2 j1 j2 HSk ⊢
                go_wp2_with fail
                go_quiet (fail)
                have HSm := Lib.hid (HSk.out.drewN nq)
                have k1 : (wk.drewN nq).cell? ⟨b2, o2, none⟩ = some (.string sk) := k1
                have k2 : (wk.drewN nq).cell? ⟨b2, o2 + 1, none⟩ = some (.int .i64 rn) := k2
                have j1 : (wk.drewN nq).cell? ⟨b1, o1, none⟩ = some (.string rk) := j1
                have j2 : (wk.drewN nq).cell? ⟨b1, o1 + 1, none⟩ = some (.int .i64 rn) := j2
                clear HSk
                generalize wk.drewN nq = wm at k1 k2 j1 j2 HSm ⊢
                rcases Classical.em (d1 = 1) with e1 | e1 <;> rcases Classical.em (d2 = 1) with e2 | e2
                all_goals
                  go_wp2_with fail
                  go_quiet (fail)
                  have HT := Lib.hid (((HSm.out.drewN nq).s1.roTail (c := d2) (by have := HD2.out; have := HNb.out; omega)).s1.s2.roTail (c := d1) (by have := HD1.out; have := HNa.out; omega)).t2
                  go_wp2_with fail
                  go_roundg gk
                  case measure => omega
                  case rel =>
                    have hcl := HCL.out
                    try simp only [List.length_nil] at hcl hg
                    refine ⟨a, b, (if d1 = 1 then some ⟨b1, o1, none⟩ else some ⟨b1, o1 + 2, none⟩), (if d2 = 1 then some ⟨b2, o2, none⟩ else some ⟨b2, o2 + 2, none⟩), d1 - 1, d2 - 1, cs, ?_, by (first | (rw [HNa.out, if_pos e1, e1]; try rfl; done) | (rw [HNa.out, if_neg e1]; try rfl; done)), by (first | (rw [HNb.out, if_pos e2, e2]; try rfl; done) | (rw [HNb.out, if_neg e2]; try rfl; done)), Lib.hid (by have := HD1.out; have := HNa.out; omega), Lib.hid (by have := HD2.out; have := HNb.out; omega), Lib.hid ?_, Lib.hid (by rw [HP.out, diffP_eq hL hM, if_neg (by simp)]; simp), HT⟩
                    · have := HNa.out; have := HNb.out; (try simp only [List.length_cons, List.length_nil]); omega
                    · have := HNa.out; have := HNb.out; (try simp only [List.length_append, List.length_cons, List.length_nil]); omega
              · have hnn : (rn != sn) = true := bne_iff_ne.2 hn
                go_wp2_with fail
                go_quiet (fail)
                have HSn := Lib.hid (HSr.out.drewN nq)
                have k1 : (wr.drewN nq).cell? ⟨b2, o2, none⟩ = some (.string sk) := k1
                have k2 : (wr.drewN nq).cell? ⟨b2, o2 + 1, none⟩ = some (.int .i64 sn) := k2
                have j1 : (wr.drewN nq).cell? ⟨b1, o1, none⟩ = some (.string rk) := j1
                have j2 : (wr.drewN nq).cell? ⟨b1, o1 + 1, none⟩ = some (.int .i64 rn) := j2
                clear HSr
                generalize wr.drewN nq = wn at k1 k2 j1 j2 HSn ⊢
                go_wp2_with fail
                go_quiet (fail)
                have HSk := Lib.hid (HSn.out.drewN nq)
                have k1 : (wn.drewN nq).cell? ⟨b2, o2, none⟩ = some (.string sk) := k1
                have k2 : (wn.drewN nq).cell? ⟨b2, o2 + 1, none⟩ = some (.int .i64 sn) := k2
                have j1 : (wn.drewN nq).cell? ⟨b1, o1, none⟩ = some (.string rk) := j1
                have j2 : (wn.drewN nq).cell? ⟨b1, o1 + 1, none⟩ = some (.int .i64 rn) := j2
                clear HSn
                generalize wn.drewN nq = wk at k1 k2 j1 j2 HSk ⊢
                go_wp2_with fail
                go_quiet (fail)
                have HSm := Lib.hid (HSk.out.drewN nq)
                have k1 : (wk.drewN nq).cell? ⟨b2, o2, none⟩ = some (.string sk) := k1
                have k2 : (wk.drewN nq).cell? ⟨b2, o2 + 1, none⟩ = some (.int .i64 sn) := k2
                clear HSk
                generalize wk.drewN nq = wm at k1 k2 HSm ⊢
                go_wp2_with fail
                have hd : World.cell? wm.drew ⟨b2, o2, none⟩ = some (.string sk) ∧ World.cell? wm.drew ⟨b2, o2 + 1, none⟩ = some (.int .i64 sn) := ⟨k1, k2⟩
                have HK : Hid (∀ w5, RowsAt w5 2 (some ⟨b2, o2, none⟩) (rwR ((sk, sn) :: b)) → World.cell? w5 ⟨b2, o2, none⟩ = some (.string sk) ∧ World.cell? w5 ⟨b2, o2 + 1, none⟩ = some (.int .i64 sn)) := Lib.hid (fun w5 h => headAt h)
                have HSm1 := Lib.hid (HSm.out.below ((Below.refl wm.heap.size wm).alloc (Nat.le_refl _) (.cells #[.string sk, .int .i64 sn, .bool true] 57)).drew)
                go_region_held3 (fun x => x.cell? ⟨b2, o2, none⟩ = some (.string sk) ∧ x.cell? ⟨b2, o2 + 1, none⟩ = some (.int .i64 sn)) ((first | assumption | exact hd | exact ⟨upA k1 _, upA k2 _⟩ | exact hd2)) ((refine satStep1 57 3 32 (.agg #[.string ⟨#[]⟩, .int .i64 0, .bool false]) (by rfl) _ _ _ (by rfl) Tryd.underlying53 infoC zeroC (by decide) (by decide) u7 (rwC cs) (enC (sk, sn, true)) (by rfl) wm.heap.size (by rfl) (heap_alloc_new wm _) rfl (enC_one _) HSm1.out rfl HLen.out ?_; intro v5 w5 hS5; have hd2 : World.cell? w5 ⟨b2, o2, none⟩ = some (.string sk) ∧ World.cell? w5 ⟨b2, o2 + 1, none⟩ = some (.int .i64 sn) := HK.out w5 hS5.s1.rows_))
                rw [← rwC_put] at hS5
                have HS5 := Lib.hid hS5
                clear hS5 hd hd2 HSm1 HSm k1 k2
                rcases Classical.em (d1 = 1) with e1 | e1 <;> rcases Classical.em (d2 = 1) with e2 | e2
                all_goals
                  go_wp2_with fail
                  go_quiet (fail)
                  have HT := Lib.hid (((HS5.out.drewN nq).s1.roTail (c := d2) (by have := HD2.out; have := HNb.out; omega)).s1.s2.roTail (c := d1) (by have := HD1.out; have := HNa.out; omega)).t2
                  go_wp2_with fail
                  go_roundg gk
                  case measure => omega
                  case rel =>
                    have hcl := HCL.out
                    try simp only [List.length_nil] at hcl hg
                    refine ⟨a, b, (if d1 = 1 then some ⟨b1, o1, none⟩ else some ⟨b1, o1 + 2, none⟩), (if d2 = 1 then some ⟨b2, o2, none⟩ else some ⟨b2, o2 + 2, none⟩), d1 - 1, d2 - 1, cs ++ [(sk, sn, true)], ?_, by (first | (rw [HNa.out, if_pos e1, e1]; try rfl; done) | (rw [HNa.out, if_neg e1]; try rfl; done)), by (first | (rw [HNb.out, if_pos e2, e2]; try rfl; done) | (rw [HNb.out, if_neg e2]; try rfl; done)), Lib.hid (by have := HD1.out; have := HNa.out; omega), Lib.hid (by have := HD2.out; have := HNb.out; omega), Lib.hid ?_, Lib.hid (by rw [HP.out, diffP_eq hL hM, if_pos hn]; simp), HT⟩
                    · have := HNa.out; have := HNb.out; (try simp only [List.length_cons, List.length_nil]); omega
                    · have := HNa.out; have := HNb.out; (try simp only [List.length_append, List.length_cons, List.length_nil]); omega
end Go.Proofs.YticgnakjnhdfhaaDoor
end

section
set_option linter.unusedVariables false
set_option maxRecDepth 100000
namespace Go.Proofs.YticgnakjnhdfhaaDoor
open Go.Proofs.BL Go.Proofs.Peel Go.RowKit Go.Proofs.Ky

def ChPost (E : TypeId) (l : List Cg) (w : World) (e : Ending) (w' : World) : Prop := ∃ v, e = .returned v ∧ Own w' w.heap.size E 3 v (rwC l) ∧ Below w.heap.size w w'
set_option maxHeartbeats 4000000 in
theorem lours (A : Option Addr) (c : Nat) (l : List Cg) (w : World) (hr : RowsAt w 3 A (rwC l)) (hl : l.length ≤ 1000000) (hc : l.length ≤ c) :
    Calls Tryd.prog 28 #[.slice A l.length c] w (ChPost 57 l w) := by
  refine via fun Q hQ => ?_
  have HR := Lib.hid hr
  clear hr
  generalize hn : l.length = ln at *
  have HNL := Lib.hid hn
  clear hn
  go_enter Tryd.func28, Tryd.ntmps28
  go_wp2_with fail
  go_loopg [3, 8] ln (fun g x3 x8 wr => ∃ j : Nat, j ≤ ln ∧ g = ln - j ∧ x8 = .int .i64 j ∧ Hid (Own wr w.heap.size 57 3 x3 (rwC (l.take j))) ∧ Hid (Below w.heap.size w wr))
  case atStart => exact ⟨0, Nat.zero_le _, rfl, rfl, Lib.hid (Own.nil _ _ _ _), Lib.hid (Below.refl _ _)⟩
  case round =>
    obtain ⟨j, hj, rfl, rfl, HO, HB⟩ := hrel
    by_cases hlt : j < ln
    · have hx : l[j]? = some (l[j]'(by rw [HNL.out]; exact hlt)) := List.getElem?_eq_getElem _
      generalize l[j]'(by rw [HNL.out]; exact hlt) = r at hx
      have hnx : rwC (l.take (j + 1)) = rwC (l.take j) ++ [enC r] := by
        obtain ⟨h1, h2⟩ := List.getElem?_eq_some_iff.1 hx
        rw [List.take_succ_eq_append_getElem h1, h2]
        simp [rwC]
      obtain ⟨key, n, t⟩ := r
      obtain ⟨b, o, hA, c1, c2, c3⟩ := chAt (HR.out.below HB.out) hx
      subst hA
      simp only at c1 c2 c3
      have hal : Below wr.heap.size wr (wr.alloc (.cells #[.string key, .int .i64 n, .bool t] 77)) := (Below.refl _ _).alloc (Nat.le_refl _) _
      have HNX := Lib.hid hnx
      have HO1 := Lib.hid (HO.out.below hal)
      have HB1 := Lib.hid (below_then HB.out hal)
      clear hx hnx hal
      go_wp2_with (at_builtin; (refine append1 w.heap.size 57 3 32 (.agg #[.string ⟨#[]⟩, .int .i64 0, .bool false]) rfl (.tmp 12) (.tmp 20) 53 rfl Tryd.underlying53 (by kernel_rfl) rfl (by decide) (by decide) _ (rwC (l.take j)) (enC (key, n, t)) rfl _ rfl (by simp) rfl (enC_one _) HO1.out HB1.out.size (by rw [rwC_len]; simp; omega) ?_); intro v1 w1 hown1 hfr1; have HO2 := Lib.hid hown1; have HB2 := Lib.hid (HO1.out.fr_below HB1.out HB1.out.size hfr1); clear hown1 hfr1)
      go_roundg (ln - (j + 1))
      case measure => omega
      case rel => exact ⟨j + 1, by omega, rfl, rfl, Lib.hid (by rw [HNX.out]; exact HO2.out), HB2⟩
    · obtain rfl : j = ln := by omega
      have hO := HO.out
      rw [List.take_of_length_le (by rw [HNL.out]; exact Nat.le_refl _)] at hO
      have HO2 := Lib.hid hO
      clear hO
      go_wp2_with fail
      exact ⟨_, rfl, HO2.out, HB.out⟩

set_option maxHeartbeats 4000000 in
theorem lplain (A : Option Addr) (c : Nat) (l : List Cg) (w : World) (hr : RowsAt w 3 A (rwC l)) (hl : l.length ≤ 1000000) (hc : l.length ≤ c) :
    Calls Tryd.prog 31 #[.slice A l.length c] w (ChPost 77 l w) := by
  refine via fun Q hQ => ?_
  have HR := Lib.hid hr
  clear hr
  generalize hn : l.length = ln at *
  have HNL := Lib.hid hn
  clear hn
  go_enter Tryd.func31, Tryd.ntmps31
  go_wp2_with fail
  go_loopg [3, 8] ln (fun g x3 x8 wr => ∃ j : Nat, j ≤ ln ∧ g = ln - j ∧ x8 = .int .i64 j ∧ Hid (Own wr w.heap.size 77 3 x3 (rwC (l.take j))) ∧ Hid (Below w.heap.size w wr))
  case atStart => exact ⟨0, Nat.zero_le _, rfl, rfl, Lib.hid (Own.nil _ _ _ _), Lib.hid (Below.refl _ _)⟩
  case round =>
    obtain ⟨j, hj, rfl, rfl, HO, HB⟩ := hrel
    by_cases hlt : j < ln
    · have hx : l[j]? = some (l[j]'(by rw [HNL.out]; exact hlt)) := List.getElem?_eq_getElem _
      generalize l[j]'(by rw [HNL.out]; exact hlt) = r at hx
      have hnx : rwC (l.take (j + 1)) = rwC (l.take j) ++ [enC r] := by
        obtain ⟨h1, h2⟩ := List.getElem?_eq_some_iff.1 hx
        rw [List.take_succ_eq_append_getElem h1, h2]
        simp [rwC]
      obtain ⟨key, n, t⟩ := r
      obtain ⟨b, o, hA, c1, c2, c3⟩ := chAt (HR.out.below HB.out) hx
      subst hA
      simp only at c1 c2 c3
      have hal : Below wr.heap.size wr (wr.alloc (.cells #[.string key, .int .i64 n, .bool t] 57)) := (Below.refl _ _).alloc (Nat.le_refl _) _
      have HNX := Lib.hid hnx
      have HO1 := Lib.hid (HO.out.below hal)
      have HB1 := Lib.hid (below_then HB.out hal)
      clear hx hnx hal
      go_wp2_with (at_builtin; (refine append1 w.heap.size 77 3 32 (.agg #[.string ⟨#[]⟩, .int .i64 0, .bool false]) rfl (.tmp 12) (.tmp 20) 61 rfl Tryd.underlying61 (by kernel_rfl) rfl (by decide) (by decide) _ (rwC (l.take j)) (enC (key, n, t)) rfl _ rfl (by simp) rfl (enC_one _) HO1.out HB1.out.size (by rw [rwC_len]; simp; omega) ?_); intro v1 w1 hown1 hfr1; have HO2 := Lib.hid hown1; have HB2 := Lib.hid (HO1.out.fr_below HB1.out HB1.out.size hfr1); clear hown1 hfr1)
      go_roundg (ln - (j + 1))
      case measure => omega
      case rel => exact ⟨j + 1, by omega, rfl, rfl, Lib.hid (by rw [HNX.out]; exact HO2.out), HB2⟩
    · obtain rfl : j = ln := by omega
      have hO := HO.out
      rw [List.take_of_length_le (by rw [HNL.out]; exact Nat.le_refl _)] at hO
      have HO2 := Lib.hid hO
      clear hO
      go_wp2_with fail
      exact ⟨_, rfl, HO2.out, HB.out⟩

def cutCg (r : Cg) : Cg := (cut20 r.1, r.2)
def cutCs (l : List Cg) : List Cg := (l.take 20).map cutCg
theorem cutCs_end {l : List Cg} {j : Nat} (hj : j ≤ 20) (h : j = l.length ∨ (j = 20)) : (l.take j).map cutCg = cutCs l := by
  unfold cutCs
  rcases h with rfl | rfl
  · rw [List.take_of_length_le (Nat.le_refl _), List.take_of_length_le hj]
  · rfl
theorem cutCs_next {l : List Cg} {j : Nat} {r : Cg} (h : l[j]? = some r) : rwC ((l.take (j + 1)).map cutCg) = rwC ((l.take j).map cutCg) ++ [enC (cutCg r)] := by
  have hj := (List.getElem?_eq_some_iff.1 h).1
  have e : l[j] = r := (List.getElem?_eq_some_iff.1 h).2
  rw [List.take_succ_eq_append_getElem hj, e]
  simp [rwC]
set_option maxHeartbeats 4000000 in
theorem lchanges (A : Option Addr) (c : Nat) (l : List Cg) (w : World) (hr : RowsAt w 3 A (rwC l)) (hl : l.length ≤ 9223372036854775807) (hc : l.length ≤ c) :
    Calls Tryd.prog 26 #[.slice A l.length c] w (ChPost 77 (cutCs l) w) := by
  refine via fun Q hQ => ?_
  have HR := Lib.hid hr
  clear hr
  generalize hn : l.length = ln at *
  have HNL := Lib.hid hn
  clear hn
  go_enter Tryd.func26, Tryd.ntmps26
  go_wp2_with fail
  go_loopg [3, 8] ln (fun g x3 x8 wr => ∃ j : Nat, j ≤ ln ∧ j ≤ 20 ∧ g = ln - j ∧ x8 = .int .i64 j ∧ Hid (Own wr w.heap.size 77 3 x3 (rwC ((l.take j).map cutCg))) ∧ Hid (Below w.heap.size w wr))
  case atStart => exact ⟨0, Nat.zero_le _, Nat.zero_le _, rfl, rfl, Lib.hid (Own.nil _ _ _ _), Lib.hid (Below.refl _ _)⟩
  case round =>
    obtain ⟨j, hj, hj12, rfl, rfl, HO, HB⟩ := hrel
    by_cases hlt : j < ln
    · have hx : l[j]? = some (l[j]'(by rw [HNL.out]; exact hlt)) := List.getElem?_eq_getElem _
      generalize l[j]'(by rw [HNL.out]; exact hlt) = r at hx
      have hnx := cutCs_next hx
      obtain ⟨key, n, t⟩ := r
      obtain ⟨b, o, hA, c1, c2, c3⟩ := chAt (HR.out.below HB.out) hx
      subst hA
      simp only at c1 c2 c3
      have hal : Below wr.heap.size wr (wr.alloc (.cells #[.string key, .int .i64 n, .bool t] 77)) := (Below.refl _ _).alloc (Nat.le_refl _) _
      by_cases h12 : j < 20
      · by_cases hk : 20 < key.size
        · have HNX := Lib.hid (show rwC ((l.take (j + 1)).map cutCg) = rwC ((l.take j).map cutCg) ++ [enC (key.extract 0 20, n, t)] by rw [hnx, cutCg, cut20, if_pos hk])
          have hal2 : Below wr.heap.size wr (wr.alloc (.cells #[.string (key.extract 0 20), .int .i64 n, .bool t] 77)) := (Below.refl _ _).alloc (Nat.le_refl _) _
          have HO1 := Lib.hid (HO.out.below hal2)
          have HB1 := Lib.hid (below_then HB.out hal2)
          clear hx hnx hal hal2
          go_wp2_with (at_builtin; (refine append1 w.heap.size 77 3 32 (.agg #[.string ⟨#[]⟩, .int .i64 0, .bool false]) rfl (.tmp 23) (.tmp 25) 61 rfl Tryd.underlying61 (by kernel_rfl) rfl (by decide) (by decide) _ (rwC ((l.take j).map cutCg)) (enC (key.extract 0 20, n, t)) rfl _ rfl (by simp) rfl (enC_one _) HO1.out HB1.out.size (by rw [rwC_len]; simp; omega) ?_); intro v1 w1 hown1 hfr1; have HO2 := Lib.hid hown1; have HB2 := Lib.hid (HO1.out.fr_below HB1.out HB1.out.size hfr1); clear hown1 hfr1)
          go_roundg (ln - (j + 1))
          case measure => omega
          case rel => exact ⟨j + 1, by omega, by omega, rfl, rfl, Lib.hid (by rw [HNX.out]; exact HO2.out), HB2⟩
        · have HNX := Lib.hid (show rwC ((l.take (j + 1)).map cutCg) = rwC ((l.take j).map cutCg) ++ [enC (key, n, t)] by rw [hnx, cutCg, cut20, if_neg hk])
          have HO1 := Lib.hid (HO.out.below hal)
          have HB1 := Lib.hid (below_then HB.out hal)
          clear hx hnx hal
          go_wp2_with (at_builtin; (refine append1 w.heap.size 77 3 32 (.agg #[.string ⟨#[]⟩, .int .i64 0, .bool false]) rfl (.tmp 23) (.tmp 25) 61 rfl Tryd.underlying61 (by kernel_rfl) rfl (by decide) (by decide) _ (rwC ((l.take j).map cutCg)) (enC (key, n, t)) rfl _ rfl (by simp) rfl (enC_one _) HO1.out HB1.out.size (by rw [rwC_len]; simp; omega) ?_); intro v1 w1 hown1 hfr1; have HO2 := Lib.hid hown1; have HB2 := Lib.hid (HO1.out.fr_below HB1.out HB1.out.size hfr1); clear hown1 hfr1)
          go_roundg (ln - (j + 1))
          case measure => omega
          case rel => exact ⟨j + 1, by omega, by omega, rfl, rfl, Lib.hid (by rw [HNX.out]; exact HO2.out), HB2⟩
      · have HO1 := Lib.hid (HO.out.below hal)
        have HB1 := Lib.hid (below_then HB.out hal)
        have HE := Lib.hid (cutCs_end (l := l) hj12 (.inr (by omega)))
        clear hx hnx hal
        go_wp2_with fail
        exact ⟨_, rfl, by rw [← HE.out]; exact HO1.out, HB1.out⟩
    · have HE := Lib.hid (cutCs_end (l := l) hj12 (.inl (by have := HNL.out; omega)))
      go_wp2_with fail
      exact ⟨_, rfl, by rw [← HE.out]; exact HO.out, HB.out⟩
set_option maxHeartbeats 2000000 in
theorem lalike (A B : Option Addr) (c d : Nat) (l : List Cg) (w : World) (hr : RowsAt w 3 A (rwC l)) (hs : RowsAt w 3 B (rwC l)) (hl : l.length ≤ 1000000) (hc : l.length ≤ c) (hd : l.length ≤ d) :
    Calls Tryd.prog 30 #[.slice A l.length c, .slice B l.length d] w (YesPost w) := by
  refine via fun Q hQ => ?_
  have HR := Lib.hid hr
  have HS := Lib.hid hs
  clear hr hs
  generalize hn : l.length = n at *
  have HNL := Lib.hid hn
  clear hn
  go_enter Tryd.func30, Tryd.ntmps30
  go_wp2_with fail
  go_loopg [13] n (fun g x wr => ∃ j : Nat, j ≤ n ∧ g = n - j ∧ x = .int .i64 j ∧ Hid (Below w.heap.size w wr))
  case atStart => exact ⟨0, Nat.zero_le _, rfl, rfl, Lib.hid (Below.refl _ _)⟩
  case round =>
    obtain ⟨j, hj, rfl, rfl, HB⟩ := hrel
    by_cases hlt : j < n
    · have hx : l[j]? = some (l[j]'(by rw [HNL.out]; exact hlt)) := List.getElem?_eq_getElem _
      generalize l[j]'(by rw [HNL.out]; exact hlt) = r at hx
      obtain ⟨b, o, hA, c1, c2, c3⟩ := chAt (HR.out.below HB.out) hx
      obtain ⟨b', o', hA', d1, d2, d3⟩ := chAt (HS.out.below HB.out) hx
      subst hA hA'
      obtain ⟨kk, nn, t⟩ := r
      simp only at c1 c2 c3 d1 d2 d3
      clear hx
      have hst := str_same (rfl : kk = kk)
      have h0 : (0 : Int) ≤ (j : Int) := by omega
      have h1 : (j : Int) < (n : Int) := by omega
      go_wp2_with fail
      go_quiet (fail)
      have HB1 := Lib.hid (below_then HB.out (drew_below wr nq))
      go_wp2_with fail
      go_roundg (n - (j + 1))
      case measure => omega
      case rel => exact ⟨j + 1, by omega, rfl, rfl, HB1⟩
    · obtain rfl : j = n := by omega
      go_wp2
      exact ⟨rfl, HB.out⟩
end Go.Proofs.YticgnakjnhdfhaaDoor
end

section
set_option linter.unusedVariables false
set_option maxRecDepth 100000
namespace Go.Proofs.YticgnakjnhdfhaaDoor
open Go.Proofs.BL Go.Proofs.Peel Go.RowKit Go.Proofs.Ky

def appW (l : List Rw) (cs : List Cg) : List Rw × Int :=
  if cs.any (fun c => !(mayC c)) then (l, 2) else match appR tx l cs with | some m => (m, 0) | none => (l, 5)
theorem appW_V {l : List Rw} (h : Fit tx l) (cs : List Cg) : appW l cs = appV l cs := by
  unfold appW appV
  rw [app_same tx cs l h]
  try (cases appP tx l cs <;> rfl)
theorem appW_if (l : List Rw) (cs : List Cg) : (cs.any (fun c => !(mayC c)) = true → appW l cs = (l, 2)) ∧ (cs.any (fun c => !(mayC c)) = false → (appR tx l cs = none → appW l cs = (l, 5)) ∧ ∀ m, appR tx l cs = some m → appW l cs = (m, 0)) := by
  unfold appW
  refine ⟨fun h => if_pos h, fun h => ⟨fun h2 => ?_, fun m h2 => ?_⟩⟩
  · rw [if_neg (by rw [h]; simp), h2]
  · rw [if_neg (by rw [h]; simp), h2]
def chB (c : Cg) (l : List Rw) : List Rw := withX c.1 c.2.1 c.2.2 l
theorem chB_eq (c : Cg) (l : List Rw) : chB c l = withR tx c.1 (if c.2.2 then some c.2.1 else none) l := withX_eq _ _ _ _
theorem appR_cons (c : Cg) (l : List Rw) (cs : List Cg) : appR tx l (c :: cs) = if 256 < (chB c l).length then none else appR tx (chB c l) cs := by
  rw [chB_eq]; rfl
theorem fit_chB {c : Cg} {l : List Rw} (h : Fit tx l) (hn : ¬ 256 < (chB c l).length) : Fit tx (chB c l) := by
  refine ⟨?_, by omega⟩
  rw [chB_eq]
  split
  · exact up_with_some tx _ h.1
  · exact up_with_none tx h.1
theorem chB_len {c : Cg} {l : List Rw} (h : Fit tx l) : (chB c l).length ≤ 257 := by rw [chB_eq]; exact fit_with_len h _ _
def RApPost (ls : List Part) (r : List Rw × Int) (e : Ending) (w' : World) : Prop :=
  ∃ A' c', e = .returned (.tuple #[.slice A' r.1.length c', .int .i64 r.2]) ∧ r.1.length ≤ c' ∧ Sat (roR 2 A' (rwR r.1) :: ls) w'
set_option maxHeartbeats 8000000 in
theorem rApply (A B : Option Addr) (c d : Nat) (l : List Rw) (cs : List Cg) (ls : List Part) (w : World) (h : Sat (roR 2 A (rwR l) :: roR 3 B (rwC cs) :: ls) w) (hfit : Fit tx l) (hl : cs.length ≤ 1000000) (hd : cs.length ≤ d) (hc : l.length ≤ c) :
    Calls Tryd.prog 27 #[.slice A l.length c, .slice B cs.length d] w (RApPost (roR 2 A (rwR l) :: roR 3 B (rwC cs) :: ls) (appW l cs)) := by
  refine via fun Q hQ => ?_
  have HFit := Lib.hid hfit
  have HS := Lib.hid h
  have HCl := Lib.hid hc
  have haw := appW_if l cs
  have HAw := Lib.hid haw
  clear h hfit hc haw
  generalize hn : cs.length = n at *
  have HNL := Lib.hid hn
  clear hn
  go_enter Tryd.func27, Tryd.ntmps27
  go_wp2_with fail
  go_loopg [13] n (fun g x13 wr => ∃ (j : Nat), j ≤ n ∧ g = n - j ∧ x13 = .int .i64 j ∧ Hid ((cs.take j).any (fun c => !(mayC c)) = false) ∧ Hid (Sat (roR 2 A (rwR l) :: roR 3 B (rwC cs) :: ls) wr))
  case atStart => exact ⟨0, Nat.zero_le _, rfl, rfl, Lib.hid rfl, HS⟩
  case round =>
    obtain ⟨j, hj, rfl, rfl, HT, HSr⟩ := hrel
    by_cases hlt : j < n
    · have hx : cs[j]? = some (cs[j]'(by rw [HNL.out]; exact hlt)) := List.getElem?_eq_getElem _
      generalize cs[j]'(by rw [HNL.out]; exact hlt) = r at hx
      obtain ⟨b, o, hA, c1, c2, c3⟩ := chAt HSr.out.s1.rows_ hx
      subst hA
      have hnx := any_nextC hx HT.out
      obtain ⟨key, nn, t⟩ := r
      simp only at c1 c2 c3
      have HNX := Lib.hid hnx
      have hmc : mayC (key, nn, t) = (decide (key.size ≤ 16) && (t || decide (nn = 0))) := rfl
      have HMc := Lib.hid hmc
      have HSa := Lib.hid (HSr.out.below ((Below.refl wr.heap.size wr).alloc (Nat.le_refl _) (.cells #[.string key, .int .i64 nn, .bool t] 77)))
      clear hx hnx hmc
      by_cases hk : key.size ≤ 16
      · have hk2 : decide ((key.size : Int) > 16) = false := decide_eq_false (by omega)
        cases t with
        | true =>
          have HG := Lib.hid (HNX.out.2 (by show (!(mayC (key, nn, true))) = false; rw [HMc.out]; simp [hk]))
          go_wp2_with fail
          go_roundg (n - (j + 1))
          case measure => omega
          case rel => exact ⟨j + 1, by omega, rfl, rfl, HG, HSa⟩
        | false =>
          by_cases hz : nn = 0
          · subst hz
            have HG := Lib.hid (HNX.out.2 (by show (!(mayC (key, 0, false))) = false; rw [HMc.out]; simp [hk]))
            go_wp2_with fail
            go_roundg (n - (j + 1))
            case measure => omega
            case rel => exact ⟨j + 1, by omega, rfl, rfl, HG, HSa⟩
          · have hzb : (nn != 0) = true := bne_iff_ne.2 hz
            have HBd := Lib.hid (HNX.out.1 (by show (!(mayC (key, nn, false))) = true; rw [HMc.out]; simp [hz]))
            have HE := Lib.hid (HAw.out.1 HBd.out)
            clear hz
            go_wp2_with fail
            exact ⟨A, c, by rw [HE.out]; rfl, by rw [HE.out]; exact HCl.out, by rw [HE.out]; exact HSa.out.two⟩
      · have hk2 : decide ((key.size : Int) > 16) = true := decide_eq_true (by omega)
        have hk3 : (key.size : Int) > 16 := by omega
        have HBd := Lib.hid (HNX.out.1 (by show (!(mayC (key, nn, t))) = true; rw [HMc.out]; simp [hk]))
        have HE := Lib.hid (HAw.out.1 HBd.out)
        clear hk
        go_wp2_with fail
        exact ⟨A, c, by rw [HE.out]; rfl, by rw [HE.out]; exact HCl.out, by rw [HE.out]; exact HSa.out.two⟩
    · obtain rfl : j = n := by omega
      have hT := HT.out
      rw [List.take_of_length_le (by rw [HNL.out]; exact Nat.le_refl _)] at hT
      have HE := Lib.hid (HAw.out.2 hT)
      have HS2 := Lib.hid HSr.out.two
      clear hT
      obtain ⟨wo, rfl⟩ : ∃ wo : World, wo = wr := ⟨_, rfl⟩
      go_wp2_with fail
      go_loopg [8, 36] j (fun g x8 x36 wr => ∃ (i : Nat) (l1 : List Rw) (A1 : Option Addr) (c1 : Nat), i ≤ j ∧ g = j - i ∧ x36 = .int .i64 i ∧ x8 = .slice A1 l1.length c1 ∧ Hid (l1.length ≤ c1) ∧ Hid (Fit tx l1) ∧ Hid (appR tx l cs = appR tx l1 (cs.drop i)) ∧ Hid (Sat (roR 2 A1 (rwR l1) :: roR 2 A (rwR l) :: roR 3 B (rwC cs) :: ls) wr))
      case atStart => exact ⟨0, l, A, c, Nat.zero_le _, rfl, rfl, rfl, HCl, HFit, Lib.hid rfl, HS2⟩
      case round =>
        obtain ⟨i, l1, A1, c1, hi, rfl, rfl, rfl, HC1, HF1, HP, HSi⟩ := hrel
        by_cases hlt : i < j
        · have hx : cs[i]? = some (cs[i]'(by rw [HNL.out]; exact hlt)) := List.getElem?_eq_getElem _
          have hdr : cs.drop i = cs[i]'(by rw [HNL.out]; exact hlt) :: cs.drop (i + 1) := List.drop_eq_getElem_cons _
          generalize cs[i]'(by rw [HNL.out]; exact hlt) = r at hx hdr
          obtain ⟨b, o, hA, k1, k2, k3⟩ := chAt HSi.out.s2.rows_ hx
          subst hA
          have hp := HP.out
          rw [hdr, appR_cons] at hp
          have hlen := chB_len (c := r) HF1.out
          have hfc := fit_chB (c := r) HF1.out
          obtain ⟨key, nn, t⟩ := r
          simp only at k1 k2 k3
          have HSa := Lib.hid (HSi.out.below ((Below.refl wr.heap.size wr).alloc (Nat.le_refl _) (.cells #[.string key, .int .i64 nn, .bool t] 77)))
          have hW := with_calls A1 c1 l1 key nn t _ HSa.out.rows_ (by have := HF1.out.2; omega) HC1.out
          have hcb : chB (key, nn, t) l1 = withX key nn t l1 := rfl
          rw [hcb] at hp hlen hfc
          generalize withX key nn t l1 = l2 at hp hlen hfc hW
          have HP2 := Lib.hid hp
          have HW := Lib.hid hW
          have HFc := Lib.hid hfc
          clear hx hdr hp hfc hW hcb
          go_wp2_with fail
          (with_reducible refine HW.out.mono ?_)
          rintro e w4 ⟨v4, rfl, ho4, hb4⟩
          obtain ⟨A4, c4, rfl, hc4, hS4⟩ := HSa.out.fixR hb4 ho4
          have HS4 := Lib.hid hS4
          have HC4 := Lib.hid hc4
          clear ho4 hb4 hS4 hc4 HW k1 k2 k3
          by_cases h256 : 256 < l2.length
          · have HB1 := Lib.hid (show appW l cs = (l, 5) from HE.out.1 (by rw [HP2.out, if_pos h256]))
            go_wp2_with fail
            exact ⟨A, c, by rw [HB1.out]; rfl, by rw [HB1.out]; exact HCl.out, by rw [HB1.out]; exact HS4.out.drop.drop.two⟩
          · have HB1 := Lib.hid (HP2.out.trans (if_neg h256))
            have HF2 := Lib.hid (HFc.out h256)
            have HS5 := Lib.hid HS4.out.s1.drop
            go_wp2_with fail
            go_roundg (j - (i + 1))
            case measure => omega
            case rel => exact ⟨i + 1, l2, A4, c4, by omega, rfl, rfl, rfl, HC4, HF2, HB1, HS5⟩
        · obtain rfl : i = j := by omega
          have hp := HP.out
          rw [List.drop_of_length_le (by rw [HNL.out]; exact Nat.le_refl _)] at hp
          have HB1 := Lib.hid (show appW l cs = (l1, 0) from HE.out.2 _ (by rw [hp]; rfl))
          clear hp
          go_wp2_with fail
          exact ⟨A1, c1, by rw [HB1.out]; rfl, by rw [HB1.out]; exact HC1.out, by rw [HB1.out]; exact HSi.out⟩
end Go.Proofs.YticgnakjnhdfhaaDoor
end

section
set_option linter.unusedVariables false
set_option maxRecDepth 100000
namespace Go.Proofs.YticgnakjnhdfhaaDoor
open Go.Proofs.BL Go.Proofs.Peel Go.RowKit Go.Proofs.Ky

theorem allR_next (l : List Rw) {m : List Rw} {j : Nat} {r : Rw} (h : m[j]? = some r) : allR tx l (m.take (j + 1)) = withR tx r.1 (some r.2) (allR tx l (m.take j)) := by
  obtain ⟨h1, h2⟩ := List.getElem?_eq_some_iff.1 h
  rw [List.take_succ_eq_append_getElem h1, h2]
  simp [allR]
theorem allR_len : ∀ (m l : List Rw), Up tx l → (allR tx l m).length ≤ l.length + m.length
  | [], l, _ => Nat.le_refl _
  | r :: m, l, h => by
    have ih := allR_len m (withR tx r.1 (some r.2) l) (up_with_some tx r.2 h)
    have h2 := len_with tx (k := r.1) (some r.2) h
    have e : allR tx l (r :: m) = allR tx (withR tx r.1 (some r.2) l) m := rfl
    rw [e]
    simp only [List.length_cons]
    omega
/-- What Diff says of some of the rows. -/
def dfn (l m a : List Rw) : List Cg := a.filterMap (fun x => dec x.1 (get x.1 l) (get x.1 m))
theorem dfn_len (l m a : List Rw) (i : Nat) : (dfn l m (a.take i)).length ≤ i :=
  Nat.le_trans (List.length_filterMap_le _ _) (List.length_take_le _ _)
theorem dfn_next (l m : List Rw) {a : List Rw} {i : Nat} {r : Rw} (h : a[i]? = some r) : rwC (dfn l m (a.take (i + 1))) = rwC (dfn l m (a.take i)) ++ (if (get r.1 l).isSome ≠ (get r.1 m).isSome ∨ (get r.1 l).getD 0 ≠ (get r.1 m).getD 0 then [enC (r.1, (get r.1 m).getD 0, (get r.1 m).isSome)] else []) := by
  obtain ⟨h1, h2⟩ := List.getElem?_eq_some_iff.1 h
  rw [List.take_succ_eq_append_getElem h1, h2]
  have e : dfn l m (a.take i ++ [r]) = dfn l m (a.take i) ++ dfn l m [r] := by unfold dfn; rw [List.filterMap_append]
  have e1 : dfn l m [r] = (dec r.1 (get r.1 l) (get r.1 m)).toList := by
    unfold dfn
    rw [List.filterMap_cons]
    cases dec r.1 (get r.1 l) (get r.1 m) <;> rfl
  rw [e, rwC, List.map_append, e1]
  unfold dec
  split <;> rfl
def GP (n : Int) (b : Bool) (w : World) (e : Ending) (w' : World) : Prop := e = .returned (.tuple #[.int .i64 n, .bool b]) ∧ Below w.heap.size w w'
set_option maxHeartbeats 4000000 in
theorem rDiff (A B : Option Addr) (c d : Nat) (l m : List Rw) (w : World) (hr : RowsAt w 2 A (rwR l)) (hs : RowsAt w 2 B (rwR m)) (hf : Fit tx l) (hg : Fit tx m) (hc : l.length ≤ c) (hd : m.length ≤ d) :
    Calls Tryd.prog 32 #[.slice A l.length c, .slice B m.length d] w (ChPost 77 (diffR tx l m) w) := by
  refine via fun Q hQ => ?_
  have HR := Lib.hid hr
  have HS := Lib.hid hs
  have HUp := Lib.hid hf.1
  have hln := hf.2
  have hmn := hg.2
  have HC := Lib.hid hc
  have HD := Lib.hid hd
  clear hr hs hf hg hc hd
  generalize hn : m.length = n at *
  have HNL := Lib.hid hn
  clear hn
  go_enter Tryd.func32, Tryd.ntmps32
  go_wp2_with fail
  go_loopg [5, 18] n (fun g x5 x18 wr => ∃ (j : Nat) (A1 : Option Addr) (c1 : Nat), j ≤ n ∧ g = n - j ∧ x18 = .int .i64 j ∧ x5 = .slice A1 (allR tx l (m.take j)).length c1 ∧ Hid ((allR tx l (m.take j)).length ≤ c1) ∧ Hid (RowsAt wr 2 A1 (rwR (allR tx l (m.take j)))) ∧ Hid (Below w.heap.size w wr))
  case atStart => exact ⟨0, A, c, Nat.zero_le _, rfl, rfl, rfl, HC, HR, Lib.hid (Below.refl _ _)⟩
  case round =>
    obtain ⟨j, A1, c1, hj, rfl, rfl, rfl, HC1, HR1, HB⟩ := hrel
    by_cases hlt : j < n
    · have hx : m[j]? = some (m[j]'(by rw [HNL.out]; exact hlt)) := List.getElem?_eq_getElem _
      generalize m[j]'(by rw [HNL.out]; exact hlt) = r at hx
      have hnx := allR_next l hx
      have hlen : (allR tx l (m.take j)).length ≤ 512 := by
        have h1 := allR_len (m.take j) l HUp.out
        have h2 := List.length_take_le j m
        omega
      obtain ⟨key, nn⟩ := r
      obtain ⟨b, o, hA, k1, k2⟩ := rowAt (HS.out.below HB.out) hx
      subst hA
      simp only at k1 k2 hnx
      generalize allR tx l (m.take j) = l1 at HC1 HR1 hnx hlen ⊢
      have hal : Below wr.heap.size wr (wr.alloc (.cells #[.string key, .int .i64 nn] 49)) := (Below.refl _ _).alloc (Nat.le_refl _) _
      have HB1 := Lib.hid (below_then HB.out hal)
      have hW := with_calls A1 c1 l1 key nn true _ (HR1.out.below hal) (by omega) HC1.out
      rw [withX_eq, if_pos rfl] at hW
      generalize withR tx key (some nn) l1 = l2 at hW hnx
      have HNX := Lib.hid hnx
      have HW := Lib.hid hW
      clear hx hnx hW hal
      go_wp2_with fail
      (with_reducible refine HW.out.mono ?_)
      rintro e w2 ⟨v2, rfl, ho2, hb2⟩
      have HB2 := Lib.hid (below_then HB1.out hb2)
      obtain ⟨A4, c4, hv4, hc4, _, hr4⟩ := ho2.slv'
      rw [rwR_len] at hv4 hc4
      subst hv4
      have HC4 := Lib.hid hc4
      have HR4 := Lib.hid hr4
      clear hc4 hr4 ho2 hb2 HW
      go_wp2_with fail
      go_roundg (n - (j + 1))
      case measure => omega
      case rel => exact ⟨j + 1, A4, c4, by omega, rfl, rfl, by rw [HNX.out], by rw [HNX.out]; exact HC4, by rw [HNX.out]; exact HR4, HB2⟩
    · obtain rfl : j = n := by omega
      have hT : m.take j = m := List.take_of_length_le (by rw [HNL.out]; exact Nat.le_refl _)
      have hlen : (allR tx l m).length ≤ 512 := by
        have h1 := allR_len m l HUp.out
        have h2 := HNL.out
        omega
      have hdf : diffR tx l m = dfn l m (allR tx l m) := rfl
      rw [hT] at HC1 HR1 ⊢
      generalize allR tx l m = a at HC1 HR1 hlen hdf ⊢
      generalize hk : a.length = k at *
      have HKL := Lib.hid hk
      have HDf := Lib.hid hdf
      obtain ⟨wo, rfl⟩ : ∃ wo : World, wo = wr := ⟨_, rfl⟩
      have HRo := Lib.hid (HR.out.below HB.out)
      have HSo := Lib.hid (HS.out.below HB.out)
      clear hT hk hdf HR HS
      go_wp2_with fail
      go_loopg [8, 32] k (fun g x8 x32 wr => ∃ (i : Nat), i ≤ k ∧ g = k - i ∧ x32 = .int .i64 i ∧ Hid (Own wr wo.heap.size 77 3 x8 (rwC (dfn l m (a.take i)))) ∧ Hid (Below wo.heap.size wo wr))
      case atStart => exact ⟨0, Nat.zero_le _, rfl, rfl, Lib.hid (Own.nil _ _ _ _), Lib.hid (Below.refl _ _)⟩
      case round =>
        obtain ⟨i, hi, rfl, rfl, HO, HBo⟩ := hrel
        by_cases hlt : i < k
        · have hx : a[i]? = some (a[i]'(by rw [HKL.out]; exact hlt)) := List.getElem?_eq_getElem _
          generalize a[i]'(by rw [HKL.out]; exact hlt) = r at hx
          have hnx := dfn_next l m hx
          have hdl := dfn_len l m a i
          obtain ⟨key, nn⟩ := r
          obtain ⟨b, o, hA, k1, k2⟩ := rowAt (HR1.out.below HBo.out) hx
          subst hA
          simp only at k1 k2 hnx
          have hg1 : ∀ W, RowsAt W 2 A (rwR l) → Calls Tryd.prog 39 #[.slice A l.length c, .string key] W (GP ((get key l).getD 0) (get key l).isSome W) := fun W h => rget A c l key W h (by omega) HC.out
          have hg2 : ∀ W, RowsAt W 2 B (rwR m) → Calls Tryd.prog 39 #[.slice B j d, .string key] W (GP ((get key m).getD 0) (get key m).isSome W) := fun W h => by
            have := rget B d m key W h (by rw [HNL.out]; omega) (by rw [HNL.out]; exact HD.out)
            rw [HNL.out] at this
            exact this
          generalize (get key l).getD 0 = n1 at hg1 hnx
          generalize (get key m).getD 0 = n2 at hg2 hnx
          generalize (get key l).isSome = b1 at hg1 hnx
          generalize (get key m).isSome = b2 at hg2 hnx
          generalize dfn l m (a.take i) = ds at HO hnx hdl
          have HNX := Lib.hid hnx
          have hal : Below wr.heap.size wr (wr.alloc (.cells #[.string key, .int .i64 nn] 49)) := (Below.refl _ _).alloc (Nat.le_refl _) _
          have HB1 := Lib.hid (below_then HBo.out hal)
          have HO1 := Lib.hid (HO.out.below hal)
          have HG1 := Lib.hid (hg1 _ (HRo.out.below HB1.out))
          have HG2 := Lib.hid hg2
          have HBk := Lib.hid (show Blk (wr.alloc (.cells #[.string key, .int .i64 nn] 49)) wr.heap.size _ _ from Blk.new _ _ _)
          clear hx hnx hal hg1 hg2
          go_wp2_with fail
          (with_reducible refine HG1.out.mono ?_)
          rintro e w2 ⟨rfl, hb2⟩
          have HB2 := Lib.hid (below_then HB1.out hb2)
          have HO2 := Lib.hid (HO1.out.below hb2)
          have HBk2 := Lib.hid (HBk.out.below hb2)
          have d0 := HBk2.out.at_ 0 rfl
          have HG3 := Lib.hid (HG2.out _ (HSo.out.below HB2.out))
          clear hb2 HG1 HG2 k1 k2
          go_wp2_with fail
          (with_reducible refine HG3.out.mono ?_)
          rintro e w3 ⟨rfl, hb3⟩
          have HB3 := Lib.hid (below_then HB2.out hb3)
          have HO3 := Lib.hid (HO2.out.below hb3)
          have d1 := (HBk2.out.below hb3).at_ 0 rfl
          clear hb3 HG3 d0
          by_cases hch : b1 = b2 ∧ n1 = n2
          · obtain ⟨rfl, rfl⟩ := hch
            have HN2 := Lib.hid (HNX.out.trans (by rw [if_neg (by simp), List.append_nil]))
            have hnn : (n1 != n1) = false := bne_self_eq_false _
            cases b1
            all_goals
              go_wp2_with fail
              go_roundg (k - (i + 1))
              case measure => omega
              case rel => exact ⟨i + 1, by omega, rfl, rfl, Lib.hid (by rw [HN2.out]; exact HO3.out), HB3⟩
          · have HN2 := Lib.hid (HNX.out.trans (by rw [if_pos (by by_cases e : b1 = b2; exact .inr (fun e2 => hch ⟨e, e2⟩); exact .inl e)]))
            have hnn : b1 = b2 → (n1 != n2) = true := fun e => bne_iff_ne.2 (fun e2 => hch ⟨e, e2⟩)
            clear hch
            cases b1 <;> cases b2
            all_goals
              try replace hnn := hnn rfl
              go_wp2_with (at_builtin; (refine append1 wo.heap.size 77 3 32 (.agg #[.string ⟨#[]⟩, .int .i64 0, .bool false]) rfl (.tmp 58) (.tmp 64) 61 rfl Tryd.underlying61 (by kernel_rfl) rfl (by decide) (by decide) _ (rwC ds) (enC (key, n2, _)) rfl _ rfl (by simp) rfl (enC_one _) HO3.out HB3.out.size (by rw [rwC_len]; omega) ?_); intro v1 w1 hown1 hfr1; have HO4 := Lib.hid hown1; have HB4 := Lib.hid (HO3.out.fr_below HB3.out HB3.out.size hfr1); clear hown1 hfr1)
              go_roundg (k - (i + 1))
              case measure => omega
              case rel => exact ⟨i + 1, by omega, rfl, rfl, Lib.hid (by rw [HN2.out]; exact HO4.out), HB4⟩
        · obtain rfl : i = k := by omega
          have hO := HO.out
          rw [List.take_of_length_le (by rw [HKL.out]; exact Nat.le_refl _), ← HDf.out] at hO
          have HO2 := Lib.hid (hO.lower HB.out.size)
          have HB2 := Lib.hid (below_then HB.out HBo.out)
          clear hO
          go_wp2_with fail
          exact ⟨_, rfl, HO2.out, HB2.out⟩
end Go.Proofs.YticgnakjnhdfhaaDoor
end

section
set_option linter.unusedVariables false
namespace Go.Proofs.YticgnakjnhdfhaaDoor
open Go.Proofs.BL Go.Proofs.Peel Go.RowKit Go.Proofs.Ky

theorem good_app : ∀ (cs : List Cg) (l m : List Rw), Good l → (∀ c ∈ cs, in64 c.2.1) → (∀ c ∈ cs, mayC c = true) → appR tx l cs = some m → Good m ∧ m.length ≤ l.length + cs.length := by
  intro cs
  induction cs with
  | nil => intro l m hl _ _ h; injection h with h; subst h; exact ⟨hl, Nat.le_refl _⟩
  | cons c cs ih =>
    intro l m hl h64 hm h
    rw [appR_cons] at h
    split at h
    · cases h
    · rename_i hn
      have hg : Good (chB c l) := by
        rw [chB_eq] at hn ⊢
        refine good_with hl _ _ (fun n e => ?_) (by omega)
        have hmc := hm c List.mem_cons_self
        unfold mayC at hmc
        rw [Bool.and_eq_true] at hmc
        split at e
        · injection e with e
          subst e
          exact ⟨h64 c List.mem_cons_self, of_decide_eq_true hmc.1⟩
        · cases e
      have hlen : (chB c l).length ≤ l.length + 1 := by rw [chB_eq]; exact len_with tx _ hl.1.1
      have := ih (chB c l) m hg (fun x hx => h64 x (List.mem_cons_of_mem _ hx)) (fun x hx => hm x (List.mem_cons_of_mem _ hx)) h
      refine ⟨this.1, ?_⟩
      rw [List.length_cons]
      omega
theorem good_appV {l : List Rw} (hl : Good l) {cs : List Cg} (h64 : ∀ c ∈ cs, in64 c.2.1) : Good (appV l cs).1 ∧ (appV l cs).1.length ≤ l.length + cs.length := by
  rw [← appW_V hl.1]
  obtain ⟨h1, h2⟩ := appW_if l cs
  cases hb : cs.any (fun c => !(mayC c)) with
  | true => rw [h1 hb]; exact ⟨hl, Nat.le_add_right _ _⟩
  | false =>
    cases hr : appR tx l cs with
    | none => rw [(h2 hb).1 hr]; exact ⟨hl, Nat.le_add_right _ _⟩
    | some m =>
      rw [(h2 hb).2 m hr]
      refine good_app cs l m hl h64 (fun c hc => ?_) hr
      have := List.any_eq_false.1 hb c hc
      simpa using this
theorem get_mem {k : ByteArray} {n : Int} : ∀ {l : List Rw}, get k l = some n → (k, n) ∈ l := by
  intro l
  induction l with
  | nil => intro h; cases h
  | cons r l ih =>
    intro h
    rw [get_cons] at h
    split at h
    · rename_i e
      injection h with h
      subst e h
      exact List.mem_cons_self
    · exact List.mem_cons_of_mem _ (ih h)
theorem dif_mem {l m : List Rw} (hl : Good l) (hm : Good m) : ∀ c ∈ diffR tx l m, mayC c = true ∧ in64 c.2.1 := by
  intro c hc
  unfold diffR at hc
  obtain ⟨x, hx, hd⟩ := List.mem_filterMap.1 hc
  unfold dec at hd
  split at hd
  · rename_i hne
    injection hd with hd
    subst hd
    refine ⟨?_, get64 hm.2.1 _⟩
    have hk : x.1.size ≤ 16 := by
      cases hg : get x.1 m with
      | some n => exact hm.2.2 (x.1, n) (get_mem hg)
      | none =>
        cases hg2 : get x.1 l with
        | some n => exact hl.2.2 (x.1, n) (get_mem hg2)
        | none => rw [hg, hg2] at hne; simp at hne
    unfold mayC
    cases hg : get x.1 m <;> simp [hk]
  · cases hd
theorem dif_refl (l : List Rw) : diffR tx l l = [] := by
  unfold diffR
  apply List.filterMap_eq_nil_iff.2
  intro x _
  unfold dec
  rw [if_neg (by simp)]
theorem dif_nil {l m : List Rw} (hl : Good l) (hm : Good m) : diffR tx l m = [] ↔ l = m := by
  constructor
  · intro h
    have := diff_makes tx hl.1.1 hm.1.1
    rw [h] at this
    exact this
  · intro h
    subst h
    exact dif_refl l
theorem dif_app {l m : List Rw} (hl : Good l) (hm : Good m) (hlen : l.length + (diffR tx l m).length ≤ 256) : appV l (diffR tx l m) = (m, 0) := by
  rw [← appW_V hl.1]
  refine ((appW_if l _).2 (List.any_eq_false.2 (fun c hc => by rw [(dif_mem hl hm c hc).1]; simp))).2 m ?_
  rw [app_all tx _ l hl.1.1 hlen, diff_makes tx hl.1.1 hm.1.1]
theorem newP_len2 (rows : List Rw) : (newP tx okK rows []).length ≤ rows.length := by
  have go : ∀ (rows l : List Rw), Fit tx l → (newP tx okK rows l).length ≤ l.length + rows.length := by
    intro rows
    induction rows with
    | nil => intro l _; exact Nat.le_refl _
    | cons r rows ih =>
      intro l hl
      unfold newP
      rw [List.foldl_cons]
      have hstep := new_step tx okK r hl
      have h1 := ih _ (hstep.1 ▸ hstep.2)
      unfold newP at h1
      have h2 : (if okK r.1 = true then (setP tx r.1 r.2 l).getD l else l).length ≤ l.length + 1 := by
        rw [hstep.1]
        split
        · exact len_with tx (k := r.1) (some r.2) hl.1
        · omega
      rw [List.length_cons]
      omega
  have := go rows [] fit_nil
  simpa using this
theorem cutCs_len (l : List Cg) : (cutCs l).length ≤ 20 := by simp [cutCs]; omega
theorem c64_cut {l : List Cg} (h : ∀ c ∈ l, in64 c.2.1) : ∀ c ∈ cutCs l, in64 c.2.1 := fun c hc => by
  obtain ⟨x, hx, rfl⟩ := List.mem_map.1 hc
  exact h x (List.mem_of_mem_take hx)
theorem Sat.fixC {l : List Part} {w w' : World} {v : Value} {E : TypeId} {rows : List Cg} (h : Sat l w) (hb : Below w.heap.size w w') (ho : Own w' w.heap.size E 3 v (rwC rows)) (ht : isErrT E = false := by rfl) :
    ∃ A c, v = .slice A rows.length c ∧ rows.length ≤ c ∧ Sat (roR 3 A (rwC rows) :: l) w' := by
  obtain ⟨A, c, e, hc, _, hS⟩ := (h.made hb ho ht).still
  rw [rwC_len] at e hc
  exact ⟨A, c, e, hc, hS⟩
end Go.Proofs.YticgnakjnhdfhaaDoor
end

section
set_option linter.unusedVariables false
namespace Go.Proofs.YticgnakjnhdfhaaDoor
open Go.Proofs.BL Go.Proofs.Peel Go.RowKit Go.Proofs.Ky

def keyN (i : Nat) : ByteArray := (ByteArray.empty.push (UInt8.ofNat (97 + i / 26 % 26))).push (UInt8.ofNat (97 + i % 26))
theorem keyN_size (i : Nat) : (keyN i).size = 2 := rfl
theorem u8_inj {a b : Nat} (ha : a < 256) (hb : b < 256) (h : UInt8.ofNat a = UInt8.ofNat b) : a = b := by
  have := congrArg UInt8.toNat h
  rw [UInt8.toNat_ofNat', UInt8.toNat_ofNat', Nat.mod_eq_of_lt (by omega), Nat.mod_eq_of_lt (by omega)] at this
  exact this
theorem keyN_inj {i j : Nat} (hi : i < 676) (hj : j < 676) (h : keyN i = keyN j) : i = j := by
  have hd : (keyN i).data.toList = (keyN j).data.toList := by rw [h]
  have hd2 : [UInt8.ofNat (97 + i / 26 % 26), UInt8.ofNat (97 + i % 26)] = [UInt8.ofNat (97 + j / 26 % 26), UInt8.ofNat (97 + j % 26)] := hd
  injection hd2 with h1 h2
  injection h2 with h2 _
  have e1 := u8_inj (by omega) (by omega) h1
  have e2 := u8_inj (by omega) (by omega) h2
  omega
def rowsN (n : Nat) : List Rw := (List.range n).map (fun i => (keyN i, (i : Int)))
theorem rowsN_len (n : Nat) : (rowsN n).length = n := by simp [rowsN]
theorem rowsN_next (n : Nat) : rowsN (n + 1) = rowsN n ++ [(keyN n, (n : Int))] := by simp [rowsN, List.range_succ]
theorem rowsN_at {n i : Nat} (h : i < n) : (rowsN n)[i]? = some (keyN i, (i : Int)) := by
  unfold rowsN
  rw [List.getElem?_map, List.getElem?_range h]
  rfl
theorem rowsN_apart {n : Nat} (hn : n ≤ 676) : (rowsN n).Pairwise (fun a b => a.1 ≠ b.1) := by
  unfold rowsN
  rw [List.pairwise_map]
  refine List.Pairwise.imp_of_mem ?_ (List.pairwise_lt_range (n := n))
  intro a b ha hb hab e
  have := keyN_inj (by have := List.mem_range.1 ha; omega) (by have := List.mem_range.1 hb; omega) e
  omega
/-- New: as many as there is room for. -/
theorem newN_len {n : Nat} (hn : n ≤ 676) : (newP tx okK (rowsN n) []).length = min n 256 := by
  rw [(new_same tx okK (rowsN n) [] fit_nil).1, new_len tx okK (rowsN n) [] fit_nil ?_ (rowsN_apart hn), rowsN_len]
  · simp
  · intro r hr
    obtain ⟨i, _, rfl⟩ := List.mem_map.1 hr
    exact ⟨rfl, rfl⟩
def chgN (n : Nat) : List Cg := (rowsN n).map (fun r => (r.1, r.2, true))
/-- Apply: all, or none. -/
theorem appN {n : Nat} (hn : n ≤ 676) : (appV [] (chgN n)).2 = (if n ≤ 256 then 0 else 5) ∧ ((appV [] (chgN n)).2 ≠ 0 → (appV [] (chgN n)).1 = []) := by
  rw [← appW_V fit_nil]
  have hm : (chgN n).any (fun c => !(mayC c)) = false := by
    refine List.any_eq_false.2 (fun c hc => ?_)
    unfold chgN rowsN at hc
    rw [List.map_map] at hc
    obtain ⟨i, _, rfl⟩ := List.mem_map.1 hc
    simp [mayC, keyN_size]
  have ha := app_new tx (rowsN n) [] fit_nil (fun r hr => rfl) (rowsN_apart hn)
  rw [rowsN_len] at ha
  have h := (appW_if [] (chgN n)).2 hm
  cases hr : appR tx [] (chgN n) with
  | none =>
    rw [h.1 hr]
    have : ¬ n ≤ 256 := fun e => by
      have := ha.2 (by simpa using e)
      unfold chgN at hr
      rw [hr] at this
      cases this
    rw [if_neg this]
    exact ⟨rfl, fun _ => rfl⟩
  | some m =>
    rw [h.2 m hr]
    have : n ≤ 256 := by
      have := ha.1 (by unfold chgN at hr; rw [hr]; rfl)
      simpa using this
    rw [if_pos this]
    exact ⟨rfl, fun e => absurd rfl e⟩
end Go.Proofs.YticgnakjnhdfhaaDoor
end

section
set_option linter.unusedVariables false
set_option maxRecDepth 100000
namespace Go.Proofs.YticgnakjnhdfhaaDoor
open Go.Proofs.BL Go.Proofs.Peel Go.RowKit Go.Proofs.Ky Go.Proofs.YticgnakjnhdfhaaDoor.Gv

theorem keyN_let (i : Nat) : letB (BL.txt (keyN i)) = true := by
  have h : BL.txt (keyN i) = [UInt8.ofNat (97 + i / 26 % 26), UInt8.ofNat (97 + i % 26)] := rfl
  rw [h]
  have go : ∀ a, a < 26 → okN (UInt8.ofNat (97 + a)).toNat = true := by decide
  unfold letB
  simp only [List.all_cons, List.all_nil, Bool.and_true, List.isEmpty_cons, Bool.not_false]
  rw [go _ (by omega), go _ (by omega)]
  rfl
theorem keyN_may (i : Nat) (n : Int) : mayB 2 (keyN i) n 0 = true := by
  unfold mayB plainB keyB
  rw [keyN_let, keyN_size]
  simp
theorem ev_put (i : Nat) (n : Int) (g : Option Int) : evO ⟨2, keyN i, n, 0⟩ g = .ok (some n, n) := by
  unfold evO evR
  simp only [keyN_may]
  rfl
/-- A row put: it is there, or there was no room. -/
theorem put_one (i : Nat) (n : Int) (l : List Rw) : ∃ ts, runV l [⟨2, keyN i, n, 0⟩] = ((setP tx (keyN i) n l).getD l, ts, 0, if (setP tx (keyN i) n l).isSome then 0 else 5) := by
  unfold runV runA
  simp only [runP, ev_put]
  cases h : setP tx (keyN i) n l with
  | none => exact ⟨[], rfl⟩
  | some m => exact ⟨[n], rfl⟩
def putN (n : Nat) : List Rw := newP tx okK (rowsN n) []
theorem putN_zero : putN 0 = [] := rfl
theorem putN_next (n : Nat) : putN (n + 1) = (setP tx (keyN n) n (putN n)).getD (putN n) := by
  unfold putN
  rw [rowsN_next]
  unfold newP
  rw [List.foldl_append, List.foldl_cons, List.foldl_nil, show okK (keyN n) = true from rfl, if_pos rfl]
theorem putN_fit (n : Nat) : Fit tx (putN n) := by
  unfold putN
  rw [(new_same tx okK (rowsN n) [] fit_nil).1]
  exact (new_same tx okK (rowsN n) [] fit_nil).2
theorem putN_len {n : Nat} (hn : n ≤ 676) : (putN n).length = min n 256 := newN_len hn
theorem putN_get {n : Nat} (hn : n < 676) : ∀ m, m ≤ n → get (keyN n) (putN m) = none := by
  intro m
  induction m with
  | zero => intro _; rfl
  | succ m ih =>
    intro hmn
    have hfm := putN_fit m
    rw [putN_next, set_with tx hfm.1 hfm.2]
    split
    · exact ih (by omega)
    · rw [Option.getD_some, get_with, if_neg (fun e => by have := keyN_inj hn (by omega) e; omega)]
      exact ih (by omega)
theorem putN_some {n : Nat} (hn : n < 676) : (setP tx (keyN n) n (putN n)).isSome = decide (n < 256) := by
  have h1 := putN_len (n := n) (by omega)
  have hf := putN_fit n
  have h3 := with_new_len tx n hf.1 (putN_get hn n (Nat.le_refl _))
  rw [set_with tx hf.1 hf.2]
  by_cases h : n < 256
  · rw [decide_eq_true h, if_neg (by omega)]; rfl
  · rw [decide_eq_false h, if_pos (by omega)]; rfl
theorem putN_run {n : Nat} (hn : n < 676) : ∃ ts, runV (putN n) [⟨2, keyN n, n, 0⟩] = (putN (n + 1), ts, 0, if n < 256 then 0 else 5) := by
  obtain ⟨ts, h⟩ := put_one n n (putN n)
  refine ⟨ts, h.trans ?_⟩
  rw [putN_next, putN_some hn]
  by_cases h : n < 256 <;> simp [h]
theorem putN_64 (n : Nat) (hn : n ≤ 676) : R64 (putN n) := by
  induction n with
  | zero => intro r hr; cases hr
  | succ n ih =>
    have hfm := putN_fit n
    rw [putN_next, set_with tx hfm.1 hfm.2]
    split
    · exact ih (by omega)
    · exact r64_with (ih (by omega)) _ (some (n : Int)) (fun k hk => by injection hk with hk; subst hk; unfold in64; omega)
end Go.Proofs.YticgnakjnhdfhaaDoor
end

section
set_option linter.unusedVariables false
set_option linter.unusedSimpArgs false
set_option maxRecDepth 100000
namespace Go.Proofs.YticgnakjnhdfhaaDoor
open Go.Proofs.BL Go.Proofs.Peel Go.RowKit Go.Proofs.Ky

theorem chgN_next (n : Nat) : chgN (n + 1) = chgN n ++ [(keyN n, (n : Int), true)] := by
  unfold chgN
  rw [rowsN_next, List.map_append]; rfl
theorem chgN_len (n : Nat) : (chgN n).length = n := by unfold chgN; rw [List.length_map, rowsN_len]
theorem keyN_lit (j : Nat) : (⟨[UInt8.ofNat (97 + j / 26 % 26), UInt8.ofNat (97 + j % 26)].toArray⟩ : ByteArray) = keyN j := rfl
theorem key_conv (j : Nat) (W : World) (m : Nat) (hm : W.heap.size = m) (x y : Int) (hx : x = ((97 + j / 26 % 26 : Nat) : Int)) (hy : y = ((97 + j % 26 : Nat) : Int)) :
    (convert 54 9 (.slice (some ⟨m, 0, none⟩) 2 2)).run Tryd.prog (W.alloc (.cells #[.int .u8 x, .int .u8 y] 5)) = .ok (.string (keyN j)) (W.alloc (.cells #[.int .u8 x, .int .u8 y] 5)) := by
  subst hm hx hy
  have h8 : ∀ a, a < 26 → ((UInt8.ofNat (97 + a)).toNat : Int) = ((97 + a : Nat) : Int) := by decide
  have hb : Blk (W.alloc (.cells #[.int .u8 ((97 + j / 26 % 26 : Nat) : Int), .int .u8 ((97 + j % 26 : Nat) : Int)] 5)) W.heap.size _ 5 := Blk.new W _ _
  refine (run_str (P := Tryd.prog) _ 54 9 5 Tryd.underlying54 Tryd.underlying5 Tryd.underlying9 (some ⟨W.heap.size, 0, none⟩) 2 2 [UInt8.ofNat (97 + j / 26 % 26), UInt8.ofNat (97 + j % 26)] rfl ?_).trans (by rw [keyN_lit])
  intro i r hi
  refine ⟨W.heap.size, 0, rfl, fun q u hq => ?_⟩
  rw [hb.cell]
  rcases i with _ | _ | i
  · simp only [List.map_cons, List.getElem?_cons_zero, Option.some.injEq] at hi
    subst hi
    rcases q with _ | q
    · simp only [enB, List.getElem?_cons_zero, Option.some.injEq] at hq
      rw [h8 _ (by omega)] at hq
      subst hq
      rfl
    · simp [enB] at hq
  · simp only [List.map_cons, List.getElem?_cons_zero, List.getElem?_cons_succ, Option.some.injEq] at hi
    subst hi
    rcases q with _ | q
    · simp only [enB, List.getElem?_cons_zero, Option.some.injEq] at hq
      rw [h8 _ (by omega)] at hq
      subst hq
      rfl
    · simp [enB] at hq
  · simp at hi

set_option maxHeartbeats 8000000 in
theorem lawMost (over way : Int) (W : World) (hE : ErrT W) :
    Calls Tryd.prog 7 #[.int .i64 over, .int .i64 way] W (LawPost W) := by
  refine via fun Q hQ => ?_
  have HS0 := Lib.hid (((Sat.start W).old_err hE).nilR 49 2 |>.nilR 57 3 |>.s1)
  obtain ⟨n, hn, h1, h2⟩ : ∃ n : Nat, 256 + Int.tmod over 10 = (n : Int) ∧ 247 ≤ n ∧ n ≤ 265 := by
    have := Int.tmod_lt_of_pos over (show (0 : Int) < 10 by decide)
    have h3 := Int.lt_tmod_of_pos over (show (0 : Int) < 10 by decide)
    exact ⟨(256 + Int.tmod over 10).toNat, by omega, by omega, by omega⟩
  have hm1 : -9 ≤ Int.tmod over 10 := by omega
  have hm2 : Int.tmod over 10 ≤ 9 := by omega
  have HN := Lib.hid hn
  clear hn
  go_enter Tryd.func7, Tryd.ntmps7
  go_wp2_with fail
  rw [HN.out]
  clear hm1 hm2
  go_loopg [6, 7, 8] n (fun g x6 x7 x8 wr => ∃ j : Nat, j ≤ n ∧ g = n - j ∧ x8 = .int .i64 j ∧ Hid (Sat (ownR x6 49 2 (rwR (rowsN j)) :: ownR x7 57 3 (rwC (chgN j)) :: errP :: old W :: []) wr))
  case atStart => exact ⟨0, Nat.zero_le _, rfl, rfl, HS0⟩
  case round =>
    obtain ⟨j, hj, rfl, rfl, HSr⟩ := hrel
    by_cases hlt : j < n
    · have hcv := key_conv j wr wr.heap.size rfl (97 + (j : Int) / 26 % 26) (97 + (j : Int) % 26) (by omega) (by omega)
      have HS1 := Lib.hid (HSr.out.below ((Below.refl wr.heap.size wr).alloc (Nat.le_refl _) (.cells #[.int .u8 (97 + (j : Int) / 26 % 26), .int .u8 (97 + (j : Int) % 26)] 5)))
      have HCv := Lib.hid hcv
      have HL1 := Lib.hid (show ((rwR (rowsN j)).length + 1) * 24 ≤ 140737488355328 from by rw [rwR_len, rowsN_len]; omega)
      have HL2 := Lib.hid (show ((rwC (chgN j)).length + 1) * 32 ≤ 140737488355328 from by rw [rwC_len, chgN_len]; omega)
      clear hcv
      go_wp2_with fail
      rw [HCv.out, Result.andThen_ok]
      clear HCv HSr
      generalize (wr.alloc (.cells #[.int .u8 (97 + (j : Int) / 26 % 26), .int .u8 (97 + (j : Int) % 26)] 5)) = w1 at HS1 ⊢
      go_wp2_with fail
      refine (lrow (keyN j) j _).mono ?_
      rintro e w2 ⟨rfl, hb2⟩
      have HS2 := Lib.hid (HS1.out.below hb2)
      clear hb2 HS1
      go_wp2_with (first | (at_builtin; (refine satApp (W := w2) 49 2 24 (.agg #[.string ⟨#[]⟩, .int .i64 0]) rfl (.tmp 36) (.tmp 40) 22 rfl Tryd.underlying22 (by kernel_rfl) rfl (by decide) (by decide) _ (rwR (rowsN j)) (enR (keyN j, (j : Int))) rfl _ rfl rfl rfl (by simp [enR, Value.oneCell']) HS2.out rfl HL1.out ?_); intro v3 w3 hS3; have HS3 := Lib.hid hS3.s1; clear hS3) | (at_builtin; (refine satApp (W := w3) 57 3 32 (.agg #[.string ⟨#[]⟩, .int .i64 0, .bool false]) rfl (.tmp 42) (.tmp 46) 53 rfl Tryd.underlying53 (by kernel_rfl) rfl (by decide) (by decide) _ (rwC (chgN j)) (enC (keyN j, (j : Int), true)) rfl _ rfl rfl rfl (by simp [enC, Value.oneCell']) HS3.out rfl HL2.out ?_); intro v4 w4 hS4; have HS4 := Lib.hid hS4.s1; clear hS4))
      go_roundg (n - (j + 1))
      case measure => omega
      case rel =>
        refine ⟨j + 1, by omega, rfl, rfl, Lib.hid ?_⟩
        have h := HS4.out
        rwa [show rwR (rowsN j) ++ [enR (keyN j, (j : Int))] = rwR (rowsN (j + 1)) from by rw [rowsN_next]; simp [rwR], show rwC (chgN j) ++ [enC (keyN j, (j : Int), true)] = rwC (chgN (j + 1)) from by rw [chgN_next]; simp [rwC]] at h
    · obtain rfl : j = n := by omega
      have H1 := Lib.hid (show Calls Tryd.prog 9 #[.slice none 0 0] wr _ from cNew none 0 [] _ wr (HSr.out.roNil 2 none) (Nat.zero_le _) (Nat.le_refl _))
      clear HSr
      go_wp2_with fail
      (with_reducible refine H1.out.mono ?_)
      rintro e w2 ⟨p, rfl, hS2⟩
      have HS2 := Lib.hid (hS2.s1.drop : Sat (ceP p [] :: ownR u6 49 2 (rwR (rowsN j)) :: ownR u7 57 3 (rwC (chgN j)) :: errP :: old W :: []) w2)
      clear hS2 H1
      obtain ⟨A6, c6, e6, hc6, _, hS3⟩ := HS2.out.s1.still
      rw [rwR_len, rowsN_len] at e6 hc6
      obtain ⟨A7, c7, e7, hc7, _, hS4⟩ := hS3.s2.still
      rw [rwC_len, chgN_len] at e7 hc7
      subst e6 e7
      have HS4 := Lib.hid (hS4 : Sat (roR 3 A7 (rwC (chgN j)) :: roR 2 A6 (rwR (rowsN j)) :: ceP p [] :: errP :: old W :: []) w2)
      have HC6 := Lib.hid hc6
      have HC7 := Lib.hid hc7
      clear hc6 hc7 hS3 hS4 HS2
      have hlen : (putN j).length = min j 256 := putN_len (by omega)
      obtain ⟨q, hq, hq0, hq1⟩ : ∃ q : Bool, decide ((j : Int) ≤ 256) = q ∧ decide ((j : Int) > 256) = !q ∧ (((putN j).length : Int) == (j : Int)) = q := by
        by_cases h : j ≤ 256
        · exact ⟨true, decide_eq_true (by omega), decide_eq_false (by omega), int_same (by omega)⟩
        · exact ⟨false, decide_eq_false (by omega), decide_eq_true (by omega), int_diff (by omega)⟩
      have hle : decide (((putN j).length : Int) ≤ 256) = true := decide_eq_true (by omega)
      have hqq : (q == q) = true := beq_self_eq_true q
      rcases Classical.em (Int.tmod way 3 = 0) with hw0 | hw0
      · have HW0 := Lib.hid hw0
        have hb0 : (Int.tmod way 3 == 0) = true := int_same hw0
        clear hw0
        have H1 := Lib.hid (show Calls Tryd.prog 9 #[.slice A6 j c6] w2 (NewCPost (roR 2 A6 (rwR (rowsN j)) :: roR 3 A7 (rwC (chgN j)) :: ceP p [] :: errP :: old W :: []) (putN j)) from by
          have := cNew A6 c6 (rowsN j) _ w2 HS4.out.s1 (by rw [rowsN_len]; omega) (by rw [rowsN_len]; exact HC6.out)
          rw [rowsN_len] at this
          exact this)
        clear HS4
        go_wp2_with fail
        (with_reducible refine H1.out.mono ?_)
        rintro e w3 ⟨p3, rfl, hS3⟩
        obtain ⟨v3, hF3, _⟩ := hS3.ceF
        have HL := Lib.hid (cLen p3 v3 (putN j) w3 hF3)
        have HS3 := Lib.hid hS3
        have HA := Lib.hid (lawake _ w3 hS3.s4)
        clear hS3 hF3 H1 hqq
        generalize ((putN j).length : Int) = L at *
        cases q
        all_goals
          simp only [Bool.not_true, Bool.not_false] at hq0
          go_wp2_with fail
          (with_reducible refine HL.out.mono ?_)
          rintro e w4 ⟨rfl, rfl⟩
          go_wp2_with fail
          (with_reducible refine HL.out.mono ?_)
          rintro e w5 ⟨rfl, rfl⟩
          go_wp2_with fail
          (with_reducible refine HA.out.mono ?_)
          rintro e w6 ⟨rfl, hS6⟩
          have HB := Lib.hid hS6.s5.old_
          clear hS6
          go_wp2
          exact ⟨rfl, HB.out⟩
      · have hb0 : (Int.tmod way 3 == 0) = false := int_diff hw0
        clear hw0
        rcases Classical.em (Int.tmod way 3 = 1) with hw1 | hw1
        · have hb1 : (Int.tmod way 3 == 1) = true := int_same hw1
          clear hw1
          obtain ⟨ha1, ha2⟩ := appN (n := j) (by omega)
          have hAp := cApply p [] A7 c7 (chgN j) (roR 2 A6 (rwR (rowsN j)) :: old W :: []) w2 HS4.out.s3.s3 fit_nil (by rw [chgN_len]; omega) (by rw [chgN_len]; exact HC7.out)
          rw [chgN_len] at hAp
          generalize appV [] (chgN j) = r at ha1 ha2 hAp
          obtain ⟨l', er⟩ := r
          simp only at ha1 ha2
          have H1 := Lib.hid hAp
          clear hAp HS4
          go_wp2_with fail
          (with_reducible refine H1.out.mono ?_)
          rintro e w3 ⟨rfl, hS3⟩
          obtain ⟨v3, hF3, _⟩ := hS3.ceF
          have HL := Lib.hid (cLen p v3 l' w3 hF3)
          have HA := Lib.hid (lawake _ w3 hS3.s1)
          clear hS3 hF3 H1
          by_cases h : j ≤ 256
          · rw [if_pos h] at ha1
            subst ha1
            obtain rfl : q = true := by rw [← hq]; exact decide_eq_true (by omega)
            clear ha2
            go_wp2_with fail
            (with_reducible refine HA.out.mono ?_)
            rintro e w6 ⟨rfl, hS6⟩
            have HB := Lib.hid hS6.s4.old_
            clear hS6
            go_wp2
            exact ⟨rfl, HB.out⟩
          · rw [if_neg h] at ha1
            subst ha1
            obtain rfl : q = false := by rw [← hq]; exact decide_eq_false (by omega)
            obtain rfl : l' = [] := ha2 (by decide)
            clear ha2
            go_wp2_with fail
            (with_reducible refine HL.out.mono ?_)
            rintro e w4 ⟨rfl, rfl⟩
            go_wp2_with fail
            (with_reducible refine HA.out.mono ?_)
            rintro e w6 ⟨rfl, hS6⟩
            have HB := Lib.hid hS6.s4.old_
            clear hS6
            go_wp2
            exact ⟨rfl, HB.out⟩
        · have hb1 : (Int.tmod way 3 == 1) = false := int_diff hw1
          clear hw1
          go_wp2_with fail
          go_loopg [11, 53] j (fun g x11 x53 wr => ∃ (i : Nat) (er : Int), i ≤ j ∧ g = j - i ∧ x53 = .int .i64 i ∧ x11 = .int .i64 er ∧ Hid (er = if i ≤ 256 then 0 else 5) ∧ Hid (Sat (ceP p (putN i) :: errP :: roR 2 A6 (rwR (rowsN j)) :: old W :: []) wr))
          case atStart => exact ⟨0, 0, Nat.zero_le _, rfl, rfl, rfl, Lib.hid rfl, Lib.hid (by rw [putN_zero]; exact HS4.out.drop.s1.s2.s1)⟩
          case round =>
            obtain ⟨i, er, hi, rfl, rfl, rfl, HEr, HSr⟩ := hrel
            by_cases hlt : i < j
            · obtain ⟨b, o, hA, c1, c2⟩ := rowAt HSr.out.s2.rows_ (rowsN_at hlt)
              subst hA
              simp only at c1 c2
              obtain ⟨ts, hts⟩ := putN_run (n := i) (by omega)
              have hL := ((HSr.out.alloc #[.string (keyN i), .int .i64 i] 49).drop.litR 42 4 1 (rwO [⟨2, keyN i, i, 0⟩]) #[.int .i64 2, .string (keyN i), .int .i64 i, .int .i64 0] rfl (by decide) rfl (fun r hr => by obtain ⟨x, _, rfl⟩ := List.mem_map.1 hr; rfl) rfl).s2.s2
              rw [alloc_sz] at hL
              have hR : Calls Tryd.prog 13 #[.pointer (some ⟨p, 0, none⟩), .slice (some ⟨wr.heap.size + 1, 0, none⟩) 1 1] _ (RunPost p _ (runV (putN i) [⟨2, keyN i, i, 0⟩])) := cRun p (putN i) (some ⟨wr.heap.size + 1, 0, none⟩) 1 [⟨2, keyN i, i, 0⟩] (roR 2 (some ⟨b, o, none⟩) (rwR (rowsN j)) :: old W :: []) _ hL (putN_fit i) (putN_64 i (by omega)) (by intro o ho; simp at ho; subst ho; constructor <;> simp only <;> omega) (show 1 ≤ 1000000 by decide) (Nat.le_refl 1)
              rw [hts] at hR
              have HR := Lib.hid hR
              clear hR hL
              go_wp2_with fail
              (with_reducible refine HR.out.mono ?_)
              rintro e w3 ⟨v3, rfl, hS3⟩
              have HS3 := Lib.hid hS3.drop.s2.drop
              clear hS3 HR HSr
              by_cases h : i < 256
              · rw [if_pos h]
                go_wp2_with fail
                go_roundg (j - (i + 1))
                case measure => omega
                case rel => exact ⟨i + 1, er, by omega, rfl, rfl, rfl, Lib.hid (by rw [HEr.out, if_pos (by omega), if_pos (by omega)]), HS3⟩
              · rw [if_neg h]
                go_wp2_with fail
                go_roundg (j - (i + 1))
                case measure => omega
                case rel => exact ⟨i + 1, 5, by omega, rfl, rfl, rfl, Lib.hid (by rw [if_neg (by omega)]), HS3⟩
            · obtain rfl : i = j := by omega
              obtain ⟨v3, hF3, _⟩ := HSr.out.ceF
              have HL := Lib.hid (cLen p v3 (putN i) wr hF3)
              have HA := Lib.hid (lawake _ wr HSr.out.s1)
              have he := HEr.out
              clear hF3 HSr HEr
              generalize ((putN i).length : Int) = L at *
              by_cases h : i ≤ 256
              · rw [if_pos h] at he
                subst he
                obtain rfl : q = true := by rw [← hq]; exact decide_eq_true (by omega)
                simp only [Bool.not_true, Bool.not_false] at hq0
                go_wp2_with fail
                (with_reducible refine HL.out.mono ?_)
                rintro e w4 ⟨rfl, rfl⟩
                go_wp2_with fail
                (with_reducible refine HA.out.mono ?_)
                rintro e w6 ⟨rfl, hS6⟩
                have HB := Lib.hid hS6.s3.old_
                clear hS6
                go_wp2
                exact ⟨rfl, HB.out⟩
              · rw [if_neg h] at he
                subst he
                obtain rfl : q = false := by rw [← hq]; exact decide_eq_false (by omega)
                simp only [Bool.not_true, Bool.not_false] at hq0
                go_wp2_with fail
                (with_reducible refine HL.out.mono ?_)
                rintro e w4 ⟨rfl, rfl⟩
                go_wp2_with fail
                (with_reducible refine HA.out.mono ?_)
                rintro e w6 ⟨rfl, hS6⟩
                have HB := Lib.hid hS6.s3.old_
                clear hS6
                go_wp2
                exact ⟨rfl, HB.out⟩
end Go.Proofs.YticgnakjnhdfhaaDoor
end

section
namespace Go.Proofs.YticgnakjnhdfhaaDoor
open Go.Proofs.BL Go.ChangeShapes Go.WideShapes Go.ChangeAt Go.RowKit Go.Deep
set_option maxRecDepth 100000
set_option linter.unusedVariables false

/-- CellsMost: what the walk gives, for every argument. -/
theorem cellsMost_contract (H : Type) (enc : TypeId × Value → H) (W : World) (base : Nat) (args : Array Value) (ds gs : List (DataW H)) (before : List MemPlace)
    (hval : ∀ (j : Nat) t v, Tryd.f7.params[j]? = some t → args[j]? = some v → Value.okWide Tryd.prog W .any base t v)
    (hW : DataW.Whole enc Tryd.prog Tryd.f7.params.toList Rows.cellsMostSpec.vars false W args.toList ds gs before) (hL : laidMetH Tryd.prog Rows.cellsMostRow.laid W) :
    Calls Tryd.prog 7 args W fun e W' => ∃ v, e = .returned v ∧ Rows.cellsMostSpec.post enc Tryd.prog Tryd.f7 false true false false W args v W' := by
  have hE := errT_of_laid hL
  have hW' := hW
  obtain ⟨p, q, hA0, hV, hpq, hfz, hnd⟩ := hW
  have hA : DataW.TrodAll enc Tryd.prog W 0 (fun _ => true) true Tryd.f7.params.toList args.toList ds p := hA0
  rw [Tryd.params7] at hA hval
  obtain ⟨v0, vs0, d0, ds0, p0, q0, hargs, rfl, rfl, h0, r0⟩ := trodAll_cons hA
  obtain ⟨v1, vs1, d1, ds1, p1, q1, rfl, rfl, rfl, h1, r1⟩ := trodAll_cons r0
  obtain ⟨rfl, rfl, rfl⟩ := trodAll_nil r1
  obtain rfl : args = #[v0, v1] := by cases args; simp_all
  obtain ⟨n0, rfl, _, _, hw0⟩ := open_int Tryd.underlying3 (hval 0 _ v0 rfl rfl) h0
  obtain ⟨n1, rfl, _, _, hw1⟩ := open_int Tryd.underlying3 (hval 1 _ v1 rfl rfl) h1
  obtain ⟨rfl, rfl⟩ := trodVars_none hV
  clear hA0
  have hlt : ∀ x ∈ before, x.block < W.heap.size := fun x hx => by simpa using hW'.lt x hx
  have hlt0 : ∀ x ∈ p0, x.block < W.heap.size := fun x hx => hlt x (by rw [hpq]; simp [hx])
  have hlt1 : ∀ x ∈ p1, x.block < W.heap.size := fun x hx => hlt x (by rw [hpq]; simp [hx])
  refine (lawMost n0 n1 W hE).mono fun e W' ⟨he, hb⟩ => ?_
  subst he
  refine ⟨_, rfl, law_post (pa := p0 ++ (p1 ++ [])) (by kernel_rfl) Tryd.underlying4 hW' rfl rfl rfl ?_ hb⟩
  rw [Tryd.params7]
  exact trodAll_cons_mk (Below.trod laidO (by kernel_rfl) (of_decide_eq_true (by kernel_rfl)) h0 hb hlt0) (trodAll_cons_mk (Below.trod laidO (by kernel_rfl) (of_decide_eq_true (by kernel_rfl)) h1 hb hlt1) trodAll_mk0)

set_option maxRecDepth 100000 in
theorem cellsMost_lifted (os : Os) (started : os.Started) (H : Type) (enc : TypeId × Value → H) (F : Stop.Interp) :
    ReturnsInHanded {} Tryd.checked os 7 .any ((OpenSpec.ofChange Rows.cellsMostSpec).preRow enc Tryd.prog Tryd.f7 Rows.cellsMostRow.domain false Rows.cellsMostRow.laid) (((OpenSpec.ofChange Rows.cellsMostSpec).at F).post enc Tryd.prog Tryd.f7 false true false false) := by
  obtain ⟨places, hx⟩ : ∃ places, DataW.whole enc Tryd.prog ((laidWorld os).forCall (fun _ _ => 0) ⟨#[], #[.int .i64 0, .int .i64 0], []⟩).memory Tryd.f7.params.toList Rows.cellsMostSpec.vars false #[.int .i64 0, .int .i64 0].toList 8 = some ([.lit (.int .i64 0), .lit (.int .i64 0)], [], places) := ⟨[], by kernel_rfl⟩
  refine returnsInHanded_of_row (C := Tryd.checked) (s := OpenSpec.ofChange Rows.cellsMostSpec) ownK started (by kernel_rfl) Tryd.func7
    (witness_row_atRef (enc := enc) (C := Tryd.checked) false (laidWorld os) #[.int .i64 0, .int .i64 0] rfl (by kernel_rfl) (by kernel_rfl) (by kernel_rfl)
      (OpenSpec.preRow_of_cond 8 hx (by kernel_rfl) (fun k hk => by cases hk) (by kernel_rfl) (laid_met os _))) ?_
  intro W base args ds gs before hval hW _ _ _ hL _ _
  exact cellsMost_contract H enc W base args ds gs before hval hW hL
theorem cellsMost_said : Rows.CellsMostSaid :=
  OpenClaim.holds_of_cond 7 Tryd.f7 rfl rfl rfl rfl rfl rfl rfl ⟨rfl, rfl, rfl, rfl, rfl⟩ rfl rfl rfl rfl rfl (by kernel_rfl) Tryd.func7 (by kernel_rfl)
    (of_decide_eq_true (by kernel_rfl)) (by unfold Func.isWrapper; first | (rw [if_pos (by decide +kernel)]; kernel_rfl) | (rw [if_neg (by decide +kernel)]; exact ⟨rfl, rfl⟩))
    (fun os started H enc _ F => by rw [OpenClaim.pre_eq_preRow]; exact cellsMost_lifted os started H enc F)
theorem cellsMost_plain (f : FuncId) (fn : Func) (hf : Tryd.pinned.checked.prog.funcNamed "byroad/byroadlaw07.CellsMost" = some f) (hfn : Tryd.pinned.checked.prog.funcs[f]? = some fn) :
    true = Tryd.pinned.checked.prog.looks [] ∧ ∀ (j : Nat) t, fn.params[j]? = some t → Tryd.pinned.checked.prog.wantsStandIn t = false := by
  obtain rfl : f = 7 := Option.some.inj ((show Tryd.prog.funcNamed "byroad/byroadlaw07.CellsMost" = some 7 by kernel_rfl).symm.trans hf) |>.symm
  obtain rfl : fn = Tryd.f7 := (Option.some.inj (Tryd.func7.symm.trans hfn)).symm
  refine ⟨by kernel_rfl, fun j t ht => ?_⟩
  rw [Tryd.params7] at ht
  have hall : (#[3, 3] : Array Nat).all (fun t => !Tryd.prog.wantsStandIn t) = true := by kernel_rfl
  have := Array.all_eq_true'.1 hall t (Array.mem_of_getElem? ht)
  show Tryd.prog.wantsStandIn t = false
  simpa using this
/-- The card of CellsMost. -/
theorem cellsMost_card : Rows.CellsMostCardSaid :=
  Claim7.holds_tied_plain_at .later [] _ _ _ _ cellsMost_said (fun _ h => by cases h) (by kernel_rfl) (fun _ h => by cases h) cellsMost_row_tie rfl ⟨rfl, rfl⟩ (by kernel_rfl) rfl cellsMost_plain (by kernel_rfl)

end Go.Proofs.YticgnakjnhdfhaaDoor
end
