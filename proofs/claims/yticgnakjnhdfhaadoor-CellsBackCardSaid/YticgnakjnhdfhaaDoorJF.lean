/- slices.ContainsFunc at operations; ops.grows and Inverse. ops.Inverse, walked. -/
import Derived.Test.YticgnakjnhdfhaaDoorJB
import Derived.Test.YticgnakjnhdfhaaDoorJE
import Derived.Test.YticgnakjnhdfhaaDoorJA
import Derived.Test.YticgnakjnhdfhaaDoorJS
import Derived.Shelf.Abstract
import Derived.Test.YticgnakjnhdfhaaDoorJL
import Derived.WalkLawsBesides
section
set_option linter.unusedVariables false
set_option maxRecDepth 100000
namespace Go.Proofs.YticgnakjnhdfhaaDoor
open Go.Proofs.BL Go.Proofs.Peel Go.RowKit Go.Proofs.Ky
def IdxOPost (b : Bool) (w : World) (e : Ending) (w' : World) : Prop := ∃ z : Int, e = .returned (.int .i64 z) ∧ decide (z ≥ 0) = b ∧ Below w.heap.size w w'
def AnyOPost (b : Bool) (w : World) (e : Ending) (w' : World) : Prop := e = .returned (.bool b) ∧ Below w.heap.size w w'
/-- A function value tells something of each element. -/
def PredO (g : FuncId) (lb : Array Value) (p : Opr → Bool) (l : List Opr) (w : World) : Prop :=
  ∀ o ∈ l, ∀ W, Below w.heap.size w W → Calls Tryd.prog g (#[.agg (enO o).toArray] ++ lb) W (AnyOPost (p o) W)
theorem any_nextO {p : Opr → Bool} {l : List Opr} {j : Nat} {r : Opr} (hx : l[j]? = some r) (h : (l.take j).any p = false) : (p r = true → l.any p = true) ∧ (p r = false → (l.take (j + 1)).any p = false) := by
  have hj := (List.getElem?_eq_some_iff.1 hx).1
  have e : l[j] = r := (List.getElem?_eq_some_iff.1 hx).2
  refine ⟨fun hp => List.any_eq_true.2 ⟨r, List.mem_of_getElem? hx, hp⟩, fun hp => ?_⟩
  rw [List.take_succ_eq_append_getElem hj, List.any_append, h, e]
  simp [hp]
set_option maxHeartbeats 2000000 in
theorem idxO (g : FuncId) (lb : Array Value) (eg : ∀ args w, (callFunc g args).run Tryd.prog w = .ok (.enter g args) w) (p : Opr → Bool) (A : Option Addr) (c : Nat) (l : List Opr) (w : World) (hr : RowsAt w 4 A (rwO l)) (hl : l.length ≤ 1000000) (hp : PredO g lb p l w) :
    Calls Tryd.prog 63 #[.slice A l.length c, .func (.func g) #[] lb] w (IdxOPost (l.any p) w) := by
  refine via fun Q hQ => ?_
  have HR := Lib.hid hr
  have HP := Lib.hid hp
  clear hr hp
  generalize hn : l.length = n at *
  have HNL := Lib.hid hn
  clear hn
  go_enter Tryd.func63, Tryd.ntmps63
  go_wp2_with fail
  go_loopg [8] n (fun d x wr => ∃ j : Nat, j ≤ n ∧ d = n - j ∧ x = .int .i64 j ∧ Hid ((l.take j).any p = false) ∧ Hid (Below w.heap.size w wr))
  case atStart => exact ⟨0, Nat.zero_le _, rfl, rfl, Lib.hid rfl, Lib.hid (Below.refl _ _)⟩
  case round =>
    obtain ⟨j, hj, rfl, rfl, HT, HB⟩ := hrel
    by_cases hlt : j < n
    · have hx : l[j]? = some (l[j]'(by rw [HNL.out]; exact hlt)) := List.getElem?_eq_getElem _
      generalize l[j]'(by rw [HNL.out]; exact hlt) = r at hx
      obtain ⟨b, o, hA, c1, c2, c3, c4⟩ := opAt (HR.out.below HB.out) hx
      subst hA
      have hnx := any_nextO hx HT.out
      have hcall := HP.out r (List.mem_of_getElem? hx) wr HB.out
      generalize p r = z at hcall hnx
      obtain ⟨rk, rkey, rn, rlo⟩ := r
      simp only [enO] at hcall c1 c2 c3 c4
      have HNX := Lib.hid hnx
      have HCall := Lib.hid hcall
      clear hx hnx hcall
      go_wp2_with fail
      refine HCall.out.mono ?_
      rintro e w2 ⟨rfl, hb2⟩
      have HB2 := Lib.hid (below_then HB.out hb2)
      clear hb2 HCall
      cases z with
      | true =>
        have HE := Lib.hid (HNX.out.1 rfl)
        go_wp2_with fail
        exact ⟨j, rfl, by rw [HE.out]; exact decide_eq_true (by omega), HB2.out⟩
      | false =>
        have HE := Lib.hid (HNX.out.2 rfl)
        go_wp2_with fail
        go_roundg (n - (j + 1))
        case measure => omega
        case rel => exact ⟨j + 1, by omega, rfl, rfl, HE, HB2⟩
    · obtain rfl : j = n := by omega
      have hT := HT.out
      rw [List.take_of_length_le (by rw [HNL.out]; exact Nat.le_refl _)] at hT
      have HE := Lib.hid hT
      clear hT
      go_wp2
      exact ⟨-1, rfl, by rw [HE.out]; rfl, HB.out⟩
set_option maxHeartbeats 1000000 in
theorem anyO (g : FuncId) (lb : Array Value) (eg : ∀ args w, (callFunc g args).run Tryd.prog w = .ok (.enter g args) w) (p : Opr → Bool) (A : Option Addr) (c : Nat) (l : List Opr) (w : World) (hr : RowsAt w 4 A (rwO l)) (hl : l.length ≤ 1000000) (hp : PredO g lb p l w) :
    Calls Tryd.prog 45 #[.slice A l.length c, .func (.func g) #[] lb] w (AnyOPost (l.any p) w) := by
  refine via fun Q hQ => ?_
  have HI := Lib.hid (idxO g lb eg p A c l w hr hl hp)
  clear hr hp
  go_enter Tryd.func45, Tryd.ntmps45
  go_wp2_with fail
  refine HI.out.mono ?_
  rintro e w1 ⟨z, rfl, hz, hb⟩
  have HB := Lib.hid hb
  have HZ := Lib.hid hz
  clear hb hz HI
  go_wp2
  exact ⟨by rw [← HZ.out]; rfl, HB.out⟩

/-- One of some numbers. -/
def oneOf (ks : List Int) (o : Opr) : Bool := ks.contains o.kind
set_option maxHeartbeats 1000000 in
theorem grows1 (b g c : Nat) (ks : List Int) (o : Opr) (W : World) (hb : Blk W b #[.slice (some ⟨g, 0, none⟩) ks.length c] 112) (hr : RowsAt W 1 (some ⟨g, 0, none⟩) (ks.map (fun k => [.int .i64 k]))) (hk : ks.length ≤ 1000) :
    Calls Tryd.prog 61 (#[.agg (enO o).toArray] ++ #[.pointer (some ⟨b, 0, none⟩)]) W (AnyOPost (!(oneOf ks o)) W) := by
  have hcell : ∀ j, j < ks.length → W.cell? ⟨g, 0 + j, none⟩ = some (.int .i64 (ks.getD j 0)) := fun j hj => by
    obtain ⟨b', o', e, hc⟩ := hr j [.int .i64 ks[j]] (by rw [List.getElem?_map, List.getElem?_eq_getElem hj]; rfl)
    injection e with e
    injection e with e1 e2
    subst e1 e2
    have := hc 0 _ rfl
    rw [show 0 + j * 1 + 0 = 0 + j from by omega] at this
    rw [this, List.getD_eq_getElem?_getD, List.getElem?_eq_getElem hj]
    rfl
  obtain ⟨k, key, m, lo⟩ := o
  have hal : Below W.heap.size W (W.alloc (.cells #[.int .i64 k, .string key, .int .i64 m, .int .i64 lo] 42)) := (Below.refl _ _).alloc (Nat.le_refl _) _
  have c0 := (hb.below hal).at_ 0 rfl
  have hC := Tryd.slices_Contains_int g 0 ks.length c ks k (W.alloc (.cells #[.int .i64 k, .string key, .int .i64 m, .int .i64 lo] 42)) (Nat.le_refl _) (by omega) (fun j hj => (hal.cell (World.block_lt_of_cell? W _ (hcell j hj))).trans (hcell j hj))
  rw [List.take_of_length_le (Nat.le_refl _)] at hC
  have hone : oneOf ks ⟨k, key, m, lo⟩ = ks.contains k := rfl
  generalize ks.contains k = z at hC hone
  have HO := Lib.hid hone
  have HC := Lib.hid hC
  have HB := Lib.hid hal
  clear hcell hr hb hal hC hone
  refine via fun Q hQ => ?_
  show Calls Tryd.prog 61 #[.agg #[.int .i64 k, .string key, .int .i64 m, .int .i64 lo], .pointer (some ⟨b, 0, none⟩)] W Q
  go_enter Tryd.func61, Tryd.ntmps61
  go_wp2_with fail
  refine HC.out.mono ?_
  rintro e w1 ⟨rfl, rfl⟩
  go_wp2_with fail
  exact ⟨by rw [HO.out]; rfl, HB.out⟩
set_option maxHeartbeats 1000000 in
theorem growsO (A : Option Addr) (c g d : Nat) (l : List Opr) (ks : List Int) (w : World) (hr : RowsAt w 4 A (rwO l)) (hl : l.length ≤ 1000000) (hk : ks.length ≤ 1000) (hs : RowsAt w 1 (some ⟨g, 0, none⟩) (ks.map (fun k => [.int .i64 k]))) :
    Calls Tryd.prog 44 #[.slice A l.length c, .slice (some ⟨g, 0, none⟩) ks.length d] w (AnyOPost (l.all (oneOf ks)) w) := by
  refine via fun Q hQ => ?_
  have hal : Below w.heap.size w (w.alloc (.cells #[.slice (some ⟨g, 0, none⟩) ks.length d] 112)) := (Below.refl _ _).alloc (Nat.le_refl _) _
  have hA := anyO 61 #[.pointer (some ⟨w.heap.size, 0, none⟩)] (enters_of Tryd.func61 (by kernel_rfl) rfl) (fun o => !(oneOf ks o)) A c l _ (hr.below hal) hl
    (fun o ho W hW => grows1 w.heap.size g d ks o W ((Blk.new w _ _).below hW) ((hs.below hal).below hW) hk)
  rw [show l.any (fun o => !(oneOf ks o)) = !(l.all (oneOf ks)) from by rw [List.all_eq_not_any_not, Bool.not_not]] at hA
  generalize l.all (oneOf ks) = z at *
  have HA := Lib.hid hA
  have HB := Lib.hid hal
  clear hr hs hal hA
  go_enter Tryd.func44, Tryd.ntmps44
  go_wp2_with fail
  refine HA.out.mono ?_
  rintro e w1 ⟨rfl, hb⟩
  have HB1 := Lib.hid (below_then HB.out hb)
  clear hb HA
  go_wp2_with fail
  exact ⟨rfl, HB1.out⟩
set_option maxHeartbeats 1000000 in
theorem inv1 (o : Opr) (W : World) : Calls Tryd.prog 46 (#[.agg (enO o).toArray] ++ #[]) W (AnyOPost (!(mayB o.kind o.key o.n o.lo)) W) := by
  obtain ⟨k, key, m, lo⟩ := o
  refine via fun Q hQ => ?_
  show Calls Tryd.prog 46 #[.agg #[.int .i64 k, .string key, .int .i64 m, .int .i64 lo]] W Q
  have hal : Below W.heap.size W (W.alloc (.cells #[.int .i64 k, .string key, .int .i64 m, .int .i64 lo] 42)) := (Below.refl _ _).alloc (Nat.le_refl _) _
  have HB := Lib.hid hal
  clear hal
  go_enter Tryd.func46, Tryd.ntmps46
  go_wp2_with fail
  refine (G.ops_May.calls 40 k key m lo _ _ (may_some k key m lo 40 (by omega))).mono ?_
  rintro e w1 ⟨rfl, hb⟩
  have HB1 := Lib.hid (below_then HB.out hb)
  clear hb
  go_wp2_with fail
  exact ⟨rfl, HB1.out⟩
end Go.Proofs.YticgnakjnhdfhaaDoor
end

section
set_option linter.unusedVariables false
set_option maxRecDepth 100000
namespace Go.Proofs.YticgnakjnhdfhaaDoor
open Go.Proofs.BL Go.Proofs.Peel Go.RowKit Go.Proofs.Ky

def backO (o : Opr) : Opr := ⟨6, o.key, w64 (-o.n), 0⟩
/-- The inverse of operations, as the program lays it. -/
def invO (l : List Opr) : List Opr := (l.filter (fun o => o.kind != 1)).reverse.map backO
def mayInv (l : List Opr) : Bool := l.all (oneOf [1, 4, 5, 6]) && l.all (fun o => mayB o.kind o.key o.n o.lo)
def InvPost (A : Option Addr) (ls : List Part) (l : List Opr) (e : Ending) (w' : World) : Prop :=
  ∃ v, e = .returned (.tuple #[v, .bool (mayInv l)]) ∧ Sat (ownR v 42 4 (rwO (if mayInv l then invO l else [])) :: roR 4 A (rwO l) :: ls) w'
theorem inv_next {l : List Opr} {i : Nat} {o : Opr} (hx : l[i]? = some o) : invO (l.drop i) = invO (l.drop (i + 1)) ++ (if o.kind = 1 then [] else [backO o]) := by
  have hi := (List.getElem?_eq_some_iff.1 hx).1
  have e : l[i] = o := (List.getElem?_eq_some_iff.1 hx).2
  unfold invO
  rw [List.drop_eq_getElem_cons hi, e, List.filter_cons]
  by_cases h : o.kind = 1
  · rw [if_neg (by simp [h]), if_pos h, List.append_nil]
  · rw [if_pos (by simp [h]), if_neg h, List.reverse_cons, List.map_append]
    rfl
theorem invO_len (l : List Opr) : (invO l).length ≤ l.length := by
  unfold invO
  rw [List.length_map, List.length_reverse]
  exact List.length_filter_le _ _
theorem infoO : (Tryd.prog.info? 42).map (fun i => (i.zero, i.size, i.bytes)) = some (some (.agg #[.int .i64 0, .string ⟨#[]⟩, .int .i64 0, .int .i64 0]), 4, 40) := by kernel_rfl
theorem zeroO : (Value.agg #[.int .i64 0, .string ⟨#[]⟩, .int .i64 0, .int .i64 0]).cells.size = 4 := rfl
set_option maxHeartbeats 8000000 in
theorem inverseO (A : Option Addr) (c : Nat) (l : List Opr) (ls : List Part) (w : World) (h : Sat (roR 4 A (rwO l) :: ls) w) (hl : l.length ≤ 1000000) (hc : l.length ≤ c) :
    Calls Tryd.prog 20 #[.slice A l.length c] w (InvPost A ls l) := by
  refine via fun Q hQ => ?_
  have hS1 := h.litR 3 1 4 (([1, 4, 5, 6] : List Int).map (fun k => [.int .i64 k])) #[.int .i64 1, .int .i64 4, .int .i64 5, .int .i64 6] rfl (by decide) rfl (fun r hr => by obtain ⟨x, _, rfl⟩ := List.mem_map.1 hr; rfl) rfl
  have HG := Lib.hid (growsO A c w.heap.size 4 l [1, 4, 5, 6] _ hS1.s1.rows_ hl (by decide) hS1.rows_)
  have HS1 := Lib.hid hS1.drop
  have hmi : mayInv l = (l.all (oneOf [1, 4, 5, 6]) && l.all (fun o => mayB o.kind o.key o.n o.lo)) := rfl
  have HAny : Hid (∀ w', Below w.heap.size w w' → Calls Tryd.prog 45 #[.slice A l.length c, .func (.func 46) #[] #[]] w' (AnyOPost (!(l.all (fun o => mayB o.kind o.key o.n o.lo))) w')) := Lib.hid (fun w' hb => by
    have := anyO 46 #[] (enters_of Tryd.func46 (by kernel_rfl) rfl) (fun o => !(mayB o.kind o.key o.n o.lo)) A c l w' (h.rows_.below hb) hl (fun o ho W hW => inv1 o W)
    rwa [show l.any (fun o => !(mayB o.kind o.key o.n o.lo)) = !(l.all (fun o => mayB o.kind o.key o.n o.lo)) from by rw [List.all_eq_not_any_not, Bool.not_not]] at this)
  have HW0 := Lib.hid (show Below w.heap.size w (w.alloc (.cells #[.int .i64 1, .int .i64 4, .int .i64 5, .int .i64 6] 3)) from (Below.refl _ _).alloc (Nat.le_refl _) _)
  generalize l.all (oneOf [1, 4, 5, 6]) = z1 at HG hmi
  generalize l.all (fun o => mayB o.kind o.key o.n o.lo) = z2 at HAny hmi
  have HMi := Lib.hid hmi
  have hln4 : ([1, 4, 5, 6] : List Int).length = 4 := rfl
  rw [hln4] at HG
  clear h hS1 hmi hln4
  generalize hn : l.length = n at *
  have HNL := Lib.hid hn
  clear hn
  go_enter Tryd.func20, Tryd.ntmps20
  go_wp2_with fail
  (with_reducible refine HG.out.mono ?_)
  rintro e w1 ⟨rfl, hb1⟩
  have HS2 := Lib.hid (HS1.out.below hb1)
  have HW1 := Lib.hid (below_then HW0.out hb1)
  clear hb1 HG HS1
  cases z1 with
  | false =>
    go_wp2_with fail
    exact ⟨_, by rw [HMi.out]; rfl, by rw [HMi.out]; exact HS2.out.nilR _ _⟩
  | true =>
    go_wp2_with fail
    (with_reducible refine (HAny.out w1 HW1.out).mono ?_)
    rintro e w2 ⟨rfl, hb2⟩
    have HS3 := Lib.hid (HS2.out.below hb2)
    clear hb2 HAny HS2
    cases z2 with
    | false =>
      go_wp2_with fail
      exact ⟨_, by rw [HMi.out]; rfl, by rw [HMi.out]; exact HS3.out.nilR _ _⟩
    | true =>
      have HN := Lib.hid (HS3.out.nilR 42 4)
      go_wp2_with fail
      go_loopg [4, 5] n (fun g x4 x5 wr => ∃ (j : Nat) (z : Int), j ≤ n ∧ g = j ∧ x5 = .int .i64 z ∧ z = (j : Int) - 1 ∧ Hid (Sat (ownR x4 42 4 (rwO (invO (l.drop j))) :: roR 4 A (rwO l) :: ls) wr))
      case atStart => exact ⟨n, _, Nat.le_refl _, rfl, rfl, rfl, Lib.hid (by have := HN.out; rw [List.drop_of_length_le (by rw [HNL.out]; exact Nat.le_refl _)]; exact this)⟩
      case round =>
        obtain ⟨j, z, hj, rfl, rfl, hz, HSr⟩ := hrel
        cases gk with
        | zero =>
          have hz0 : ¬ z ≥ 0 := by omega
          clear hz
          go_wp2_with fail
          exact ⟨_, by rw [HMi.out]; rfl, by rw [HMi.out]; exact HSr.out⟩
        | succ i =>
          obtain rfl : z = (i : Int) := by omega
          have hin : i < n := by omega
          have hx : l[i]? = some (l[i]'(by rw [HNL.out]; exact hin)) := List.getElem?_eq_getElem _
          generalize l[i]'(by rw [HNL.out]; exact hin) = r at hx
          have hnx := inv_next hx
          have hil := invO_len (l.drop (i + 1))
          rw [List.length_drop, HNL.out] at hil
          obtain ⟨b, o, hA, c1, c2, c3, c4⟩ := opAt HSr.out.s1.rows_ hx
          subst hA
          obtain ⟨rk, key, rn, rlo⟩ := r
          simp only at c1 c2 c3 c4 hnx
          have HNX := Lib.hid hnx
          have HX := Lib.hid hx
          clear hx hnx hz
          by_cases hk : rk = 1
          · subst hk
            have HE := Lib.hid (HNX.out.trans (by rw [if_pos rfl, List.append_nil]))
            go_wp2_with fail
            go_roundg i
            case measure => omega
            case rel => exact ⟨i, (i : Int) - 1, by omega, rfl, rfl, rfl, Lib.hid (by rw [HE.out]; exact HSr.out)⟩
          · have HE := Lib.hid (HNX.out.trans (by rw [if_neg hk]))
            have hkb : (rk != 1) = true := bne_iff_ne.2 hk
            clear hk
            have h0 : (0 : Int) ≤ (i : Int) := by omega
            have h1 : (i : Int) < (n : Int) := by omega
            go_wp2_with fail
            have HSr1 := Lib.hid (HSr.out.below ((Below.refl wr.heap.size wr).alloc (Nat.le_refl _) (.cells #[.int .i64 6, .string key, .int .i64 (IntKind.i64.wrap (-rn)), .int .i64 0] 42)).drew)
            have HK : Hid (∀ w5, RowsAt w5 4 (some ⟨b, o, none⟩) (rwO l) → World.cell? w5 ⟨b, o + i * 4 + 1, none⟩ = some (.string key) ∧ World.cell? w5 ⟨b, o + i * 4 + 2, none⟩ = some (.int .i64 rn)) := Lib.hid (fun w5 h => by
              obtain ⟨b', o', e', k1, k2, k3, k4⟩ := opAt h HX.out
              injection e' with e'
              injection e' with e1 e2
              subst e1 e2
              exact ⟨k2, k3⟩)
            have hd : World.cell? wr.drew ⟨b, o + i * 4 + 1, none⟩ = some (.string key) ∧ World.cell? wr.drew ⟨b, o + i * 4 + 2, none⟩ = some (.int .i64 rn) := ⟨c2, c3⟩
            have HLen := Lib.hid (show ((rwO (invO (l.drop (i + 1)))).length + 1) * 40 ≤ 140737488355328 from by rw [rwO_len]; omega)
            go_region_held3 (fun x => x.cell? ⟨b, o + i * 4 + 1, none⟩ = some (.string key) ∧ x.cell? ⟨b, o + i * 4 + 2, none⟩ = some (.int .i64 rn)) ((first | assumption | exact hd | exact ⟨upA c2 _, upA c3 _⟩ | exact hd2)) ((refine satStep1 42 4 40 (.agg #[.int .i64 0, .string ⟨#[]⟩, .int .i64 0, .int .i64 0]) (by rfl) _ _ _ (by rfl) Tryd.underlying27 infoO zeroO (by decide) (by decide) u4 (rwO (invO (l.drop (i + 1)))) [.int .i64 6, .string key, .int .i64 (IntKind.i64.wrap (-rn)), .int .i64 0] (by rfl) wr.heap.size (by rfl) (heap_alloc_new wr _) rfl (enO_one ⟨6, key, IntKind.i64.wrap (-rn), 0⟩) HSr1.out rfl HLen.out ?_; intro v5 w5 hS5; have hd2 : World.cell? w5 ⟨b, o + i * 4 + 1, none⟩ = some (.string key) ∧ World.cell? w5 ⟨b, o + i * 4 + 2, none⟩ = some (.int .i64 rn) := HK.out w5 hS5.s1.rows_))
            have HE2 := Lib.hid (show rwO (invO (l.drop (i + 1))) ++ [[.int .i64 6, .string key, .int .i64 (IntKind.i64.wrap (-rn)), .int .i64 0]] = rwO (invO (l.drop i)) from by
              rw [HE.out]
              simp [rwO, backO, enO, IntKind.wrap_i64, w64])
            have HS5 := Lib.hid (by have h9 := hS5; rw [HE2.out] at h9; exact h9)
            clear hS5 hd hd2
            go_wp2_with fail
            go_roundg i
            case measure => omega
            case rel => exact ⟨i, (i : Int) - 1, by omega, rfl, rfl, rfl, HS5⟩
end Go.Proofs.YticgnakjnhdfhaaDoor
end
