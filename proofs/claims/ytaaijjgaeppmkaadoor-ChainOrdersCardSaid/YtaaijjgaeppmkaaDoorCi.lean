/- slices.Backward over versions; package chain: Latest. -/
import Derived.RangeFuncNested
import Derived.RangeFuncBound
import Derived.RangeFuncCalls
import Derived.RangeFuncLeaves
import Derived.RangeFuncFrom
import Derived.RangeFuncBox
import Derived.Shelf.Abstract
import Derived.Shelf.RegionOpen
import Derived.WalkKit
import Derived.OwnWalkIn
import Derived.TacticsInMore
import Derived.LoopNIn
import Derived.LoopIn
import Derived.Test.YtaaijjgaeppmkaaDoorCh
set_option linter.unusedVariables false
set_option maxRecDepth 100000
namespace Go.Proofs.YtaaijjgaeppmkaaDoor
open Go.Proofs.BL Go.Proofs.Peel Go.RowKit Go.Proofs.Cn Go.Shelf Go.Proofs
attribute [local go_sem] Oper.semAt_some

/-- Versions from the last one back, each with its place. -/
def bk (vs : Vs) : List (Ver × Nat) := vs.zipIdx.reverse
theorem bk_len (vs : Vs) : (bk vs).length = vs.length := by simp [bk]
theorem bk_get {vs : Vs} {m : Nat} (hm : m < vs.length) : (bk vs)[vs.length - (m + 1)]? = some (vs[m], m) := by
  unfold bk
  rw [List.getElem?_reverse (by simp; omega)]
  simp only [List.length_zipIdx]
  rw [show vs.length - 1 - (vs.length - (m + 1)) = m from by omega]
  simp [hm]
def encB (x : Ver × Nat) : Array Value := #[.int .i64 x.2, .agg #[.int .i64 x.1.at_, .int .i64 x.1.n, .bool x.1.there, .int .i64 x.1.read, .bool x.1.open_]]

set_option maxHeartbeats 2000000 in
theorem back1_in (F : Fence) (n : Nat) (h7 : F.fn 48) (hro : F.round = none) (hn : 1 ≤ n) (l Bs n₀ c : Nat) (A : Option Addr) (vs : Vs) (hlen : vs.length ≤ 1000000) (J Jx : List (Ver × Nat) → World → Prop)
    (hY : ∀ pre x W, J pre W → pre.length < vs.length → YieldAt F (n - 1) Tryd.prog l (encB x) W fun e W' =>
      (e = .returned (.bool true) ∧ J (pre ++ [x]) W' ∧ Below n₀ W W') ∨ (e = .returned (.bool false) ∧ Jx (pre ++ [x]) W'))
    (W : World) (hBs : W.cell? ⟨Bs, 0, none⟩ = some (.slice A vs.length c)) (hB : Bs < n₀) (hc : vs.length ≤ c) (hr : RowsAt W 5 A (rwV vs)) (hA : vs ≠ [] → ∀ a, A = some a → a.block < n₀) (h0 : J [] W) :
    CallsIn F n Tryd.prog 48 #[.func (.yield l) #[] #[], .pointer (some ⟨Bs, 0, none⟩)] W fun e W' => (∃ v, e = .returned v) ∧
      ((∃ ys, ys = bk vs ∧ J ys W') ∨ (∃ pre, pre <+: bk vs ∧ Jx pre W')) := by
  refine callsIn_of_wp Tryd.func48 rfl h7 ?_ hro
  simp only [Tryd.ntmps48, List.size_toArray, List.length_cons, List.length_nil, Nat.reduceAdd, Nat.reduceSub, Array.replicate_succ, Array.replicate_zero, List.push_toArray, List.append_toArray, List.nil_append, List.cons_append]
  have hw0 : IntKind.i64.wrap ((vs.length : Int) - 1) = (vs.length : Int) - 1 := by rw [IntKind.wrap_i64]; omega
  gi_wp2
  gi_loopw [3] (fun i wr => ∃ m : Nat, m ≤ vs.length ∧ i = .int .i64 ((m : Int) - 1) ∧ J ((bk vs).take (vs.length - m)) wr ∧ Below n₀ W wr)
    (fun i _ => (intOf i + 1).toNat)
  case atStart => exact ⟨vs.length, Nat.le_refl _, rfl, by rw [Nat.sub_self]; exact h0, Below.refl _ _⟩
  case round =>
    obtain ⟨m, hm, rfl, hJs, hnx⟩ := hrel
    have cb : wr.cell? ⟨Bs, 0, none⟩ = some (.slice A vs.length c) := (hnx.cell (p := ⟨Bs, 0, none⟩) hB).trans hBs
    cases m with
    | zero =>
      have hneg : ¬ ((0 : Int) - 1 ≥ 0) := by decide
      rw [show vs.length - 0 = (bk vs).length from by rw [bk_len]; rfl, List.take_length] at hJs
      gi_wp2
      go_end0
      exact ⟨⟨_, rfl⟩, .inl hJs⟩
    | succ m =>
      have hlt : m < vs.length := by omega
      have hi : ((m + 1 : Nat) : Int) - 1 = (m : Int) := by omega
      rw [hi]
      obtain ⟨b, o, rfl, d1, d2, d3, d4, d5⟩ := rows_ver hr hlt
      have hbn : b < n₀ := hA (by intro e; subst e; simp at hlt) _ rfl
      have k1 := (hnx.cell (p := ⟨b, o + m * 5, none⟩) hbn).trans d1
      have k2 := (hnx.cell (p := ⟨b, o + m * 5 + 1, none⟩) hbn).trans d2
      have k3 := (hnx.cell (p := ⟨b, o + m * 5 + 2, none⟩) hbn).trans d3
      have k4 := (hnx.cell (p := ⟨b, o + m * 5 + 3, none⟩) hbn).trans d4
      have k5 := (hnx.cell (p := ⟨b, o + m * 5 + 4, none⟩) hbn).trans d5
      have hst : (bk vs).take (vs.length - m) = (bk vs).take (vs.length - (m + 1)) ++ [(vs[m], m)] := by
        rw [show vs.length - m = vs.length - (m + 1) + 1 from by omega, List.take_add_one, bk_get hlt]
        rfl
      generalize vs[m] = x at k1 k2 k3 k4 k5 hst
      obtain ⟨fn, tmps, assign, body, hy, hR⟩ := hY _ (x, m) wr hJs (by rw [List.length_take, bk_len]; omega)
      obtain ⟨xa, xn, xt, xr, xo⟩ := x
      dsimp only [encB] at hy
      have hw1 : IntKind.i64.wrap ((m : Int) - 1) = (m : Int) - 1 := by rw [IntKind.wrap_i64]; omega
      have hge : (m : Int) ≥ 0 := by omega
      gi_wp2
      refine hR.mono ?_
      rintro e W3 (⟨rfl, hJ3, hk3⟩ | ⟨rfl, hJx3⟩)
      · gi_wp2
        go_roundw
        case rel => exact ⟨m, by omega, rfl, by rw [hst]; exact hJ3, hnx.trans hk3⟩
        case measure => simp [intOf]
      · gi_wp2
        refine bodyPost_ret (results_none rfl _ _ _) rfl ?_
        exact ⟨⟨_, rfl⟩, .inr ⟨_, by rw [← hst]; exact List.take_prefix _ _, hJx3⟩⟩

theorem backward_stops (F : Fence) (n : Nat) (h7 : F.fn 48) (hro : F.round = none) (hn : 1 ≤ n) (Bs n₀ c : Nat) (A : Option Addr) (vs : Vs) (hlen : vs.length ≤ 1000000) (w : World)
    (hBs : w.cell? ⟨Bs, 0, none⟩ = some (.slice A vs.length c)) (hB : Bs < n₀) (hn0 : n₀ ≤ w.heap.size) (hc : vs.length ≤ c) (hr : RowsAt w 5 A (rwV vs)) (hA : vs ≠ [] → ∀ a, A = some a → a.block < n₀) :
    SeqStopsK F n Tryd.prog 48 #[.pointer (some ⟨Bs, 0, none⟩)] encB (Below n₀) (fun ys => ys = bk vs) (fun pre => pre <+: bk vs) vs.length w := fun l J Jx W hW _ _ hY h0 =>
  back1_in F n h7 hro hn l Bs n₀ c A vs hlen J Jx hY W ((hW.cell (p := ⟨Bs, 0, none⟩) (Nat.lt_of_lt_of_le hB hn0)).trans hBs) hB hc (hr.below hW) hA h0
theorem backward_in (F : Fence) (n : Nat) (h5 : F.fn 35) (hro : F.round = none) (a : Option Addr) (len cap : Nat) (w : World) :
    CallsIn F n Tryd.prog 35 #[.slice a len cap] w fun e w' => e = .returned (.func (.func 48) #[] #[.pointer (some ⟨w.heap.size, 0, none⟩)]) ∧ w' = w.alloc (.cells #[.slice a len cap] 40) := by
  refine callsIn_of_wp Tryd.func35 rfl h5 ?_ hro
  simp only [Tryd.ntmps35, List.size_toArray, List.length_cons, List.length_nil, Nat.reduceAdd, Nat.reduceSub, Array.replicate_succ, Array.replicate_zero, List.push_toArray, List.append_toArray, List.nil_append, List.cons_append]
  gi_wp2
  go_ret
  exact ⟨rfl, rfl⟩

def AllO (l : List (Ver × Nat)) : Prop := ∀ y ∈ l, y.1.open_ = true
def HitO (pre : List (Ver × Nat)) (n : Int) (th : Bool) : Prop := ∃ q x, pre = q ++ [x] ∧ AllO q ∧ x.1.open_ = false ∧ x.1.n = n ∧ x.1.there = th
theorem allO_snoc {l : List (Ver × Nat)} {x : Ver × Nat} (h : AllO l) (hx : x.1.open_ = true) : AllO (l ++ [x]) := by
  intro y hy
  rcases List.mem_append.1 hy with hy | hy
  · exact h y hy
  · simp at hy; rw [hy]; exact hx
theorem lt_find {vs : Vs} : AllO (bk vs) → ltV vs = (0, false) := by
  intro h
  have : vs.reverse.find? (fun v => !v.open_) = none := by
    rw [List.find?_eq_none]
    intro v hv
    rw [List.mem_reverse] at hv
    obtain ⟨i, hi, rfl⟩ := List.mem_iff_getElem.1 hv
    have := h (vs[i], i) (by unfold bk; rw [List.mem_reverse]; exact List.mem_zipIdx_iff_getElem?.2 (by simp [hi]))
    simpa using this
  rw [ltV, this]
theorem lt_hit {vs : Vs} {pr : List (Ver × Nat)} {n : Int} {th : Bool} (hp : pr <+: bk vs) (hh : HitO pr n th) : ltV vs = (n, th) := by
  obtain ⟨pre, x, rfl, h, hx, rfl, rfl⟩ := hh
  obtain ⟨r, hr⟩ := hp
  have hm : vs.reverse = pre.map Prod.fst ++ x.1 :: r.map Prod.fst := by
    have h1 : (bk vs).map Prod.fst = vs.reverse := by rw [bk, List.map_reverse, List.zipIdx_map_fst]
    rw [← h1, ← hr]
    simp
  have : vs.reverse.find? (fun v => !v.open_) = some x.1 := by
    rw [hm, List.find?_append]
    have h2 : (pre.map Prod.fst).find? (fun v => !v.open_) = none := by
      rw [List.find?_eq_none]
      intro v hv
      obtain ⟨y, hy, rfl⟩ := List.mem_map.1 hv
      simp [h y hy]
    rw [h2]
    simp [hx]
  rw [ltV, this]

set_option maxHeartbeats 1000000 in
theorem cLatest_nil (w : World) : Calls Tryd.prog 22 #[.pointer none] w (Ans w (.tuple #[.int .i64 0, .bool false])) := by
  have h0 : Blk ((w.alloc (.cells #[.int .i64 0] 2)).alloc (.cells #[.bool false] 4)) w.heap.size #[.int .i64 0] 2 := (Blk.new w _ _).alloc _
  have h1 : Blk ((w.alloc (.cells #[.int .i64 0] 2)).alloc (.cells #[.bool false] 4)) (w.heap.size + 1) #[.bool false] 4 := by
    have := Blk.new (w.alloc (.cells #[.int .i64 0] 2)) #[.bool false] 4
    rwa [alloc_sz] at this
  have hB0 : Below w.heap.size w ((w.alloc (.cells #[.int .i64 0] 2)).alloc (.cells #[.bool false] 4)) := ((Below.refl _ w).alloc (Nat.le_refl _) _).alloc (by simp) _
  have HB0 := Lib.hid hB0
  have g0 := h0.at_ 0 rfl
  have g1 := h1.at_ 0 rfl
  have f0 := h0.free 0
  have f1 := h1.free 0
  have H0 := Lib.hid h0
  have H1 := Lib.hid h1
  clear hB0 h0 h1
  refine via fun Q hQ => ?_
  go_enter Tryd.func22, Tryd.ntmps22
  go_wp2_with fail
  exact bodyPost_ret (v := .tuple #[.int .i64 0, .bool false]) (by simp [results, Tryd.f22, go_sem, g0, g1]) rfl (hQ _ _ ⟨rfl, HB0.out⟩)

set_option maxHeartbeats 4000000 in
theorem cLatest (p : Nat) (v : Value) (vs : Vs) (w : World) (hF : ChF w p v vs) (hl : vs.length ≤ 1000000) :
    Calls Tryd.prog 22 #[.pointer (some ⟨p, 0, none⟩)] w (Ans w (.tuple #[.int .i64 (ltV vs).1, .bool (ltV vs).2])) := by
  refine (callsIn_wide (n := 3)).1 ?_
  have hro : (Fence.wide).round = none := rfl
  have h22 : Fence.wide.fn 22 := trivial
  have h35 : Fence.wide.fn 35 := trivial
  have h48 : Fence.wide.fn 48 := trivial
  obtain ⟨A, c, rfl, hc, hAc, hr⟩ := hF.2.slv'
  rw [rwV_len] at hc hF
  have hAb : vs ≠ [] → ∀ a, A = some a → a.block < w.heap.size + 1 + 1 + 1 := fun hne a ha => by
    obtain ⟨b, o, e, d1, _⟩ := rows_ver hr (j := 0) (List.length_pos_iff.2 hne)
    rw [ha] at e
    injection e with e
    subst e
    have : b < w.heap.size := World.block_lt_of_cell? w _ d1
    show b < _
    omega
  refine callsIn_of_wp_marks Tryd.func22 rfl h22 ?_ hro
  simp only [Tryd.ntmps22, List.size_toArray, List.length_cons, List.length_nil, Nat.reduceAdd, Nat.reduceSub, Array.replicate_succ, Array.replicate_zero, List.push_toArray, List.append_toArray, List.nil_append, List.cons_append]
  have hB2 : Below w.heap.size w ((w.alloc (.cells #[.int .i64 0] 2)).alloc (.cells #[.bool false] 4)) := ((Below.refl _ w).alloc (Nat.le_refl _) _).alloc (by simp) _
  have c0 := (hF.below hB2).1.at_ 0 rfl
  have b0 : Boxed (((w.alloc (.cells #[.int .i64 0] 2)).alloc (.cells #[.bool false] 4)).alloc (.cells #[.slice A vs.length c] 40)) w.heap.size 2 (.int .i64 0) := ((Boxed.new w _ _).alloc _).alloc _
  have b1 : Boxed (((w.alloc (.cells #[.int .i64 0] 2)).alloc (.cells #[.bool false] 4)).alloc (.cells #[.slice A vs.length c] 40)) (w.heap.size + 1) 4 (.bool false) := by
    have := (Boxed.new (w.alloc (.cells #[.int .i64 0] 2)) 4 (.bool false)).alloc (.cells #[.slice A vs.length c] 40)
    rwa [alloc_sz] at this
  have b2 : Boxed (((w.alloc (.cells #[.int .i64 0] 2)).alloc (.cells #[.bool false] 4)).alloc (.cells #[.slice A vs.length c] 40)) (w.heap.size + 1 + 1) 40 (.slice A vs.length c) := by
    have := Boxed.new ((w.alloc (.cells #[.int .i64 0] 2)).alloc (.cells #[.bool false] 4)) 40 (.slice A vs.length c)
    rwa [alloc_sz, alloc_sz] at this
  have hB3 : Below w.heap.size w (((w.alloc (.cells #[.int .i64 0] 2)).alloc (.cells #[.bool false] 4)).alloc (.cells #[.slice A vs.length c] 40)) := hB2.alloc (by simp; omega) _
  have hsz : (((w.alloc (.cells #[.int .i64 0] 2)).alloc (.cells #[.bool false] 4)).alloc (.cells #[.slice A vs.length c] 40)).heap.size = w.heap.size + 1 + 1 + 1 := by simp
  have hr3 := hr.below hB3
  gi_wp2_with (gi_at_call 35; refine (backward_in Fence.wide (3 - 1) h35 hro _ _ _ _).mono ?_; rintro e w' ⟨rfl, rfl⟩)
  obtain ⟨W0, hW0⟩ : ∃ W0, ((w.alloc (.cells #[.int .i64 0] 2)).alloc (.cells #[.bool false] 4)).alloc (.cells #[.slice A vs.length c] 40) = W0 := ⟨_, rfl⟩
  rw [hW0] at b0 b1 b2 hB3 hsz hr3 ⊢
  clear hW0 hB2 c0 hF hr
  refine wpIn_rangeFunc_ownH hro (by decide) (gf := 48) (lb := #[.pointer (some ⟨w.heap.size + 1 + 1, 0, none⟩)]) rfl h48 (enters_of Tryd.func48 (by kernel_rfl) rfl)
    (backward_stops Fence.wide (3 - 1) h48 hro (by decide) (w.heap.size + 1 + 1) (w.heap.size + 1 + 1 + 1) c A vs hl W0 b2.cell (by omega) (by omega) hc hr3 hAb) belowK_t (belowK_b (by omega)) (Below.refl _ _) (fun _ => rfl)
    (fun pre W => (AllO pre ∧ Boxed W w.heap.size 2 (.int .i64 0) ∧ Boxed W (w.heap.size + 1) 4 (.bool false) ∧ w.heap.size + 1 + 1 + 1 ≤ W.heap.size) ∧ Below w.heap.size w W)
    (fun k pre W => (∃ n th, HitO pre n th ∧ k = .ret ∧ Boxed W w.heap.size 2 (.int .i64 n) ∧ Boxed W (w.heap.size + 1) 4 (.bool th)) ∧ Below w.heap.size w W)
    (OwnFrom.and (fun s X Y row hs hg hr => ⟨hs.1, boxed_own _ 2 (fun (_ : Unit) => Value.int .i64 0) () X Y row hs.2.1 hg (fun r e => (hr r e).2), boxed_own _ 4 (fun (_ : Unit) => Value.bool false) () X Y row hs.2.2.1 hg (fun r e => (hr r e).2), Nat.le_trans hs.2.2.2 hg.size⟩) (ownFrom_below (Nat.le_refl _) (by omega)))
    (fun k => OwnFrom.and (fun s X Y row hs hg hr => by
      obtain ⟨n, th, h1, h4, h5, h6⟩ := hs
      exact ⟨n, th, h1, h4, boxed_own _ 2 (fun (_ : Unit) => Value.int .i64 n) () X Y row h5 hg (fun r e => (hr r e).2), boxed_own _ 4 (fun (_ : Unit) => Value.bool th) () X Y row h6 hg (fun r e => (hr r e).2)⟩) (ownFrom_below (Nat.le_refl _) (by omega)))
    ⟨⟨fun y hy => absurd hy (by simp), b0, b1, by omega⟩, hB3⟩
    (fun x a' W => ∃ Bx, w.heap.size + 1 < Bx ∧ (W.cell? ⟨Bx, 1, none⟩ = some (.int .i64 x.1.n) ∧ W.cell? ⟨Bx, 2, none⟩ = some (.bool x.1.there) ∧ W.cell? ⟨Bx, 4, none⟩ = some (.bool x.1.open_)) ∧ a' = { tmps := #[.pointer (some ⟨p, 0, none⟩), undef, .pointer (some ⟨w.heap.size, 0, none⟩), .pointer (some ⟨w.heap.size + 1, 0, none⟩), undef, .pointer (some ⟨Bx, 0, none⟩), .pointer (some ⟨p, 0, none⟩), .bool false, .pointer (some ⟨p, 0, none⟩), .pointer (some ⟨p, 0, none⟩), .pointer (some ⟨p, 0, none⟩), .slice A vs.length c, .func (.func 48) #[] #[.pointer (some ⟨w.heap.size + 1 + 1, 0, none⟩)], .int .i64 x.2, .agg #[.int .i64 x.1.at_, .int .i64 x.1.n, .bool x.1.there, .int .i64 x.1.read, .bool x.1.open_], undef, undef, undef, undef, undef, undef, undef], defers := [] })
    (fun x a' _ X Y row hs hg hr => by obtain ⟨Bx, h1, ⟨h2, h3, h4⟩, h5⟩ := hs; exact ⟨Bx, h1, ⟨cell_kept h2 hg (fun r e => (hr r e).2), cell_kept h3 hg (fun r e => (hr r e).2), cell_kept h4 hg (fun r e => (hr r e).2)⟩, h5⟩)
    ?assign ?body ?done ?stop
  case assign =>
    rintro l pre ⟨⟨xa, xn, xt, xr, xo⟩, i⟩ W K ⟨⟨hp, k0, k1, hz⟩, hB1⟩ hK
    have hlt := k1.lt
    have hNB := Blk.new W #[.int .i64 xa, .int .i64 xn, .bool xt, .int .i64 xr, .bool xo] 39
    dsimp only [encB]
    gi_wp2
    exact hK _ _ ((KeepsOthers.alloc _ _).from _) ((Below.refl _ W).alloc hz _) ⟨⟨hp, k0.alloc _, k1.alloc _, by rw [alloc_sz]; omega⟩, hB1.alloc hB1.size _⟩ ⟨W.heap.size, hlt, ⟨hNB.at_ 1 rfl, hNB.at_ 2 rfl, hNB.at_ 4 rfl⟩, rfl⟩
  case body =>
    rintro l pre ⟨⟨xa, xn, xt, xr, xo⟩, i⟩ a' W hl2 ⟨r, hr⟩ ⟨⟨hp, k0, k1, hz⟩, hB1⟩ ⟨Bx, hBx, ⟨d1, d2, d4⟩, rfl⟩ hlt
    have g0 := k0.cell
    have g1 := k1.cell
    have f0 := k0.frozen
    have f1 := k1.frozen
    have hB1s := hB1.size
    have HP := Lib.hid hp
    have HK0 := Lib.hid k0
    have HK1 := Lib.hid k1
    have HB1 := Lib.hid hB1
    clear hp k0 k1 hB1
    cases xo with
    | true =>
      gi_wp2
      exact ⟨(KeepsOthers.refl _).from _, Below.refl _ _, ⟨allO_snoc HP.out rfl, HK0.out, HK1.out, hz⟩, HB1.out⟩
    | false =>
      have hne0 : ¬ Bx = w.heap.size := by omega
      have hne1 : ¬ Bx = w.heap.size + 1 := by omega
      have mixed : Tryd.prog.follows Departure.mixedOrders = true := by kernel_rfl
      gi_wp2
      gi_region_with_o (fail)
      all_goals gi_wp2
      all_goals
        have m0 : Blk ((W.setCell ⟨w.heap.size, 0, none⟩ (.int .i64 xn)).setCell ⟨w.heap.size + 1, 0, none⟩ (.bool xt)) w.heap.size _ _ := (Blk.set HK0.out 0 (.int .i64 xn)).far (p := ⟨w.heap.size + 1, 0, none⟩) (by simp) (.bool xt)
        have m1 : Blk ((W.setCell ⟨w.heap.size, 0, none⟩ (.int .i64 xn)).setCell ⟨w.heap.size + 1, 0, none⟩ (.bool xt)) (w.heap.size + 1) _ _ := (Blk.far HK1.out (p := ⟨w.heap.size, 0, none⟩) (by simp) (.int .i64 xn)).set 0 (.bool xt)
        exact ⟨(((KeepsOthers.setCell W ⟨w.heap.size, 0, none⟩ (.int .i64 xn)).trans (KeepsOthers.setCell _ ⟨w.heap.size + 1, 0, none⟩ (.bool xt))).trans (KeepsOthers.drew _)).from _, ⟨xn, xt, ⟨_, _, rfl, HP.out, rfl, rfl, rfl⟩, rfl, m0, m1⟩, ((HB1.out.setCell (p := ⟨w.heap.size, 0, none⟩) (Nat.le_refl _) _).setCell (p := ⟨w.heap.size + 1, 0, none⟩) (by simp) _).drew⟩
  case done =>
    rintro D ys W hD rfl ⟨⟨hall, k0, k1, hz⟩, hB⟩ hK
    have g0 := k0.cell
    have g1 := k1.cell
    have f0 := k0.frozen
    have f1 := k1.frozen
    have hne : ¬ w.heap.size = w.heap.size + 1 := by omega
    gi_wp2
    have hK1 := (KeepsOthers.setCell W ⟨w.heap.size, 0, none⟩ (.int .i64 0)).same D _ hK rfl
    have hK2 := (KeepsOthers.setCell (W.setCell ⟨w.heap.size, 0, none⟩ (.int .i64 0)) ⟨w.heap.size + 1, 0, none⟩ (.bool false)).same D _ hK1 rfl
    have m0 : Blk ((W.setCell ⟨w.heap.size, 0, none⟩ (.int .i64 0)).setCell ⟨w.heap.size + 1, 0, none⟩ (.bool false)) w.heap.size _ _ := (Blk.set k0 0 (.int .i64 0)).far (p := ⟨w.heap.size + 1, 0, none⟩) hne (.bool false)
    have m1 : Blk ((W.setCell ⟨w.heap.size, 0, none⟩ (.int .i64 0)).setCell ⟨w.heap.size + 1, 0, none⟩ (.bool false)) (w.heap.size + 1) _ _ := (Blk.far k1 (p := ⟨w.heap.size, 0, none⟩) (fun e => hne e.symm) (.int .i64 0)).set 0 (.bool false)
    refine ⟨by simp, .inl ⟨_, _, rfl, run_takeDeferred hK2, ?_⟩⟩
    have hc5 := cell_kept (m0.at_ 0 rfl) (grownBy_putObj' _ D (.deferred none)) (fun r e => by cases e; exact ⟨_, hK2, rfl⟩)
    have hc6 := cell_kept (m1.at_ 0 rfl) (grownBy_putObj' _ D (.deferred none)) (fun r e => by cases e; exact ⟨_, hK2, rfl⟩)
    refine ⟨.tuple #[.int .i64 0, .bool false], ?_, by rw [lt_find hall], ((hB.setCell (p := ⟨w.heap.size, 0, none⟩) (Nat.le_refl _) _).setCell (p := ⟨w.heap.size + 1, 0, none⟩) (by simp) _).trans (belowK_b (w := w) (Nat.le_refl _) _ D _ _ (by omega) hK2 rfl rfl)⟩
    simp [results, Tryd.f22, go_sem, hc5, hc6]
  case stop =>
    rintro D k pre W hD hpre ⟨⟨n0, th0, hq, rfl, k0, k1⟩, hB⟩ hK
    have g0 := k0.cell
    have g1 := k1.cell
    rw [lt_hit hpre hq]
    gi_wp2
    refine ⟨by simp, .inl ⟨_, _, rfl, run_takeDeferred hK, ?_⟩⟩
    have hc5 := cell_kept g0 (grownBy_putObj' _ D (.deferred none)) (fun r e => by cases e; exact ⟨_, hK, rfl⟩)
    have hc6 := cell_kept g1 (grownBy_putObj' _ D (.deferred none)) (fun r e => by cases e; exact ⟨_, hK, rfl⟩)
    refine ⟨.tuple #[.int .i64 n0, .bool th0], ?_, rfl, hB.trans (belowK_b (w := w) (Nat.le_refl _) W D _ _ (by omega) hK rfl rfl)⟩
    simp [results, Tryd.f22, go_sem, hc5, hc6]
end Go.Proofs.YtaaijjgaeppmkaaDoor
