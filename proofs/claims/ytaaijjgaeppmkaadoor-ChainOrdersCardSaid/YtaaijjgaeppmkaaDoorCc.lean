/- Package chain: find. -/
import Derived.Test.YtaaijjgaeppmkaaDoorCb
import Derived.Deep.RegionHeld3
import Derived.Shelf.Abstract
set_option linter.unusedVariables false
set_option maxRecDepth 100000
namespace Go.Proofs.YtaaijjgaeppmkaaDoor
open Go.Proofs.BL Go.Proofs.Peel Go.RowKit Go.Proofs.Cn

/-- What an object of package chain is. -/
def ChF (w : World) (p : Nat) (v : Value) (vs : Vs) : Prop := Blk w p #[v] 58 ∧ Own w 0 39 5 v (rwV vs)
theorem ChF.below {w w' : World} {p : Nat} {v : Value} {vs : Vs} (h : ChF w p v vs) (hb : Below w.heap.size w w') : ChF w' p v vs := ⟨h.1.below hb, h.2.below hb⟩
theorem Sat.chF {p : Nat} {vs : Vs} {l : List Part} {w : World} (h : Sat (chP p vs :: l) w) : ∃ v, ChF w p v vs ∧ Sat (blk p #[v] 58 :: ownR v 39 5 (rwV vs) :: l) w := by
  obtain ⟨v, h⟩ := h.openO
  exact ⟨v, ⟨h.blk_, h.s1.own_⟩, h⟩
/-- A version's cells. -/
theorem ChF.ver {w : World} {p g n c : Nat} {vs : Vs} (h : ChF w p (.slice (some ⟨g, 0, none⟩) n c) vs) {i : Nat} {x : Ver} (hi : vs[i]? = some x) :
    w.cell? ⟨g, i * 5, none⟩ = some (.int .i64 x.at_) ∧ w.cell? ⟨g, i * 5 + 1, none⟩ = some (.int .i64 x.n) ∧ w.cell? ⟨g, i * 5 + 2, none⟩ = some (.bool x.there) ∧ w.cell? ⟨g, i * 5 + 3, none⟩ = some (.int .i64 x.read) ∧ w.cell? ⟨g, i * 5 + 4, none⟩ = some (.bool x.open_) := by
  have hr : (rwV vs)[i]? = some (enV x) := by rw [List.getElem?_map, hi]; rfl
  exact ⟨(own_at h.2 hr 0 rfl).1, (own_at h.2 hr 1 rfl).1, (own_at h.2 hr 2 rfl).1, (own_at h.2 hr 3 rfl).1, (own_at h.2 hr 4 rfl).1⟩

set_option maxHeartbeats 1000000 in
theorem cfind1 (p g c b1 b2 : Nat) (vs : Vs) (t : Int) (i : Nat) (x : Ver) (W : World) (h1 : Blk W b1 #[.pointer (some ⟨p, 0, none⟩)] 23) (h2 : Blk W b2 #[.int .i64 t] 3) (h3 : ChF W p (.slice (some ⟨g, 0, none⟩) vs.length c) vs) (hi : vs[i]? = some x) :
    Calls Tryd.prog 39 #[.int .i64 i, .pointer (some ⟨b1, 0, none⟩), .pointer (some ⟨b2, 0, none⟩)] W fun e W' => e = .returned (.bool (decide (x.at_ > t))) ∧ Below W.heap.size W W' := by
  have c1 := h1.at_ 0 rfl
  have c2 := h2.at_ 0 rfl
  have c3 := h3.1.at_ 0 rfl
  have c4 := (h3.ver hi).1
  have hl : i < vs.length := (List.getElem?_eq_some_iff.1 hi).1
  clear h1 h2 h3 hi
  refine via fun Q hQ => ?_
  go_enter Tryd.func39, Tryd.ntmps39
  go_wp2_with fail
  go_quiet (fail)
  go_wp2
  exact ⟨rfl, drew_below _ _⟩

def findC (vs : Vs) (t : Int) : List Lk := if bad t then [.bnd 1073741824 t, .num 2] else if cnt vs t = 0 then [.at_ t, .num 22] else []
def FindPost (w : World) (i : Int) (c : List Lk) (e : Ending) (w' : World) : Prop := ∃ v, e = .returned (.tuple #[.int .i64 i, v]) ∧ Chn w' v c ∧ Below w.heap.size w w'

set_option maxHeartbeats 1000000 in
theorem cfind_nil (t : Int) (w : World) : Calls Tryd.prog 24 #[.pointer none, .int .i64 t] w (FindPost w 0 [.num 1]) := by
  refine via fun Q hQ => ?_
  go_enter Tryd.func24, Tryd.ntmps24
  go_wp2_with fail
  refine (fnew 1 _).mono ?_
  rintro e w1 ⟨v, rfl, hc, hb⟩
  rw [if_neg (by decide)] at hc
  have HC := Lib.hid hc
  have HB := Lib.hid (below_then (((Below.refl w.heap.size w).alloc (Nat.le_refl _) _).alloc (by simp) _) hb)
  clear hc hb
  go_wp2
  exact ⟨v, rfl, HC.out, HB.out⟩

/-- The two boxes of find: its receiver's, its time's. -/
def Boxes (w0 : World) (b : Nat) (q : Value) (t : Int) (x : World) : Prop := Below w0.heap.size w0 x ∧ Blk x b #[q] 23 ∧ Blk x (b + 1) #[.int .i64 t] 3
theorem Boxes.below {w0 : World} {b : Nat} {q : Value} {t : Int} {x x' : World} (h : Boxes w0 b q t x) (hb : Below x.heap.size x x') : Boxes w0 b q t x' := ⟨below_then h.1 hb, h.2.1.below hb, h.2.2.below hb⟩
theorem boxes_new (w : World) (q : Value) (t : Int) : Boxes w w.heap.size q t ((w.alloc (.cells #[q] 23)).alloc (.cells #[.int .i64 t] 3)) :=
  ⟨((Below.refl _ w).alloc (Nat.le_refl _) _).alloc (by simp) _, (Blk.new w _ _).alloc _, by have := Blk.new (w.alloc (.cells #[q] 23)) #[.int .i64 t] 3; simpa using this⟩
def BoxS (w0 : World) (b : Nat) (q : Value) (t : Int) (x : World) : Prop := Boxes w0 b q t x ∧ x.cell? ⟨b + 1, 0, none⟩ = some (.int .i64 t)
theorem Boxes.s {w0 : World} {b : Nat} {q : Value} {t : Int} {x : World} (h : Boxes w0 b q t x) : Boxes w0 b q t x ∧ x.cell? ⟨b + 1, 0, none⟩ = some (.int .i64 t) := ⟨h, h.2.2.at_ 0 rfl⟩

set_option maxHeartbeats 1000000 in
theorem cfind_bad (p : Nat) (t : Int) (w : World) (hb : bad t) : Calls Tryd.prog 24 #[.pointer (some ⟨p, 0, none⟩), .int .i64 t] w (FindPost w 0 [.bnd 1073741824 t, .num 2]) := by
  refine via fun Q hQ => ?_
  unfold bad at hb
  have hbx := boxes_new w (.pointer (some ⟨p, 0, none⟩)) t
  have hNew : ∀ x, Boxes w w.heap.size (.pointer (some ⟨p, 0, none⟩)) t x ∧ World.cell? x ⟨w.heap.size + 1, 0, none⟩ = some (.int .i64 t) → Calls Tryd.prog 36 #[.int .i64 2] x (fun e x' => ∃ v, e = .returned v ∧ Chn x' v [.num 2] ∧ Boxes w w.heap.size (.pointer (some ⟨p, 0, none⟩)) t x' ∧ World.cell? x' ⟨w.heap.size + 1, 0, none⟩ = some (.int .i64 t)) := fun x hx =>
    (fnew 2 x).mono fun e x' ⟨v, h1, h2, h3⟩ => ⟨v, h1, by simpa using h2, (hx.1.below h3).s⟩
  have hBd : ∀ x v, Boxes w w.heap.size (.pointer (some ⟨p, 0, none⟩)) t x ∧ World.cell? x ⟨w.heap.size + 1, 0, none⟩ = some (.int .i64 t) → Chn x v [.num 2] → Calls Tryd.prog 37 #[.int .i64 1073741824, .int .i64 t, v] x (fun e x' => ∃ v', e = .returned v' ∧ Chn x' v' [.bnd 1073741824 t, .num 2] ∧ Boxes w w.heap.size (.pointer (some ⟨p, 0, none⟩)) t x' ∧ World.cell? x' ⟨w.heap.size + 1, 0, none⟩ = some (.int .i64 t)) := fun x v hx hv =>
    (fbound 1073741824 t v _ x hv).mono fun e x' ⟨v', h1, h2, h3⟩ => ⟨v', h1, by simpa using h2, (hx.1.below h3).s⟩
  have HBx := Lib.hid hbx
  have HN := Lib.hid hNew
  have HD := Lib.hid hBd
  clear hbx hNew hBd
  go_enter Tryd.func24, Tryd.ntmps24
  go_wp2_with fail
  all_goals
    have hd := (HBx.out.below (drew_below _ 1)).s
    go_region_held3 (fun x => Boxes w w.heap.size (.pointer (some ⟨p, 0, none⟩)) t x ∧ x.cell? ⟨w.heap.size + 1, 0, none⟩ = some (.int .i64 t)) ((first | assumption | exact hd)) ((first | (go_at_call 36; refine (HN.out _ (by assumption)).mono ?_; rintro e x1 ⟨v1, rfl, hc1, hx1⟩) | (go_at_call 37; refine (HD.out _ _ (by assumption) (by assumption)).mono ?_; rintro e x2 ⟨v2, rfl, hc2, hx2⟩)))
    have HC2 := Lib.hid hc2
    have HB2 := Lib.hid hx2.1.1
    clear hc2 hx2 hc1 hx1 hd
    go_wp2
    exact ⟨v2, rfl, HC2.out, HB2.out⟩

theorem from_find {p b : Nat} {v : Value} {vs : Vs} {t : Int} {w0 W0 : World} (hF : ChF W0 p v vs) (hb : Boxes w0 b (.pointer (some ⟨p, 0, none⟩)) t W0) (hs : Ok vs) :
    From 39 #[.pointer (some ⟨b, 0, none⟩), .pointer (some ⟨b + 1, 0, none⟩)] (cnt vs t) vs.length W0 := by
  intro W hW i hi
  obtain ⟨g, c, rfl, hc1, hc2⟩ := own_some hF.2 (by intro e; rw [List.map_eq_nil_iff] at e; subst e; simp at hi)
  rw [rwV_len] at hF
  have hx := List.getElem?_eq_getElem hi
  have hd : decide (vs[i].at_ > t) = decide (cnt vs t ≤ i) := by
    have := cnt_lt hs.1 t hx
    by_cases h : cnt vs t ≤ i
    · have h1 : vs[i].at_ > t := by
        apply Classical.byContradiction
        intro hn
        have := this.1 (by omega)
        omega
      simp [h, h1]
    · have h1 : ¬ vs[i].at_ > t := fun hn => by have := this.2 (by omega); omega
      simp [h, h1]
  have := cfind1 p g c b (b + 1) vs t i vs[i] W (hb.below hW).2.1 (hb.below hW).2.2 (hF.below hW) hx
  rw [hd] at this
  exact this

set_option maxHeartbeats 1000000 in
theorem cfind (p : Nat) (v : Value) (vs : Vs) (t : Int) (w : World) (hF : ChF w p v vs) (hs : Ok vs) (hl : vs.length ≤ 1000000) (hb : ¬ bad t) :
    Calls Tryd.prog 24 #[.pointer (some ⟨p, 0, none⟩), .int .i64 t] w (FindPost w (if cnt vs t = 0 then 0 else (cnt vs t : Int) - 1) (findC vs t)) := by
  refine via fun Q hQ => ?_
  have hbx := boxes_new w (.pointer (some ⟨p, 0, none⟩)) t
  have hF0 := hF.below hbx.1
  have c0 := hbx.2.1.at_ 0 rfl
  have c1 := hF0.1.at_ 0 rfl
  obtain ⟨A, c, hv, hc, _, _⟩ := hF.2.slv'
  rw [rwV_len] at hv hc
  have hS := search_calls 39 _ (enters_of Tryd.func39 (by kernel_rfl) rfl) _ _ _ (cnt_le vs t) hl (from_find hF0 hbx hs)
  have HS := Lib.hid hS
  have HBx := Lib.hid hbx
  have hcl := cnt_le vs t
  have hfc : findC vs t = if cnt vs t = 0 then [.at_ t, .num 22] else [] := by rw [findC, if_neg hb]
  have hb2 : ¬ t < 1 ∧ ¬ t > 1073741824 := by unfold bad at hb; omega
  obtain ⟨hb3, hb4⟩ := hb2
  rw [hfc] at hQ
  have HFc := Lib.hid hfc
  generalize cnt vs t = k at HS hcl hQ
  subst hv
  clear hF0 hbx hS hF hs hb hfc
  go_enter Tryd.func24, Tryd.ntmps24
  go_wp2_with fail
  refine HS.out.mono ?_
  rintro e w1 ⟨rfl, hb1⟩
  have hbw := HBx.out.below hb1
  have HB1 := Lib.hid hbw
  clear hb1 c0 c1
  by_cases hk : k = 0
  · subst hk
    rw [if_pos rfl, if_pos rfl] at hQ
    go_wp2_with fail
    have hNew : ∀ x, Boxes w w.heap.size (.pointer (some ⟨p, 0, none⟩)) t x ∧ World.cell? x ⟨w.heap.size + 1, 0, none⟩ = some (.int .i64 t) → Calls Tryd.prog 36 #[.int .i64 22] x (fun e x' => ∃ v, e = .returned v ∧ Chn x' v [.num 22] ∧ Boxes w w.heap.size (.pointer (some ⟨p, 0, none⟩)) t x' ∧ World.cell? x' ⟨w.heap.size + 1, 0, none⟩ = some (.int .i64 t)) := fun x hx =>
      (fnew 22 x).mono fun e x' ⟨v, h1, h2, h3⟩ => ⟨v, h1, by simpa using h2, (hx.1.below h3).s⟩
    have hAt : ∀ x v, Boxes w w.heap.size (.pointer (some ⟨p, 0, none⟩)) t x ∧ World.cell? x ⟨w.heap.size + 1, 0, none⟩ = some (.int .i64 t) → Chn x v [.num 22] → Calls Tryd.prog 40 #[.int .i64 t, v] x (fun e x' => ∃ v', e = .returned v' ∧ Chn x' v' [.at_ t, .num 22] ∧ Boxes w w.heap.size (.pointer (some ⟨p, 0, none⟩)) t x' ∧ World.cell? x' ⟨w.heap.size + 1, 0, none⟩ = some (.int .i64 t)) := fun x v hx hv =>
      (fat t v _ x hv).mono fun e x' ⟨v', h1, h2, h3⟩ => ⟨v', h1, by simpa using h2, (hx.1.below h3).s⟩
    have HN := Lib.hid hNew
    have HD := Lib.hid hAt
    clear hNew hAt
    have hd := (HB1.out.below (drew_below _ 1)).s
    go_region_held3 (fun x => Boxes w w.heap.size (.pointer (some ⟨p, 0, none⟩)) t x ∧ x.cell? ⟨w.heap.size + 1, 0, none⟩ = some (.int .i64 t)) ((first | assumption | exact hd)) ((first | (go_at_call 36; refine (HN.out _ (by assumption)).mono ?_; rintro e x1 ⟨v1, rfl, hc1, hx1⟩) | (go_at_call 40; refine (HD.out _ _ (by assumption) (by assumption)).mono ?_; rintro e x2 ⟨v2, rfl, hc2, hx2⟩)))
    have HC2 := Lib.hid hc2
    have HB2 := Lib.hid hx2.1.1
    clear hc2 hx2 hc1 hx1 hd
    go_wp2
    exact ⟨v2, rfl, HC2.out, HB2.out⟩
  · have hk1 : ¬ ((k : Int) - 1 < 0) := by omega
    rw [if_neg hk, if_neg hk] at hQ
    go_wp2
    exact ⟨.nilIface, rfl, rfl, HB1.out.1⟩
end Go.Proofs.YtaaijjgaeppmkaaDoor
