/- Package page: Get, Len, New. -/
import Derived.Test.YtlekfpeonehggaaGreatDoorJ23
section
set_option linter.unusedVariables false
set_option maxRecDepth 100000
namespace Go.Proofs.YtlekfpeonehggaaGreatDoor
open Go.Proofs.BL Go.Proofs.Peel Go.RowKit Go.Proofs.Ky

theorem page_len {P : List (List Rw)} {r : List Rw} (h : r ∈ P) : r.length ≤ P.flatten.length := by
  induction P with
  | nil => cases h
  | cons p P ih =>
    rw [List.flatten_cons, List.length_append]
    rcases List.mem_cons.1 h with rfl | h
    · omega
    · have := ih h; omega
theorem pgs_len {P : List (List Rw)} (h : Pgs tx P) : P.length ≤ P.flatten.length := by
  have h2 := h.2
  clear h
  induction P with
  | nil => exact Nat.le_refl _
  | cons p P ih =>
    have h3 := ih (fun q hq => h2 q (List.mem_cons_of_mem _ hq))
    have h4 := List.length_pos_iff.2 (h2 p List.mem_cons_self)
    rw [List.flatten_cons, List.length_append, List.length_cons]
    omega
theorem upAS {x : World} {a : Addr} {v : Value} (h : x.cell? a = some v) (o : Obj) (j : Nat) (u : Value) : ((x.alloc o).setCell ⟨x.heap.size, j, none⟩ u).cell? a = some v :=
  ((((Below.refl x.heap.size x).alloc (Nat.le_refl _) o).setCell (Nat.le_refl _) u).cell (World.block_lt_of_cell? x a h)).trans h
theorem newC {w x1 : World} {v : Value} {t : TypeId} (hb : Below (w.alloc (.cells #[v] t)).drew.heap.size (w.alloc (.cells #[v] t)).drew x1) : Blk x1 w.heap.size #[v] t ∧ x1.cell? ⟨w.heap.size, 0, none⟩ = some v ∧ x1.frozen? ⟨w.heap.size, 0, none⟩ = false := by
  have hB : Blk x1 w.heap.size #[v] t := Blk.below (w := (w.alloc (.cells #[v] t)).drew) (Blk.new w #[v] t) hb
  exact ⟨hB, hB.at_ 0 rfl, hB.free 0⟩
def PGetPost (g : Option Int) (w : World) (e : Ending) (w' : World) : Prop := e = .returned (.tuple #[.int .i64 (g.getD 0), .bool g.isSome]) ∧ Below w.heap.size w w'
theorem there_key {l : List Rw} {key : ByteArray} (h : there tx key l = true) : ∃ n, l[low tx key l]? = some (key, n) := by
  unfold there at h
  cases hg : l[low tx key l]? with
  | none => rw [hg] at h; cases h
  | some r =>
    rw [hg] at h
    have : r.1 = key := of_decide_eq_true h
    exact ⟨r.2, by rw [← this]⟩
theorem pgNilGet (key : ByteArray) (w : World) : Calls Tryz.prog 36 #[.pointer none, .string key] w (PGetPost none w) := by
  refine via fun Q hQ => ?_
  have HB := Lib.hid (Below.refl w.heap.size w)
  go_enter Tryz.func36, Tryz.ntmps36
  go_wp2
  exact ⟨rfl, HB.out⟩
set_option maxHeartbeats 4000000 in
theorem stGet (p : Nat) (most n : Int) (L : Value) (vs : List Value) (P : List (List Rw)) (key : ByteArray) (w : World) (hF : StF w p most n L vs P) (hP : Pgs tx P) (hl : P.flatten.length ≤ 1000000) :
    Calls Tryz.prog 36 #[.pointer (some ⟨p, 0, none⟩), .string key] w (PGetPost (get key P.flatten) w) := by
  refine via fun Q hQ => ?_
  obtain ⟨A, c, rfl, hc, hA, _⟩ := hF.leaves
  have c1 := hF.b.at_ 1 rfl
  have HR := Lib.hid (Below.refl w.heap.size w)
  by_cases hn : P = []
  · subst hn
    clear hF hP hA
    simp only [List.length_nil] at c1 ⊢
    go_enter Tryz.func36, Tryz.ntmps36
    go_wp2_with fail
    exact ⟨rfl, HR.out⟩
  · have hlt := pgI_lt tx key hn
    have hfi : fndI key P = (pgI tx key P : Int) := if_neg hn
    have hgf := get_flat tx (k := key) hP hn
    rw [getD_at _ _ hlt] at hgf
    have hx : P[pgI tx key P]? = some P[pgI tx key P] := List.getElem?_eq_getElem hlt
    have hup := pgs_up tx hP hlt
    have hrl := page_len (List.getElem_mem hlt)
    have hfd := stFind p most n (.slice A P.length c) vs P key
    rw [hfi] at hfd
    generalize P[pgI tx key P] = r at hx hgf hup hrl
    generalize pgI tx key P = i at *
    rw [hgf] at hQ
    obtain ⟨b, v, rfl, hv, k1, _, hO⟩ := hF.page hx
    obtain ⟨A2, c2, rfl, hc2, _, _⟩ := hO.slv'
    rw [rwR_len] at hc2 hO k1 hv
    have hpl := pgs_len hP
    have HFd := Lib.hid (fun x (hb : Below w.heap.size w x) => hfd x (hF.below hb) hP.2 (by omega))
    have HAt := Lib.hid (fun x (hb : Below w.heap.size w x) => lfAt (.slice A2 r.length c2) r key x (hO.below hb) hup (by omega))
    have hgt := get_there tx (k := key) hup
    have hky := @there_key r key
    generalize there tx key r = th at HAt hgt hky
    generalize low tx key r = lo at HAt hgt hky
    have HO := Lib.hid hO
    have HGt := Lib.hid hgt
    have HKy := Lib.hid hky
    have HX := Lib.hid hx
    have b1 : i < P.length := (List.getElem?_eq_some_iff.1 hx).1
    have b2 : (0 : Int) ≤ (i : Int) := by omega
    have b3 : (i : Int) < (P.length : Int) := by omega
    have b4 : decide ((i : Int) < (P.length : Int)) = true := decide_eq_true b3
    have b5 : ((P.length : Int) == 0) = false := int_diff (by omega)
    have b6 : 0 < P.length := by omega
    clear hfd hgf hF hP hfi hO hx hgt hv hA hky
    generalize hrn : r.length = nr at *
    generalize P.length = N at *
    have HS := Lib.hid (show ∀ x, Below w.heap.size w x → (World.cell? x ⟨p, 1, none⟩ = some (.slice (some ⟨b, 0, none⟩) N c) ∧ World.cell? x ⟨b, i, none⟩ = some (.slice A2 nr c2) ∧ Below w.heap.size w x) from fun x h => ⟨(h.cell (World.block_lt_of_cell? w _ c1)).trans c1, (h.cell (World.block_lt_of_cell? w _ k1)).trans k1, h⟩)
    have HCall := Lib.hid (show ∀ x, (World.cell? x ⟨p, 1, none⟩ = some (.slice (some ⟨b, 0, none⟩) N c) ∧ World.cell? x ⟨b, i, none⟩ = some (.slice A2 nr c2) ∧ Below w.heap.size w x) → Calls Tryz.prog 57 #[.pointer (some ⟨p, 0, none⟩), .string key] x (fun e x' => e = .returned (.int .i64 i) ∧ (World.cell? x' ⟨p, 1, none⟩ = some (.slice (some ⟨b, 0, none⟩) N c) ∧ World.cell? x' ⟨b, i, none⟩ = some (.slice A2 nr c2) ∧ Below w.heap.size w x') ∧ Below x.heap.size x x') from fun x ⟨h1, h2, h3⟩ => (HFd.out x h3).mono fun e x' ⟨he, hb⟩ => ⟨he, ⟨(hb.cell (World.block_lt_of_cell? x _ h1)).trans h1, (hb.cell (World.block_lt_of_cell? x _ h2)).trans h2, below_then h3 hb⟩, hb⟩)
    clear HFd
    go_enter Tryz.func36, Tryz.ntmps36
    go_wp2_with fail
    go_region_held3 (fun x => x.cell? ⟨p, 1, none⟩ = some (.slice (some ⟨b, 0, none⟩) N c) ∧ x.cell? ⟨b, i, none⟩ = some (.slice A2 nr c2) ∧ Below w.heap.size w x) ((first | assumption | exact HS.out _ HR.out | exact HS.out _ (drew_below w 1) | exact HS.out _ (below_then ((Below.refl _ _).alloc (Nat.le_refl _) _) (drew_below _ 1)) | exact HS.out _ (below_then hx1.2.2 ((Below.refl _ _).alloc (Nat.le_refl _) _)) | exact HS.out _ (below_then hx1.2.2 (((Below.refl _ _).alloc (Nat.le_refl _) _).setCell (Nat.le_refl _) _)) | exact HS.out _ (hx1.2.2.setCell (Nat.le_refl _) _))) ((first | (go_at_call 57; (with_reducible refine (HCall.out _ (by assumption)).mono ?_); rintro e x1 ⟨rfl, hx1, hbx⟩; first | (have hnc := newC hbx) | skip; clear hbx)))
    all_goals
      first
      | have hB1 : Blk (x1.setCell ⟨w.heap.size, 0, none⟩ (.slice A2 nr c2)) w.heap.size #[.slice A2 nr c2] 59 := hnc.1.set 0 _
        have hw1 : Below w.heap.size w (x1.setCell ⟨w.heap.size, 0, none⟩ (.slice A2 nr c2)) := hx1.2.2.setCell (Nat.le_refl _) _
        generalize x1.setCell ⟨w.heap.size, 0, none⟩ (.slice A2 nr c2) = W1 at *
        generalize w.heap.size = m at hB1 ⊢
      | have hB1 : Blk (x1.alloc (.cells #[.slice A2 nr c2] 59)) x1.heap.size #[.slice A2 nr c2] 59 := Blk.new _ _ _
        have hw1 : Below w.heap.size w (x1.alloc (.cells #[.slice A2 nr c2] 59)) := below_then hx1.2.2 ((Below.refl _ _).alloc (Nat.le_refl _) _)
        generalize x1.alloc (.cells #[.slice A2 nr c2] 59) = W1 at *
        generalize x1.heap.size = m at hB1 ⊢
      have kk := hB1.at_ 0 rfl
      have HB1 := Lib.hid hB1
      have HW1 := Lib.hid hw1
      clear hB1 hw1 hx1
      try clear hnc
      go_wp2_with fail
      (with_reducible refine (HAt.out _ HW1.out).mono ?_)
      rintro e w2 ⟨rfl, hb2⟩
      have hw2 := below_then HW1.out hb2
      have kk2 := (HB1.out.below hb2).at_ 0 rfl
      cases th with
      | false =>
        have hg := HGt.out
        rw [if_neg (by simp)] at hg
        have HG := Lib.hid hg
        have HW2 := Lib.hid hw2
        clear hg hw2 hb2
        go_wp2_with fail
        exact ⟨by rw [HG.out]; rfl, HW2.out⟩
      | true =>
        obtain ⟨nn, hnn⟩ := HKy.out rfl
        have hg := HGt.out
        rw [if_pos rfl, hnn] at hg
        have hlo := (List.getElem?_eq_some_iff.1 hnn).1
        rw [hrn] at hlo
        obtain ⟨g2, c3, e3, _, _⟩ := HO.out.some_ (fun e => by have h9 := congrArg List.length e; rw [rwR_len, hrn] at h9; simp at h9; omega)
        injection e3 with e3 _ _
        subst e3
        obtain ⟨⟨_, k5⟩, _, _⟩ := pgRow (HO.out.below hw2) hnn
        simp only at k5
        have HG := Lib.hid hg
        have HW2 := Lib.hid hw2
        clear hg hw2 hb2 hnn
        go_wp2_with fail
        exact ⟨by rw [HG.out]; rfl, HW2.out⟩
end Go.Proofs.YtlekfpeonehggaaGreatDoor
end
