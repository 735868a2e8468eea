/- Package chain: New, Versions, Copy; slices.Clone. -/
import Derived.Test.YtaaijjgaeppmkaaDoorCe
set_option linter.unusedVariables false
set_option maxRecDepth 100000
namespace Go.Proofs.YtaaijjgaeppmkaaDoor
open Go.Proofs.BL Go.Proofs.Peel Go.RowKit Go.Proofs.Cn
/-- slices.Clone of a row of one's own: a new row. -/
def ClVPost (rows : List (List Value)) (w : World) (e : Ending) (w' : World) : Prop := ∃ v', e = .returned v' ∧ Own w' w.heap.size 39 5 v' rows ∧ Below w.heap.size w w'
set_option maxHeartbeats 1000000 in
theorem clV_own (v : Value) (rows : List (List Value)) (w : World) (hO : Own w 0 39 5 v rows) (h1 : ∀ r ∈ rows, ∀ u ∈ r, u.oneCell' = true) (hbig : rows.length * 40 ≤ 140737488355328) :
    Calls Tryd.prog 29 #[v] w (ClVPost rows w) := by
  rcases hO.1.2 with ⟨rfl, hn⟩ | ⟨g, c, cur, rfl, _, _, hcap, hmx, _, _⟩
  · obtain rfl := List.eq_nil_of_length_eq_zero hn
    clear hO hn h1 hbig
    have hne := fun W (a : Option Addr) n c => Lib.run_eql_slice_nil (P := Tryd.prog) W 40 39 a n c 0 0 Tryd.underlying40
    refine via fun Q hQ => ?_
    go_enter Tryd.func29, Tryd.ntmps29
    go_wp2
    exact ⟨_, rfl, Own.nil _ _ _ _, Below.refl _ _⟩
  · obtain ⟨_, _, e, _, _, hr⟩ := hO.slv'
    injection e with e _ _
    subst e
    have hal : Below w.heap.size w (w.alloc (.cells #[] 39)) := (Below.refl _ _).alloc (Nat.le_refl _) _
    have HRr := Lib.hid (hr.below hal)
    have HO2 := Lib.hid (Own.lit w 39 5 0 [] #[] w.heap.size (Nat.le_refl _) rfl (Nat.zero_le _) rfl (fun r h => by cases h) (by simp))
    have H5 := Lib.hid hO.2
    have H1 := Lib.hid h1
    have hb1 : w.heap.size ≤ (w.alloc (.cells #[] 39)).heap.size := hal.size
    have HBs := Lib.hid hb1
    have HA := Lib.hid hal
    have HBig := Lib.hid (show (([] : List (List Value)).length + rows.length) * 40 ≤ 140737488355328 from by simpa using hbig)
    have Hsn := Lib.hid (show (some ⟨g, 0, none⟩ : Option Addr) = none → c = 0 from fun h => by cases h)
    have HInfo := Lib.hid (show (Tryd.prog.info? 39).map (fun i => (i.zero, i.size, i.bytes)) = some (some (.agg #[.int .i64 0, .int .i64 0, .bool false, .int .i64 0, .bool false] : Value), 5, 40) from by kernel_rfl)
    have HZc := Lib.hid (show ((.agg #[.int .i64 0, .int .i64 0, .bool false, .int .i64 0, .bool false] : Value)).cells.size = 5 from by kernel_rfl)
    clear hO h1 hr hal hbig hb1
    have hne := fun W (a : Option Addr) n c => Lib.run_eql_slice_nil (P := Tryd.prog) W 40 39 a n c 0 0 Tryd.underlying40
    refine via fun Q hQ => ?_
    go_enter Tryd.func29, Tryd.ntmps29
    go_wp2_with (at_builtin; go_loud (refine appendNL (W := w.alloc (.cells #[] 39)) w.heap.size 39 5 40 (.agg #[.int .i64 0, .int .i64 0, .bool false, .int .i64 0, .bool false] : Value) rfl (.tmp 5) (.tmp 6) 40 rfl Tryd.underlying40 HInfo.out HZc.out (by decide) (by decide) (.slice (some ⟨w.heap.size, 0, none⟩) 0 0) [] rows rfl (some ⟨g, 0, none⟩) rows.length c rfl rfl Hsn.out HRr.out H5.out H1.out HO2.out HBs.out HBig.out ?_); intro v1 w1 ho1 hf1 hl1)
    have hbf : Below w.heap.size w w1 := ((Fr.of_below (S := none_) HA.out).trans hf1 (fun i hi h => by
      simp only [Value.ownBlock, Option.some.injEq] at h
      omega)).below
    have HO1 := Lib.hid ho1
    have HB1 := Lib.hid hbf
    clear ho1 hf1 hl1 hbf
    exact ⟨v1, rfl, HO1.out, HB1.out⟩


def NewPost (l : List Part) (vs : Vs) (e : Ending) (w' : World) : Prop := ∃ p : Nat, e = .returned (.pointer (some ⟨p, 0, none⟩)) ∧ Sat (chP p vs :: l) w'
theorem alloc_sz (w : World) (o : Obj) : (w.alloc o).heap.size = w.heap.size + 1 := by simp
/-- A literal's row, made. -/
theorem Sat.lit {l : List Part} {w : World} (h : Sat l w) (E : TypeId) (sz n : Nat) (rows : List (List Value)) (cs : Array Value) (hn : n = rows.length) (hm : n ≤ maxLen) (hcs : cs.toList = rows.flatten) (hs : ∀ r, r ∈ rows → r.length = sz) (hc : cs.size = n * sz) (ht : isErrT E = false := by rfl) :
    Sat (ownR (.slice (some ⟨w.heap.size, 0, none⟩) n n) E sz rows :: l) (w.alloc (.cells cs E)) :=
  h.made ((Below.refl _ _).alloc (Nat.le_refl _) _) (Own.lit w E sz n rows cs w.heap.size (Nat.le_refl _) hn hm hcs hs hc) ht

set_option maxHeartbeats 1000000 in
theorem cNew (n : Int) (th : Bool) (l : List Part) (w : World) (h : Sat l w) : Calls Tryd.prog 7 #[.int .i64 n, .bool th] w (NewPost l [mk 0 n th false]) := by
  have hcv := cver 0 n th false w
  have hmk : mk 0 n th false = ⟨0, if th then n else 0, th, 0, false⟩ := rfl
  generalize (if th then n else 0) = z at hmk
  rw [hmk] at hcv ⊢
  have HV := Lib.hid hcv
  have H := Lib.hid h
  clear hcv hmk h
  refine via fun Q hQ => ?_
  go_enter Tryd.func7, Tryd.ntmps7
  go_wp2_with fail
  refine HV.out.mono ?_
  rintro e w1 ⟨rfl, hb1⟩
  have hS := ((H.out.below hb1).lit 39 5 1 (rwV [⟨0, z, th, 0, false⟩]) #[.int .i64 0, .int .i64 z, .bool th, .int .i64 0, .bool false] rfl (by decide) rfl (rwV_five _) rfl).alloc #[.slice (some ⟨w1.heap.size, 0, none⟩) 1 1] 58
  rw [alloc_sz] at hS
  have HS := Lib.hid hS.shutO
  clear hb1 hS HV H
  have he : (enV ⟨0, z, th, 0, false⟩).toArray = #[.int .i64 0, .int .i64 z, .bool th, .int .i64 0, .bool false] := rfl
  rw [he]
  go_wp2_with fail
  exact ⟨_, rfl, HS.out⟩

def VersPost (l : List Part) (vs : Vs) (e : Ending) (w' : World) : Prop := ∃ v : Value, e = .returned v ∧ Sat (ownR v 39 5 (rwV vs) :: l) w'
set_option maxHeartbeats 1000000 in
theorem cVersions (p : Nat) (vs : Vs) (l : List Part) (w : World) (h : Sat (chP p vs :: l) w) (hl : vs.length ≤ 1000000) : Calls Tryd.prog 14 #[.pointer (some ⟨p, 0, none⟩)] w (VersPost (chP p vs :: l) vs) := by
  obtain ⟨v, hF, h2⟩ := h.chF
  have c0 := hF.1.at_ 0 rfl
  have HC := Lib.hid (clV_own v (rwV vs) w hF.2 (rwV_one vs) (by rw [rwV_len]; omega))
  have H := Lib.hid h
  clear h hF h2
  refine via fun Q hQ => ?_
  go_enter Tryd.func14, Tryd.ntmps14
  go_wp2_with fail
  refine HC.out.mono ?_
  rintro e w1 ⟨v1, rfl, ho, hb⟩
  have HS := Lib.hid (H.out.made hb ho)
  clear ho hb HC
  go_wp2
  exact ⟨v1, rfl, HS.out⟩
set_option maxHeartbeats 1000000 in
theorem cCopy (p : Nat) (vs : Vs) (l : List Part) (w : World) (h : Sat (chP p vs :: l) w) (hl : vs.length ≤ 1000000) : Calls Tryd.prog 18 #[.pointer (some ⟨p, 0, none⟩)] w (NewPost (chP p vs :: l) vs) := by
  obtain ⟨v, hF, h2⟩ := h.chF
  have c0 := hF.1.at_ 0 rfl
  have HC := Lib.hid (clV_own v (rwV vs) w hF.2 (rwV_one vs) (by rw [rwV_len]; omega))
  have H := Lib.hid h
  clear h hF h2
  refine via fun Q hQ => ?_
  go_enter Tryd.func18, Tryd.ntmps18
  go_wp2_with fail
  refine HC.out.mono ?_
  rintro e w1 ⟨v1, rfl, ho, hb⟩
  obtain ⟨A1, c1, rfl, _, _, _⟩ := ho.slv'
  have hS := H.out.made hb ho
  rw [rwV_len] at hS
  have HS := Lib.hid (hS.alloc #[.slice A1 vs.length c1] 58).shutO
  clear ho hb HC hS
  go_wp2_with fail
  exact ⟨_, rfl, HS.out⟩

theorem cNils (w : World) : Calls Tryd.prog 14 #[.pointer none] w (fun e w' => e = .returned (.slice none 0 0) ∧ w' = w) := by
  refine via fun Q hQ => ?_
  go_enter Tryd.func14, Tryd.ntmps14
  go_wp2
theorem cNilCopy (w : World) : Calls Tryd.prog 18 #[.pointer none] w (fun e w' => e = .returned (.pointer none) ∧ w' = w) := by
  refine via fun Q hQ => ?_
  go_enter Tryd.func18, Tryd.ntmps18
  go_wp2
end Go.Proofs.YtaaijjgaeppmkaaDoor
