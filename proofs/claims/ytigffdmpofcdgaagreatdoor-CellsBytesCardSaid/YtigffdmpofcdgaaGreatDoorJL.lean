/- The law's same of chapter 7; keys that are not too long. Chapter 7's example. -/
import Derived.Test.YtigffdmpofcdgaaGreatDoorJE
section
set_option linter.unusedVariables false
set_option maxRecDepth 100000
namespace Go.Proofs.YtigffdmpofcdgaaGreatDoor
open Go.Proofs.BL Go.Proofs.Peel Go.RowKit Go.Proofs.Ky

theorem with_all {P : Rw → Prop} {l : List Rw} (h : ∀ r ∈ l, P r) (k : ByteArray) (v : Option Int) (hv : ∀ n, v = some n → P (k, n)) : ∀ r ∈ withR tx k v l, P r := by
  have go : ∀ (l : List Rw) (n : Int) (i : Bool), (∀ r ∈ l, P r) → (i = false → P (k, n)) → ∀ r ∈ withGo tx k n i l, P r := by
    intro l
    induction l with
    | nil =>
      intro n i _ hi r hr
      cases i with
      | true => cases hr
      | false =>
        have : r = (k, n) := by simpa [withGo] using hr
        rw [this]; exact hi rfl
    | cons x l ih =>
      intro n i hl hi r hr
      have hx := hl x List.mem_cons_self
      simp only [withGo] at hr
      rcases List.mem_append.1 hr with hr | hr
      · rcases List.mem_append.1 hr with hr | hr
        · split at hr
          · rename_i hc
            have : r = (k, n) := by simpa using hr
            rw [this]
            apply hi
            cases i
            · rfl
            · simp at hc
          · cases hr
        · split at hr
          · cases hr
          · have : r = x := by simpa using hr
            rw [this]; exact hx
      · refine ih n _ (fun r hr => hl r (List.mem_cons_of_mem _ hr)) (fun e => hi ?_) r hr
        cases i
        · rfl
        · simp at e
  cases v with
  | some n => exact go l n false h (fun _ => hv n rfl)
  | none => exact go l 0 true h (fun e => by cases e)
def K16 (l : List Rw) : Prop := ∀ r ∈ l, r.1.size ≤ 16
/-- What rows of a store are. -/
def Good (l : List Rw) : Prop := Fit tx l ∧ R64 l ∧ K16 l
theorem good_nil : Good [] := ⟨fit_nil, (fun r h => by cases h), fun r h => by cases h⟩
theorem good_with {l : List Rw} (h : Good l) (k : ByteArray) (v : Option Int) (hv : ∀ n, v = some n → in64 n ∧ k.size ≤ 16) (hl : (withR tx k v l).length ≤ 256) : Good (withR tx k v l) := by
  refine ⟨⟨?_, hl⟩, with_all h.2.1 k v (fun n hn => (hv n hn).1), with_all h.2.2 k v (fun n hn => (hv n hn).2)⟩
  cases v with
  | none => exact up_with_none tx h.1.1
  | some n => exact up_with_some tx n h.1.1
theorem may_key {k n lo : Int} {s : ByteArray} (h : mayB k s n lo = true) : s.size ≤ 16 := by
  unfold mayB keyB sysB at h
  simp only [Bool.and_eq_true, Bool.or_eq_true, decide_eq_true_eq] at h
  rcases h.2 with h | h <;> exact h.1
theorem ev_may {o : Opr} {g : Option Int} {v : Option Int} {t : Int} (h : evO o g = .ok (v, t)) : o.key.size ≤ 16 := by
  unfold evO evR at h
  cases hm : mayB o.kind o.key o.n o.lo with
  | true => exact may_key hm
  | false => rw [hm] at h; unfold evalV at h; simp at h
theorem ev_in64 {o : Opr} {g : Option Int} {n t : Int} (ho : in64 o.n) (hg : in64 (g.getD 0)) (h : evO o g = .ok (some n, t)) : in64 n := by
  unfold evO at h
  split at h
  · cases h
  · injection h with h
    injection h with h _
    split at h
    · injection h with h
      rw [← h]
      exact ev_in _ _ _ _ _ _ ho hg
    · cases h
theorem good_runB : ∀ (os : List Opr) (i : Nat) (l m : List Rw) (ts : List Int), Good l → (∀ o ∈ os, in64 o.n) → runB i l os = .ok (m, ts) → Good m
  | [], i, l, m, ts, h, _, hr => by
    unfold runB runR at hr
    injection hr with hr
    injection hr with hr _
    rw [← hr]; exact h
  | o :: os, i, l, m, ts, h, ho, hr => by
    unfold runB at hr
    simp only [runR] at hr
    cases hev : evO o (get o.key l) with
    | error e => rw [hev] at hr; cases hr
    | ok vt =>
      obtain ⟨v, t⟩ := vt
      rw [hev] at hr
      simp only at hr
      split at hr
      · cases hr
      · rename_i hn
        have hg := good_with h o.key v (fun n hn => by
          subst hn
          exact ⟨ev_in64 (ho o List.mem_cons_self) (get64 h.2.1 _) hev, ev_may hev⟩) (by omega)
        cases hrr : runB (i + 1) (withR tx o.key v l) os with
        | error e => unfold runB at hrr; rw [hrr] at hr; cases hr
        | ok x =>
          obtain ⟨m', ts'⟩ := x
          have ih := good_runB os (i + 1) _ m' ts' hg (fun o ho' => ho o (List.mem_cons_of_mem _ ho')) hrr
          unfold runB at hrr
          rw [hrr] at hr
          injection hr with hr
          injection hr with hr _
          rw [← hr]; exact ih
theorem good_runV {l : List Rw} (h : Good l) {os : List Opr} (ho : ∀ o ∈ os, in64 o.n) : Good (runV l os).1 := by
  unfold runV
  rw [← runB_A h.1]
  cases hr : runB 0 l os with
  | error e => exact h
  | ok x => exact good_runB os 0 l x.1 x.2 h ho hr
theorem good_new {rows : List Rw} (h : R64 rows) : Good (newP tx okK rows []) := by
  have go : ∀ (rows l : List Rw), R64 rows → Good l → Good (newR tx okK rows l) := by
    intro rows
    induction rows with
    | nil => intro l _ hl; exact hl
    | cons r rows ih =>
      intro l hr hl
      unfold newR
      rw [List.foldl_cons]
      refine ih _ (fun x hx => hr x (List.mem_cons_of_mem _ hx)) ?_
      split
      · rename_i hc
        exact good_with hl r.1 (some r.2) (fun n hn => by injection hn with hn; rw [← hn]; exact ⟨hr r List.mem_cons_self, of_decide_eq_true hc.1⟩) hc.2
      · exact hl
  rw [(new_same tx okK rows [] fit_nil).1]
  exact go rows [] h good_nil
theorem get_at {l : List Rw} (h : Up tx l) {i : Nat} {r : Rw} (hx : l[i]? = some r) : get r.1 l = some r.2 := by
  have hi := (List.getElem?_eq_some_iff.1 hx).1
  have hlow : low tx r.1 l = i := by
    have h1 := low_lt tx h (k := r.1) hx
    rw [tx.irr] at h1
    have h2 : low tx r.1 l ≤ i := Nat.le_of_not_lt (fun hlt => by have := h1.2 hlt; cases this)
    apply Nat.le_antisymm h2
    apply Nat.le_of_not_lt
    intro hlt
    obtain ⟨y, hy⟩ : ∃ y, l[low tx r.1 l]? = some y := ⟨_, List.getElem?_eq_getElem (by omega)⟩
    have h3 := low_lt tx h (k := r.1) hy
    have hlty : tx.lt y.1 r.1 = true := by
      obtain ⟨hj, ey⟩ := List.getElem?_eq_some_iff.1 hy
      obtain ⟨hi', er⟩ := List.getElem?_eq_some_iff.1 hx
      have := (List.pairwise_iff_getElem.1 h) _ _ hj hi' hlt
      rw [ey, er] at this
      exact this
    have := h3.1 hlty
    omega
  rw [get_there tx h]
  have ht : there tx r.1 l = true := by unfold there; rw [hlow, hx]; exact decide_eq_true rfl
  rw [ht, if_pos rfl, hlow, hx]
  rfl
theorem get_long {l : List Rw} (h : K16 l) {k : ByteArray} (hk : 16 < k.size) : get k l = none := get_none (fun x hx e => by have := h x hx; rw [e] at this; omega)
def SamePost (ls : List Part) (e : Ending) (w' : World) : Prop := e = .returned (.bool true) ∧ Sat ls w'
end Go.Proofs.YtigffdmpofcdgaaGreatDoor
end

section
set_option linter.unusedVariables false
set_option maxRecDepth 100000
namespace Go.Proofs.YtigffdmpofcdgaaGreatDoor
open Go.Proofs.BL Go.Proofs.Peel Go.RowKit Go.Proofs.Ky

/-- A literal's row, made, and not written any more. -/
theorem Sat.litR {l : List Part} {w : World} (h : Sat l w) (E : TypeId) (sz n : Nat) (rows : List (List Value)) (cs : Array Value) (hn : n = rows.length) (hm : n ≤ maxLen) (hcs : cs.toList = rows.flatten) (hs : ∀ r, r ∈ rows → r.length = sz) (hc : cs.size = n * sz) (ht : isErrT E = false := by rfl) :
    Sat (roR sz (some ⟨w.heap.size, 0, none⟩) rows :: l) (w.alloc (.cells cs E)) := by
  obtain ⟨A, c, e, _, _, hS⟩ := (h.lit E sz n rows cs hn hm hcs hs hc ht).still
  injection e with e
  subst e
  exact hS
def RowPost (k : ByteArray) (n : Int) (w : World) (e : Ending) (w' : World) : Prop := e = .returned (.agg #[.string k, .int .i64 n]) ∧ Below w.heap.size w w'
theorem lrow (k : ByteArray) (n : Int) (w : World) : Calls Tryz.prog 36 #[.string k, .int .i64 n] w (RowPost k n w) := by
  refine via fun Q hQ => ?_
  go_enter Tryz.func36, Tryz.ntmps36
  go_wp2_with fail
  exact bodyPost_ret (results_cell_row rfl _ _ w.heap.size 61 _ (0, 0) _ rfl (heap_alloc_new w _) Tryz.underlying61 rfl (by kernel_rfl)) rfl (hQ _ _ ⟨rfl, (Below.refl _ _).alloc (Nat.le_refl _) _⟩)
def sX : ByteArray := ⟨#[120]⟩
def sA : ByteArray := ⟨#[97]⟩
def sY : ByteArray := ⟨#[121]⟩
def sZ : ByteArray := ⟨#[122]⟩
theorem aw1 : newP tx okK [(sX, 2), (sA, 1)] [] = [(sA, 1), (sX, 2)] := by decide +kernel
theorem aw2 : runV [(sA, 1), (sX, 2)] [⟨4, sX, 3, 0⟩, ⟨3, sA, 0, 0⟩, ⟨1, sY, 0, 0⟩] = ([(sX, 5)], [5, 1, 0], 0, 0) := by decide +kernel
theorem aw3 : runV [(sX, 5)] [⟨2, sZ, 1, 0⟩, ⟨5, sX, -9, 0⟩] = ([(sX, 5)], [], 1, 24) := by decide +kernel
theorem good1 : Good [(sA, 1), (sX, 2)] := by
  refine ⟨⟨?_, by decide⟩, ?_, ?_⟩
  · exact List.pairwise_cons.2 ⟨fun r hr => by rw [List.mem_singleton.1 hr]; decide +kernel, List.pairwise_singleton _ _⟩
  · intro r hr
    rcases List.mem_cons.1 hr with rfl | hr
    · decide
    · rw [List.mem_singleton.1 hr]; decide
  · intro r hr
    rcases List.mem_cons.1 hr with rfl | hr
    · decide
    · rw [List.mem_singleton.1 hr]; decide
theorem good2 : Good [(sX, 5)] := by
  refine ⟨⟨List.pairwise_singleton _ _, by decide⟩, ?_, ?_⟩
  · intro r hr; rw [List.mem_singleton.1 hr]; decide
  · intro r hr; rw [List.mem_singleton.1 hr]; decide
set_option maxHeartbeats 8000000 in
theorem lawake (ls : List Part) (w : World) (h : Sat (errP :: ls) w) : Calls Tryz.prog 12 #[] w (SamePost (errP :: ls)) := by
  refine via fun Q hQ => ?_
  have H := Lib.hid h
  clear h
  go_enter Tryz.func12, Tryz.ntmps12
  go_wp2_with fail
  refine (lrow sX 2 _).mono ?_
  rintro e w1 ⟨rfl, hb1⟩
  have H1 := Lib.hid (H.out.below hb1)
  clear hb1
  go_wp2_with fail
  refine (lrow sA 1 _).mono ?_
  rintro e w2 ⟨rfl, hb2⟩
  have H2 := Lib.hid (H1.out.below hb2)
  clear hb2
  have hN := cNew (some ⟨w2.heap.size, 0, none⟩) 2 [(sX, 2), (sA, 1)] _ _ (H2.out.litR 61 2 2 (rwR [(sX, 2), (sA, 1)]) #[.string sX, .int .i64 2, .string sA, .int .i64 1] rfl (by decide) rfl (rwR_two _) rfl) (by decide) (by decide)
  rw [aw1] at hN
  have HN := Lib.hid hN
  clear hN
  go_wp2_with fail
  refine HN.out.mono ?_
  rintro e w3 ⟨p, rfl, hS3⟩
  have hS3b := hS3.s1.drop
  have hR := cRun p [(sA, 1), (sX, 2)] (some ⟨w3.heap.size, 0, none⟩) 3 [⟨4, sX, 3, 0⟩, ⟨3, sA, 0, 0⟩, ⟨1, sY, 0, 0⟩] ls _ ((hS3b.litR 67 4 3 (rwO [⟨4, sX, 3, 0⟩, ⟨3, sA, 0, 0⟩, ⟨1, sY, 0, 0⟩]) #[.int .i64 4, .string sX, .int .i64 3, .int .i64 0, .int .i64 3, .string sA, .int .i64 0, .int .i64 0, .int .i64 1, .string sY, .int .i64 0, .int .i64 0] rfl (by decide) rfl (fun r hr => by obtain ⟨x, _, rfl⟩ := List.mem_map.1 hr; rfl) rfl).perm (by exact List.Perm.trans (List.Perm.swap _ _ _) (List.Perm.cons _ (List.Perm.swap _ _ _)))) good1.1 good1.2.1 (by intro o ho; simp at ho; rcases ho with rfl | rfl | rfl <;> decide) (by decide) (by decide)
  rw [aw2] at hR
  have HR := Lib.hid hR
  clear hR hS3 hS3b HN
  go_wp2_with fail
  refine HR.out.mono ?_
  rintro e w4 ⟨v4, rfl, hS4⟩
  obtain ⟨g4, c4, hv4, hc4, _⟩ := own_some hS4.own_ (by simp [rwI])
  have hv4' : v4 = .slice (some ⟨g4, 0, none⟩) 3 c4 := hv4
  clear hv4
  subst hv4'
  have hS4b := hS4.s3.drop
  have hR := cRun p [(sX, 5)] (some ⟨w4.heap.size, 0, none⟩) 2 [⟨2, sZ, 1, 0⟩, ⟨5, sX, -9, 0⟩] _ _ ((hS4b.litR 67 4 2 (rwO [⟨2, sZ, 1, 0⟩, ⟨5, sX, -9, 0⟩]) #[.int .i64 2, .string sZ, .int .i64 1, .int .i64 0, .int .i64 5, .string sX, .int .i64 (-9), .int .i64 0] rfl (by decide) rfl (fun r hr => by obtain ⟨x, _, rfl⟩ := List.mem_map.1 hr; rfl) rfl).s3.s3) good2.1 good2.2.1 (by intro o ho; simp at ho; rcases ho with rfl | rfl <;> decide) (by decide) (by decide)
  rw [aw3] at hR
  have HR2 := Lib.hid hR
  clear hR hS4 hS4b HR hc4
  go_wp2_with fail
  refine HR2.out.mono ?_
  rintro e w5 ⟨v5, rfl, hS5⟩
  have hS5b := hS5.drop
  obtain ⟨vp, hF, _⟩ := hS5b.ceF
  have HRo := Lib.hid (cRows p vp [(sX, 5)] w5 hF (by decide))
  have HS5 := Lib.hid hS5b
  clear hS5 hS5b hF HR2
  go_wp2_with fail
  refine HRo.out.mono ?_
  rintro e w6 ⟨v6, rfl, ho6, hb6⟩
  have hS6 := HS5.out.made hb6 ho6
  obtain ⟨g6, c6, hv6, hc6, _⟩ := own_some ho6 (by simp [rwR])
  have hv6' : v6 = .slice (some ⟨g6, 0, none⟩) 1 c6 := hv6
  clear hv6
  subst hv6'
  have e0 := (own_at hS6.own_ (i := 0) (r := enR (sX, 5)) rfl 0 rfl).1
  have e1 := (own_at hS6.own_ (i := 0) (r := enR (sX, 5)) rfl 1 rfl).1
  have f0 := (own_at hS6.s4.own_ (i := 0) (r := [.int .i64 5]) rfl 0 rfl).1
  have f1 := (own_at hS6.s4.own_ (i := 1) (r := [.int .i64 1]) rfl 0 rfl).1
  have HS6 := Lib.hid hS6
  simp only [Nat.zero_mul, Nat.zero_add, Nat.one_mul, Nat.add_zero] at e0 e1 f0 f1
  clear ho6 hb6 hS6 hc6 HRo
  have hRow : ∀ x, (World.cell? x ⟨g6, 0, none⟩ = some (.string sX) ∧ World.cell? x ⟨g6, 1, none⟩ = some (.int .i64 5) ∧ World.cell? x ⟨g4, 0, none⟩ = some (.int .i64 5) ∧ World.cell? x ⟨g4, 1, none⟩ = some (.int .i64 1) ∧ Below w6.heap.size w6 x) →
      Calls Tryz.prog 36 #[.string sX, .int .i64 5] x (fun e x' => e = .returned (.agg #[.string sX, .int .i64 5]) ∧ (World.cell? x' ⟨g6, 0, none⟩ = some (.string sX) ∧ World.cell? x' ⟨g6, 1, none⟩ = some (.int .i64 5) ∧ World.cell? x' ⟨g4, 0, none⟩ = some (.int .i64 5) ∧ World.cell? x' ⟨g4, 1, none⟩ = some (.int .i64 1) ∧ Below w6.heap.size w6 x')) := fun x ⟨h1, h2, h3, h4, h5⟩ =>
    (lrow sX 5 x).mono fun e x' ⟨he, hb⟩ => ⟨he, (hb.cell (World.block_lt_of_cell? x _ h1)).trans h1, (hb.cell (World.block_lt_of_cell? x _ h2)).trans h2, (hb.cell (World.block_lt_of_cell? x _ h3)).trans h3, (hb.cell (World.block_lt_of_cell? x _ h4)).trans h4, below_then h5 hb⟩
  have hd : World.cell? w6.drew ⟨g6, 0, none⟩ = some (.string sX) ∧ World.cell? w6.drew ⟨g6, 1, none⟩ = some (.int .i64 5) ∧ World.cell? w6.drew ⟨g4, 0, none⟩ = some (.int .i64 5) ∧ World.cell? w6.drew ⟨g4, 1, none⟩ = some (.int .i64 1) ∧ Below w6.heap.size w6 w6.drew := ⟨e0, e1, f0, f1, drew_below _ 1⟩
  have HRw := Lib.hid hRow
  have hst := str_same (rfl : sX = sX)
  clear hRow
  go_wp2_with fail
  go_region_held3 (fun x => x.cell? ⟨g6, 0, none⟩ = some (.string sX) ∧ x.cell? ⟨g6, 1, none⟩ = some (.int .i64 5) ∧ x.cell? ⟨g4, 0, none⟩ = some (.int .i64 5) ∧ x.cell? ⟨g4, 1, none⟩ = some (.int .i64 1) ∧ Below w6.heap.size w6 x) ((first | assumption | exact hd)) ((first | (go_at_call 36; refine (HRw.out _ (by assumption)).mono ?_; rintro e x7 ⟨rfl, hx7⟩)))
  have HB7 := Lib.hid hx7.2.2.2.2
  clear hx7 hd
  go_wp2
  exact ⟨rfl, ((HS6.out.below HB7.out).drop.drop.s2.drop.s1.drop)⟩
end Go.Proofs.YtigffdmpofcdgaaGreatDoor
end
