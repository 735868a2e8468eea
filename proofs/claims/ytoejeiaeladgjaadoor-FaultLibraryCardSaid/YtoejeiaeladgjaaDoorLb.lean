/- Chapter 1: links made into faults, and the reference's chains, by their contracts. -/
import Derived.Test.YtoejeiaeladgjaaDoorLa
namespace Go.Proofs.YtoejeiaeladgjaaDoor
open Go.Proofs.BL Go.Proofs.Peel Go.RowKit
set_option maxRecDepth 100000

/-! ### plain words -/
def wrapL (x : Li) (c : List Lk) : List Lk :=
  if x.kind = 0 then (if x.e = 0 then [] else [.num x.e])
  else if c = [] then [] else (if x.kind = 1 then .at_ x.place else if x.kind = 2 then .in_ x.name else .bnd x.limit x.got) :: c
def mkL : List Li → List Lk
  | [] => []
  | x :: r => wrapL x (mkL r)
def chainL : List Li → List Li
  | [] => []
  | x :: r => if x.kind = 0 then (if x.e = 0 then [] else [x]) else (if chainL r = [] then [] else x :: chainL r)
def toLk (x : Li) : Lk := if x.kind = 0 then .num x.e else if x.kind = 1 then .at_ x.place else if x.kind = 2 then .in_ x.name else .bnd x.limit x.got
theorem mkL_chain : ∀ l : List Li, mkL l = (chainL l).map toLk
  | [] => rfl
  | x :: r => by
    have ih := mkL_chain r
    unfold mkL wrapL chainL
    by_cases h0 : x.kind = 0
    · by_cases h1 : x.e = 0 <;> simp [h0, h1, toLk]
    · rw [if_neg h0, if_neg h0]
      by_cases hc : chainL r = []
      · rw [if_pos hc, if_pos (by rw [ih, hc]; rfl)]; rfl
      · rw [if_neg hc, if_neg (by rw [ih]; simpa using hc), ih, List.map_cons]
        simp [toLk, h0]
/-- Ahead of the first number nothing is one. -/
theorem chainL_found : ∀ (l : List Li) (k : Nat) (hk : k < l.length), (∀ j (hj : j < k), (l[j]'(by omega)).kind ≠ 0) → (l[k]).kind = 0 → chainL l = if (l[k]).e = 0 then [] else l.take (k + 1)
  | [], _, h, _, _ => absurd h (by simp)
  | x :: r, 0, _, _, h0 => by
    simp only [List.getElem_cons_zero] at h0 ⊢
    unfold chainL
    rw [if_pos h0]
    simp
  | x :: r, k + 1, hk, hn, h0 => by
    simp only [List.length_cons] at hk
    have hx : x.kind ≠ 0 := hn 0 (by omega)
    simp only [List.getElem_cons_succ] at h0 ⊢
    have ih := chainL_found r k (by omega) (fun j hj => by have := hn (j + 1) (by omega); simpa using this) h0
    unfold chainL
    rw [if_neg hx, ih]
    by_cases he : (r[k]).e = 0
    · simp [he]
    · rw [if_neg he]
      rw [if_neg he, if_neg (by cases r <;> simp at hk ⊢)]
      simp
theorem chainL_none : ∀ (l : List Li), (∀ j (hj : j < l.length), (l[j]).kind ≠ 0) → chainL l = []
  | [], _ => rfl
  | x :: r, h => by
    have hx : x.kind ≠ 0 := h 0 (by simp)
    unfold chainL
    rw [if_neg hx, chainL_none r (fun j hj => by have := h (j + 1) (by simp; omega); simpa using this)]
    simp

theorem li_cells {w wr : World} {A : Option Addr} {l : List Li} {k : Nat} (h : RowsAt w 6 A (l.map Li.enc)) (hb : Below w.heap.size w wr) (hlt : k < l.length) :
    ∃ b o, A = some ⟨b, o, none⟩ ∧ wr.cell? ⟨b, o + k * 6, none⟩ = some (.int .i64 (l[k]).kind) ∧ wr.cell? ⟨b, o + k * 6 + 1, none⟩ = some (.int .i64 (l[k]).e) ∧ wr.cell? ⟨b, o + k * 6 + 2, none⟩ = some (.int .i64 (l[k]).place) ∧
      wr.cell? ⟨b, o + k * 6 + 3, none⟩ = some (.string (l[k]).name) ∧ wr.cell? ⟨b, o + k * 6 + 4, none⟩ = some (.int .i64 (l[k]).limit) ∧ wr.cell? ⟨b, o + k * 6 + 5, none⟩ = some (.int .i64 (l[k]).got) := by
  obtain ⟨b, o, e, hc⟩ := h k (l[k]).enc (by simp [hlt])
  have hcw : ∀ j u, (l[k]).enc[j]? = some u → wr.cell? ⟨b, o + k * 6 + j, none⟩ = some u := fun j u hj => (hb.cell (World.block_lt_of_cell? w _ (hc j u hj))).trans (hc j u hj)
  exact ⟨b, o, e, hcw 0 _ rfl, hcw 1 _ rfl, hcw 2 _ rfl, hcw 3 _ rfl, hcw 4 _ rfl, hcw 5 _ rfl⟩

theorem ErrNew.after {w w1 : World} {c : List Lk} {e : Ending} {w' : World} (h : ErrNew w1 c e w') (hb : Below w.heap.size w w1) : ErrNew w c e w' := by
  obtain ⟨v, he, hc, hb'⟩ := h
  exact ⟨v, he, hc, below_then hb hb'⟩

set_option maxHeartbeats 1000000 in
theorem lwrapped (x : Li) (v : Value) (c : List Lk) (w : World) (hc : Chn w v c) :
    Calls Tryd.prog 16 #[.agg x.enc.toArray, v] w (ErrNew w (wrapL x c)) := by
  have hb : Below w.heap.size w (w.alloc (.cells x.enc.toArray 29)) := (Below.refl _ _).alloc (Nat.le_refl _) _
  have HC := Lib.hid (hc.below hb)
  have HB := Lib.hid hb
  clear hc hb
  unfold Li.enc at HC HB ⊢
  refine via fun Q hQ => ?_
  by_cases h0 : x.kind = 0
  · have g0 : (x.kind == 0) = true := by simpa using h0
    have H0 := Lib.hid h0
    clear h0
    go_enter Tryd.func16, Tryd.ntmps16
    go_wp2_with fail
    refine (fnew _ _).mono ?_
    rintro e w' hp
    have HP := Lib.hid (hp.after HB.out)
    obtain ⟨u, rfl, _⟩ := hp
    go_wp2
    unfold wrapL
    rw [if_pos H0.out]
    exact HP.out
  · have g0 : (x.kind == 0) = false := by simpa using h0
    have H0 := Lib.hid h0
    clear h0
    by_cases h1 : x.kind = 1
    · have g1 : (x.kind == 1) = true := by simpa using h1
      have H1 := Lib.hid h1
      clear h1
      go_enter Tryd.func16, Tryd.ntmps16
      go_wp2_with fail
      refine (fat _ _ c _ HC.out).mono ?_
      rintro e w' hp
      have HP := Lib.hid (hp.after HB.out)
      obtain ⟨u, rfl, _⟩ := hp
      go_wp2
      unfold wrapL
      rw [if_neg H0.out]
      rw [if_pos H1.out]
      exact HP.out
    have g1 : (x.kind == 1) = false := by simpa using h1
    have H1 := Lib.hid h1
    clear h1
    by_cases h2 : x.kind = 2
    · have g2 : (x.kind == 2) = true := by simpa using h2
      have H2 := Lib.hid h2
      clear h2
      go_enter Tryd.func16, Tryd.ntmps16
      go_wp2_with fail
      refine (fin_ _ _ c _ HC.out).mono ?_
      rintro e w' hp
      have HP := Lib.hid (hp.after HB.out)
      obtain ⟨u, rfl, _⟩ := hp
      go_wp2
      unfold wrapL
      rw [if_neg H0.out]
      rw [if_neg H1.out]
      rw [if_pos H2.out]
      exact HP.out
    have g2 : (x.kind == 2) = false := by simpa using h2
    have H2 := Lib.hid h2
    clear h2
    go_enter Tryd.func16, Tryd.ntmps16
    go_wp2_with fail
    refine (fbound _ _ _ c _ HC.out).mono ?_
    rintro e w' hp
    have HP := Lib.hid (hp.after HB.out)
    obtain ⟨u, rfl, _⟩ := hp
    go_wp2
    unfold wrapL
    rw [if_neg H0.out]
    rw [if_neg H1.out, if_neg H2.out]
    exact HP.out

set_option maxHeartbeats 1000000 in
theorem lmade (l : List Li) (v : Value) (w : World) (hv : SlV w 6 v (l.map Li.enc)) (hm : l.length ≤ 9223372036854775807) :
    Calls Tryd.prog 14 #[v] w (ErrNew w (mkL l)) := by
  obtain ⟨A, c, rfl, hlc, hr⟩ := hv
  simp only [List.length_map] at hlc ⊢
  refine via fun Q hQ => ?_
  go_enter Tryd.func14, Tryd.ntmps14
  go_wp2
  go_loopg [3, 4] (l.length) (fun n e i wr => n ≤ l.length ∧ i = .int .i64 ((n : Int) - 1) ∧ Chn wr e (mkL (l.drop n)) ∧ Below w.heap.size w wr)
  case atStart => exact ⟨Nat.le_refl _, by first | rfl | (congr 1; omega), by rw [List.drop_length]; rfl, Below.refl _ _⟩
  case round =>
    obtain ⟨hk, rfl, hc, hb⟩ := hrel
    cases gk with
    | zero =>
      have HC := Lib.hid hc
      have HB := Lib.hid hb
      clear hc hb hr
      go_wp2
      exact ⟨_, rfl, HC.out, HB.out⟩
    | succ k =>
      have hlt : k < l.length := by omega
      rw [show ((k + 1 : Nat) : Int) - 1 = (k : Int) from by omega]
      obtain ⟨b, o, rfl, c0, c1, c2, c3, c4, c5⟩ := li_cells hr hb hlt
      have hdrop : mkL (l.drop k) = wrapL l[k] (mkL (l.drop (k + 1))) := by rw [List.drop_eq_getElem_cons hlt]; rfl
      generalize hxe : l[k] = x at c0 c1 c2 c3 c4 c5 hdrop
      have HD := Lib.hid hdrop
      have HC := Lib.hid hc
      have HB := Lib.hid hb
      clear hc hb hr hdrop hxe
      go_wp2_with fail
      refine (lwrapped x _ _ _ HC.out).mono ?_
      rintro e w' ⟨u, rfl, hc', hb'⟩
      have HC' := Lib.hid hc'
      have HB' := Lib.hid (below_then HB.out hb')
      clear hc' hb'
      go_wp2
      go_roundg k
      case measure => exact Nat.lt_succ_self _
      case rel => exact ⟨by omega, by go_num, by rw [HD.out]; exact HC'.out, HB'.out⟩
end Go.Proofs.YtoejeiaeladgjaaDoor
