/- Package chain: New, Read, Write. -/
import Derived.Test.YtaaijjgaeppmkaaDoorCc
import Derived.Test.YtaaijjgaeppmkaaDoorIo
import Derived.Test.YtaaijjgaeppmkaaDoorIp
set_option linter.unusedVariables false
set_option maxRecDepth 100000
namespace Go.Proofs.YtaaijjgaeppmkaaDoor
open Go.Proofs.BL Go.Proofs.Peel Go.RowKit Go.Proofs.Cn

theorem flat_set {rows : List (List Value)} {sz : Nat} (hs : ∀ r, r ∈ rows → r.length = sz) : ∀ {i : Nat} {r : List Value}, rows[i]? = some r → ∀ (j : Nat) (u : Value), j < sz → rows.flatten.set (i * sz + j) u = (rows.set i (r.set j u)).flatten := by
  induction rows with
  | nil => intro i r h; simp at h
  | cons x xs ih =>
    intro i r h j u hj
    have hx : x.length = sz := hs x (by simp)
    cases i with
    | zero =>
      simp only [List.getElem?_cons_zero, Option.some.injEq] at h
      subst h
      rw [List.set_cons_zero, List.flatten_cons, List.flatten_cons, Nat.zero_mul, Nat.zero_add, List.set_append_left _ _ (by omega)]
    | succ i =>
      simp only [List.getElem?_cons_succ] at h
      rw [List.set_cons_succ, List.flatten_cons, List.flatten_cons, List.set_append_right _ _ (by rw [hx, Nat.succ_mul]; omega), hx, ← ih (fun r hr => hs r (by simp [hr])) h j u hj]
      rw [show (i + 1) * sz + j - sz = i * sz + j from by rw [Nat.succ_mul]; omega]
theorem own_set {w : World} {base : Nat} {E : TypeId} {sz g n c : Nat} {rows : List (List Value)} (h : Own w base E sz (.slice (some ⟨g, 0, none⟩) n c) rows) {i : Nat} {r : List Value} (hi : rows[i]? = some r) (j : Nat) (hj : j < sz) (u : Value) :
    Own (w.setCell ⟨g, i * sz + j, none⟩ u) base E sz (.slice (some ⟨g, 0, none⟩) n c) (rows.set i (r.set j u)) := by
  obtain ⟨_, _, e, _, _⟩ := h.slv
  injection e with _ e _
  subst e
  have hr := h.2 r (List.mem_of_getElem? hi)
  have := h.1.stored (i * sz + j) u
  rw [flat_set h.2 hi j u hj] at this
  refine ⟨by rw [List.length_set]; exact this.1, fun x hx => ?_⟩
  rcases List.mem_or_eq_of_mem_set hx with hx | rfl
  · exact h.2 x hx
  · rw [List.length_set]; exact hr
theorem Sat.setOwn {g n c : Nat} {E : TypeId} {sz : Nat} {rows : List (List Value)} {l : List Part} {w : World} (h : Sat (ownR (.slice (some ⟨g, 0, none⟩) n c) E sz rows :: l) w) {i : Nat} {r : List Value} (hi : rows[i]? = some r) (j : Nat) (hj : j < sz) (u : Value) (ht : isErrT E = false := by rfl) :
    Sat (ownR (.slice (some ⟨g, 0, none⟩) n c) E sz (rows.set i (r.set j u)) :: l) (w.setCell ⟨g, i * sz + j, none⟩ u) :=
  h.step fun G O ⟨a, ho⟩ hO hG => ⟨(Fr.refl _ _).setCell (.inr (ho g rfl)) u, fun k => k = g, fun G' _ => ⟨own_set a hi j hj u, fun k hk => by simpa [Value.ownBlock] using hk.symm⟩, fun k hk => by
    subst hk
    refine ⟨.inl (ho k rfl), by have := (a.1.lt k rfl).2; simpa [World.setCell] using this, ?_⟩
    exact not_imm_own (own_set a hi j hj u) ht k rfl⟩
theorem rwV_set (vs : Vs) (i : Nat) (x : Ver) : rwV (vs.set i x) = (rwV vs).set i (enV x) := by rw [rwV, List.map_set]

def fi (vs : Vs) (t : Int) : Nat := if bad t then 0 else cnt vs t - 1
theorem cfindAny (p : Nat) (v : Value) (vs : Vs) (t : Int) (w : World) (hF : ChF w p v vs) (hs : Ok vs) (hl : vs.length ≤ 1000000) :
    Calls Tryd.prog 24 #[.pointer (some ⟨p, 0, none⟩), .int .i64 t] w (FindPost w (fi vs t) (findC vs t)) := by
  by_cases hb : bad t
  · have := cfind_bad p t w hb
    have e : ((fi vs t : Nat) : Int) = 0 := by rw [fi, if_pos hb]; rfl
    rw [e, findC, if_pos hb]
    exact this
  · have := cfind p v vs t w hF hs hl hb
    have e : (if cnt vs t = 0 then (0 : Int) else (cnt vs t : Int) - 1) = ((fi vs t : Nat) : Int) := by
      rw [fi, if_neg hb]
      split <;> omega
    rw [e] at this
    exact this
theorem find_none {vs : Vs} {t : Int} (h : findC vs t ≠ []) : rdV vs t = (vs, 0, false, codeOf (findC vs t)) ∧ ∀ n th, wrV vs t n th = (vs, codeOf (findC vs t)) := by
  unfold findC at h ⊢
  unfold rdV wrV
  by_cases hb : bad t
  · simp only [if_pos hb]
    exact ⟨rfl, fun _ _ => rfl⟩
  · simp only [if_neg hb] at h ⊢
    by_cases h0 : cnt vs t = 0
    · simp only [if_pos h0, at_none h0]
      exact ⟨rfl, fun _ _ => rfl⟩
    · rw [if_neg h0] at h
      exact absurd rfl h
theorem find_some {vs : Vs} {t : Int} (h : findC vs t = []) : ∃ x, ¬ bad t ∧ vs[fi vs t]? = some x ∧ at? vs t = some (fi vs t, x) := by
  unfold findC at h
  by_cases hb : bad t
  · rw [if_pos hb] at h; cases h
  · rw [if_neg hb] at h
    by_cases h0 : cnt vs t = 0
    · rw [if_pos h0] at h; cases h
    · obtain ⟨x, h1, h2⟩ := at_some h0
      have e : fi vs t = cnt vs t - 1 := by rw [fi, if_neg hb]
      exact ⟨x, hb, by rw [e]; exact h1, by rw [e]; exact h2⟩
theorem chn_iface {w : World} {v : Value} {c : List Lk} (h : Chn w v c) (hn : c ≠ []) : ∃ k b, v = .iface k (.pointer (some ⟨b, 0, none⟩)) := by
  cases c with
  | nil => exact absurd rfl hn
  | cons x r => obtain ⟨b, u, e, _⟩ := h; exact ⟨_, b, e⟩

def RdPost (p : Nat) (l : List Part) (r : Vs × Int × Bool × Int) (e : Ending) (w' : World) : Prop := e = .returned (.tuple #[.int .i64 r.2.1, .bool r.2.2.1, .int .i64 r.2.2.2]) ∧ Sat (chP p r.1 :: errP :: l) w'

set_option maxHeartbeats 2000000 in
theorem cRead (p : Nat) (vs : Vs) (t : Int) (l : List Part) (w : World) (h : Sat (chP p vs :: errP :: l) w) (hs : Ok vs) (hl : vs.length ≤ 1000000) :
    Calls Tryd.prog 8 #[.pointer (some ⟨p, 0, none⟩), .int .i64 t] w (RdPost p l (rdV vs t)) := by
  obtain ⟨v, hF, h2⟩ := h.chF
  have hfind := Lib.hid (cfindAny p v vs t w hF hs hl)
  have H := Lib.hid h
  have H2 := Lib.hid h2
  refine via fun Q hQ => ?_
  by_cases hc : findC vs t = []
  · obtain ⟨x, hb, hx, hat⟩ := find_some hc
    rw [hc] at hfind
    obtain ⟨g, cp, rfl, hcp1, hcp2⟩ := own_some hF.2 (by intro e; rw [List.map_eq_nil_iff] at e; subst e; simp at hx)
    rw [rwV_len] at hF H2 hcp1
    have HF := Lib.hid hF
    have HX := Lib.hid hx
    have hlt := (List.getElem?_eq_some_iff.1 hx).1
    have hrd : rdV vs t = if x.at_ = t then (vs, x.n, x.there, 0) else if x.open_ = true then (vs, 0, false, 20) else (vs.set (fi vs t) { x with read := max x.read t }, x.n, x.there, 0) := by
      rw [rdV, if_neg hb, hat]
    generalize rdV vs t = R at hrd hQ
    generalize fi vs t = k at hfind HX hrd hlt
    clear h h2 hF hs hc hb hx hat
    go_enter Tryd.func8, Tryd.ntmps8
    go_wp2_with fail
    refine hfind.out.mono ?_
    rintro e w1 ⟨v1, rfl, hc1, hb1⟩
    obtain rfl : v1 = .nilIface := hc1
    have hF1 := HF.out.below hb1
    have c0 := hF1.1.at_ 0 rfl
    obtain ⟨c1, c2, c3, c4, c5⟩ := hF1.ver HX.out
    have hS2 := H2.out.below hb1
    have HS2 := Lib.hid hS2
    have HS1 := Lib.hid (H.out.below hb1)
    clear hb1 hF1 hS2 hfind
    obtain ⟨xa, xn, xt, xr, xo⟩ := x
    by_cases ha : xa = t
    · rw [if_pos ha] at hrd
      subst ha
      have HR := Lib.hid hrd
      clear hrd
      go_wp2_with fail
      go_quiet (fail)
      have HS3 := Lib.hid (HS1.out.drewN nq)
      go_wp2
      go_ret3
      exact hQ _ _ (by rw [HR.out]; exact ⟨rfl, HS3.out⟩)
    · rw [if_neg ha] at hrd
      have hae : (xa == t) = false := by simpa using ha
      cases xo with
      | true =>
        have HR := Lib.hid (hrd.trans (if_pos rfl))
        clear hrd ha
        go_wp2_with fail
        go_ret3
        exact hQ _ _ (by rw [HR.out]; exact ⟨rfl, HS1.out⟩)
      | false =>
        have HR := Lib.hid (hrd.trans (if_neg (fun h => by cases h)))
        have hxr : (rwV vs)[k]? = some (enV ⟨xa, xn, xt, xr, false⟩) := by rw [List.getElem?_map, HX.out]; rfl
        have f4 := (own_at HS2.out.s1.own_ hxr 3 rfl).2
        have hS3 := (HS2.out.s1.setOwn hxr 3 (by decide) (.int .i64 (max xr t))).s1.shutO
        rw [show (rwV vs).set k ((enV ⟨xa, xn, xt, xr, false⟩).set 3 (.int .i64 (max xr t))) = rwV (vs.set k ⟨xa, xn, xt, max xr t, false⟩) from (rwV_set vs k ⟨xa, xn, xt, max xr t, false⟩).symm] at hS3
        have HS3 := Lib.hid hS3
        have c2' : (w1.setCell ⟨g, k * 5 + 3, none⟩ (.int .i64 (max xr t))).cell? ⟨g, k * 5 + 1, none⟩ = some (.int .i64 xn) := by rw [World.cell?_setCell_other _ _ _ _ (by simp)]; exact c2
        have c3' : (w1.setCell ⟨g, k * 5 + 3, none⟩ (.int .i64 (max xr t))).cell? ⟨g, k * 5 + 2, none⟩ = some (.bool xt) := by rw [World.cell?_setCell_other _ _ _ _ (by simp)]; exact c3
        clear hrd ha hS3 hxr
        go_wp2_with fail
        generalize w1.setCell ⟨g, k * 5 + 3, none⟩ (.int .i64 (max xr t)) = w2 at HS3 c2' c3' ⊢
        go_quiet (fail)
        have HS4 := Lib.hid (HS3.out.drewN nq)
        go_wp2
        go_ret3
        exact hQ _ _ (by rw [HR.out]; exact ⟨rfl, HS4.out⟩)
  · have hn := (find_none hc).1
    rw [hn] at hQ
    have hE := Lib.hid (h.s1.err_)
    have HC := Lib.hid hc
    clear h h2 hF hs hc hn
    go_enter Tryd.func8, Tryd.ntmps8
    go_wp2_with fail
    refine hfind.out.mono ?_
    rintro e w1 ⟨v1, rfl, hc1, hb1⟩
    obtain ⟨ki, bi, rfl⟩ := chn_iface hc1 HC.out
    have HK := Lib.hid (fcode _ _ w1 (hE.out.below hb1) hc1)
    have HS1 := Lib.hid (H.out.below hb1)
    clear hb1 hc1 hfind
    go_wp2_with fail
    refine HK.out.mono ?_
    rintro e w2 ⟨rfl, hb2⟩
    have HS2 := Lib.hid (HS1.out.below hb2)
    clear hb2 HK
    go_wp2
    go_ret3
    exact hQ _ _ ⟨rfl, HS2.out⟩
end Go.Proofs.YtaaijjgaeppmkaaDoor
