/- Package chain: open, Commit, Abort. -/
import Derived.Test.YtaaijjgaeppmkaaDoorCf
set_option linter.unusedVariables false
set_option maxRecDepth 100000
namespace Go.Proofs.YtaaijjgaeppmkaaDoor
open Go.Proofs.BL Go.Proofs.Peel Go.RowKit Go.Proofs.Cn

/-- Where the first one stands of which p holds; -1: nowhere. -/
def idx (p : Ver → Bool) (l : Vs) : Int := match l.findIdx? p with | some i => i | none => -1
/-- A function value answers p. -/
def Gives (g : FuncId) (lb : Array Value) (p : Ver → Bool) (l : Vs) (w : World) : Prop :=
  ∀ W, Below w.heap.size w W → ∀ x ∈ l, Calls Tryd.prog g (#[.agg #[.int .i64 x.at_, .int .i64 x.n, .bool x.there, .int .i64 x.read, .bool x.open_]] ++ lb) W fun e W' => e = .returned (.bool (p x)) ∧ Below W.heap.size W W'
theorem idx_none {p : Ver → Bool} {l : Vs} (h : ∀ j (hj : j < l.length), p l[j] = false) : idx p l = -1 := by
  unfold idx
  rw [List.findIdx?_eq_none_iff.2 (fun x hx => by obtain ⟨j, hj, rfl⟩ := List.mem_iff_getElem.1 hx; exact h j hj)]
theorem idx_some {p : Ver → Bool} {l : Vs} {k : Nat} (hk : k < l.length) (h : ∀ j (hj : j < l.length), j < k → p l[j] = false) (ht : p l[k] = true) : idx p l = k := by
  unfold idx
  rw [List.findIdx?_eq_some_iff_getElem.2 ⟨hk, ht, fun j hj => by simpa using h j (by omega) hj⟩]
/-- Versions' cells, one by one. -/
theorem rows_ver {w : World} {A : Option Addr} {vs : Vs} (h : RowsAt w 5 A (rwV vs)) {j : Nat} (hj : j < vs.length) : ∃ b o, A = some ⟨b, o, none⟩ ∧ w.cell? ⟨b, o + j * 5, none⟩ = some (.int .i64 vs[j].at_) ∧ w.cell? ⟨b, o + j * 5 + 1, none⟩ = some (.int .i64 vs[j].n) ∧ w.cell? ⟨b, o + j * 5 + 2, none⟩ = some (.bool vs[j].there) ∧ w.cell? ⟨b, o + j * 5 + 3, none⟩ = some (.int .i64 vs[j].read) ∧ w.cell? ⟨b, o + j * 5 + 4, none⟩ = some (.bool vs[j].open_) := by
  obtain ⟨b, o, e, hc⟩ := h j (enV vs[j]) (by simp [rwV, hj])
  exact ⟨b, o, e, hc 0 _ rfl, hc 1 _ rfl, hc 2 _ rfl, hc 3 _ rfl, hc 4 _ rfl⟩

set_option maxHeartbeats 1000000 in
theorem indexFunc_calls (g : FuncId) (lb : Array Value) (eg : ∀ args w, (callFunc g args).run Tryd.prog w = .ok (.enter g args) w) (p : Ver → Bool) (l : Vs) (A : Option Addr) (c : Nat) (w : World) (hr : RowsAt w 5 A (rwV l)) (hc : l.length ≤ c) (hp : Gives g lb p l w) (hlen : l.length ≤ 2000000) :
    Calls Tryd.prog 44 #[.slice A l.length c, .func (.func g) #[] lb] w (Ans w (.int .i64 (idx p l))) := by
  refine via fun Q hQ => ?_
  have HR := Lib.hid hr
  have HP := Lib.hid hp
  clear hr hp
  go_enter Tryd.func44, Tryd.ntmps44
  go_wp2
  go_loopg [8] l.length (fun g i wr => ∃ j : Nat, j ≤ l.length ∧ g = l.length - j ∧ i = .int .i64 j ∧ (∀ k (hk : k < l.length), k < j → p l[k] = false) ∧ Below w.heap.size w wr)
  case atStart => exact ⟨0, Nat.zero_le _, rfl, rfl, fun k _ h => absurd h (Nat.not_lt_zero _), Below.refl _ _⟩
  case round =>
    obtain ⟨j, hj, rfl, rfl, hno, hb⟩ := hrel
    have HB := Lib.hid hb
    have HN := Lib.hid hno
    clear hb hno
    by_cases hlt : j < l.length
    · obtain ⟨b, o, rfl, c0, c1, c2, c3, c4⟩ := rows_ver (HR.out.below HB.out) hlt
      have hcall := HP.out wr HB.out l[j] (List.getElem_mem hlt)
      have HC := Lib.hid hcall
      clear hcall
      generalize hx : l[j] = x at c0 c1 c2 c3 c4 HC
      have HX := Lib.hid hx
      obtain ⟨xa, xn, xt, xr, xo⟩ := x
      clear hx
      go_wp2_with fail
      refine HC.out.mono ?_
      rintro e w2 ⟨rfl, hb2⟩
      have HB2 := Lib.hid (below_then HB.out hb2)
      clear hb2 HC
      cases hpx : p ⟨xa, xn, xt, xr, xo⟩ with
      | true =>
        have HI := Lib.hid (idx_some hlt (fun k hk h => HN.out k hk h) (by rw [HX.out]; exact hpx))
        clear hpx
        go_wp2
        exact ⟨by rw [HI.out]; rfl, HB2.out⟩
      | false =>
        have HPX := Lib.hid hpx
        clear hpx
        go_wp2
        go_roundg (l.length - (j + 1))
        case measure => omega
        case rel => exact ⟨j + 1, hlt, rfl, by go_num, fun k hk h => by
          rcases Nat.lt_or_ge k j with h1 | h1
          · exact HN.out k hk h1
          · obtain rfl : k = j := by omega
            rw [HX.out]; exact HPX.out, HB2.out⟩
    · obtain rfl : j = l.length := by omega
      have hi := idx_none (fun k hk => HN.out k hk hk)
      have HI := Lib.hid hi
      clear hi
      go_wp2
      exact ⟨by rw [HI.out]; rfl, HB.out⟩

set_option maxHeartbeats 1000000 in
theorem copen1 (xa xn xr t : Int) (xt xo : Bool) (b : Nat) (W : World) (hb : Blk W b #[.int .i64 t] 3) :
    Calls Tryd.prog 45 #[.agg #[.int .i64 xa, .int .i64 xn, .bool xt, .int .i64 xr, .bool xo], .pointer (some ⟨b, 0, none⟩)] W (Ans W (.bool (xo && (xa == t)))) := by
  have hal : Below W.heap.size W (W.alloc (.cells #[.int .i64 xa, .int .i64 xn, .bool xt, .int .i64 xr, .bool xo] 39)) := (Below.refl _ _).alloc (Nat.le_refl _) _
  have c0 := (hb.below hal).at_ 0 rfl
  have HA := Lib.hid hal
  clear hb hal
  refine via fun Q hQ => ?_
  cases xo
  · go_enter Tryd.func45, Tryd.ntmps45
    go_wp2_with fail
    exact ⟨rfl, HA.out⟩
  · by_cases h : xa = t
    · subst h
      rw [show (true && (xa == xa)) = true from by simp] at hQ
      go_enter Tryd.func45, Tryd.ntmps45
      go_wp2_with fail
      exact ⟨rfl, HA.out⟩
    · have h2 : (xa == t) = false := by simpa using h
      rw [h2] at hQ
      clear h
      go_enter Tryd.func45, Tryd.ntmps45
      go_wp2_with fail
      exact ⟨rfl, HA.out⟩

def opI (vs : Vs) (t : Int) : Int := match opn vs t with | some i => i | none => -1
theorem copen_nil (t : Int) (w : World) : Calls Tryd.prog 27 #[.pointer none, .int .i64 t] w (Ans w (.int .i64 (-1))) := by
  have hal : Below w.heap.size w (w.alloc (.cells #[.int .i64 t] 3)) := (Below.refl _ _).alloc (Nat.le_refl _) _
  have HA := Lib.hid hal
  clear hal
  refine via fun Q hQ => ?_
  go_enter Tryd.func27, Tryd.ntmps27
  go_wp2_with fail
  exact ⟨rfl, HA.out⟩
set_option maxHeartbeats 1000000 in
theorem copen (p : Nat) (v : Value) (vs : Vs) (t : Int) (w : World) (hF : ChF w p v vs) (hl : vs.length ≤ 1000000) : Calls Tryd.prog 27 #[.pointer (some ⟨p, 0, none⟩), .int .i64 t] w (Ans w (.int .i64 (opI vs t))) := by
  have hal : Below w.heap.size w (w.alloc (.cells #[.int .i64 t] 3)) := (Below.refl _ _).alloc (Nat.le_refl _) _
  have c0 := (hF.below hal).1.at_ 0 rfl
  obtain ⟨A, c, rfl, hc, _, hr⟩ := (hF.below hal).2.slv'
  rw [rwV_len] at hc c0
  have hbk := Blk.new w #[.int .i64 t] 3
  have hI := indexFunc_calls 45 #[.pointer (some ⟨w.heap.size, 0, none⟩)] (enters_of Tryd.func45 (by kernel_rfl) rfl) (isO t) vs A c _ hr hc
    (fun W hW x _ => copen1 x.at_ x.n x.read t x.there x.open_ w.heap.size W (hbk.below hW)) (by omega)
  have HI := Lib.hid hI
  have HA := Lib.hid hal
  clear hI hbk hr hF hal
  refine via fun Q hQ => ?_
  go_enter Tryd.func27, Tryd.ntmps27
  go_wp2_with fail
  refine HI.out.mono ?_
  rintro e w1 ⟨rfl, hb⟩
  have HB := Lib.hid (below_then HA.out hb)
  clear hb HI
  go_wp2
  exact ⟨rfl, HB.out⟩

def EndPost (p : Nat) (l : List Part) (r : Vs × Bool) (e : Ending) (w' : World) : Prop := e = .returned (.bool r.2) ∧ Sat (chP p r.1 :: l) w'
set_option maxHeartbeats 1000000 in
theorem cCommit (p : Nat) (vs : Vs) (t : Int) (l : List Part) (w : World) (h : Sat (chP p vs :: l) w) (hl : vs.length ≤ 1000000) : Calls Tryd.prog 12 #[.pointer (some ⟨p, 0, none⟩), .int .i64 t] w (EndPost p l (cmV vs t)) := by
  obtain ⟨v, hF, h2⟩ := h.chF
  have HO := Lib.hid (copen p v vs t w hF hl)
  have H := Lib.hid h
  have H2 := Lib.hid h2
  refine via fun Q hQ => ?_
  cases hop : opn vs t with
  | none =>
    have e1 : opI vs t = -1 := by rw [opI, hop]
    have e2 : cmV vs t = (vs, false) := by rw [cmV, hop]
    rw [e1] at HO
    rw [e2] at hQ
    clear e1 e2 hop hF h h2
    go_enter Tryd.func12, Tryd.ntmps12
    go_wp2_with fail
    refine HO.out.mono ?_
    rintro e w1 ⟨rfl, hb⟩
    have HS := Lib.hid (H.out.below hb)
    clear hb HO
    go_wp2
    exact ⟨rfl, HS.out⟩
  | some k =>
    have e1 : opI vs t = k := by rw [opI, hop]
    have e2 : cmV vs t = (vs.modify k shut, true) := by rw [cmV, hop]
    obtain ⟨hk, _⟩ := opn_some hop
    rw [modify_set shut hk] at e2
    rw [e1] at HO
    rw [e2] at hQ
    have hx : vs[k]? = some vs[k] := List.getElem?_eq_getElem hk
    generalize vs[k] = x at hx hQ
    obtain ⟨g, cp, rfl, hcp1, hcp2⟩ := own_some hF.2 (by intro e; rw [List.map_eq_nil_iff] at e; subst e; simp at hx)
    rw [rwV_len] at hF H2 hcp1
    have HF := Lib.hid hF
    have HX := Lib.hid hx
    clear e1 e2 hop hF h h2 hx
    go_enter Tryd.func12, Tryd.ntmps12
    go_wp2_with fail
    refine HO.out.mono ?_
    rintro e w1 ⟨rfl, hb⟩
    have hF1 := HF.out.below hb
    have c0 := hF1.1.at_ 0 rfl
    have c4 := (hF1.ver HX.out).2.2.2.2
    have f4 := (hF1.fz HX.out).2.2.2.2
    obtain ⟨xa, xn, xt, xr, xo⟩ := x
    have hxr : (rwV vs)[k]? = some (enV ⟨xa, xn, xt, xr, xo⟩) := by rw [List.getElem?_map, HX.out]; rfl
    have hS3 := ((H2.out.below hb).s1.setOwn hxr 4 (by decide) (.bool false)).s1.shutO
    rw [show (rwV vs).set k ((enV ⟨xa, xn, xt, xr, xo⟩).set 4 (.bool false)) = rwV (vs.set k (shut ⟨xa, xn, xt, xr, xo⟩)) from (rwV_set vs k (shut ⟨xa, xn, xt, xr, xo⟩)).symm] at hS3
    have HS3 := Lib.hid hS3
    clear hb HO hF1 hxr hS3
    go_wp2
    exact ⟨rfl, HS3.out⟩
set_option maxHeartbeats 1000000 in
theorem cAbort (p : Nat) (vs : Vs) (t : Int) (l : List Part) (w : World) (h : Sat (chP p vs :: l) w) (hl : vs.length ≤ 1000000) : Calls Tryd.prog 13 #[.pointer (some ⟨p, 0, none⟩), .int .i64 t] w (EndPost p l (abV vs t)) := by
  obtain ⟨v, hF, h2⟩ := h.chF
  have HO := Lib.hid (copen p v vs t w hF hl)
  have H := Lib.hid h
  have H2 := Lib.hid h2
  refine via fun Q hQ => ?_
  cases hop : opn vs t with
  | none =>
    have e1 : opI vs t = -1 := by rw [opI, hop]
    have e2 : abV vs t = (vs, false) := by rw [abV, hop]
    rw [e1] at HO
    rw [e2] at hQ
    clear e1 e2 hop hF h h2
    go_enter Tryd.func13, Tryd.ntmps13
    go_wp2_with fail
    refine HO.out.mono ?_
    rintro e w1 ⟨rfl, hb⟩
    have HS := Lib.hid (H.out.below hb)
    clear hb HO
    go_wp2
    exact ⟨rfl, HS.out⟩
  | some k =>
    have e1 : opI vs t = k := by rw [opI, hop]
    have e2 : abV vs t = (vs.eraseIdx k, true) := by rw [abV, hop]
    obtain ⟨hk, _⟩ := opn_some hop
    rw [e1] at HO
    rw [e2] at hQ
    obtain ⟨g, cp, rfl, hcp1, hcp2⟩ := own_some hF.2 (by intro e; rw [List.map_eq_nil_iff] at e; subst e; simp at hk)
    rw [rwV_len] at hF H2 hcp1
    have hw1 : IntKind.i64.wrap ((k : Int) + 1) = (k : Int) + 1 := by rw [IntKind.wrap_i64]; omega
    clear e1 e2 hop hF h h2
    go_enter Tryd.func13, Tryd.ntmps13
    go_wp2_with fail
    refine HO.out.mono ?_
    rintro e w1 ⟨rfl, hb⟩
    have hS1 := H2.out.below hb
    have c0 := hS1.blk_.at_ 0 rfl
    have hD := delV_own 0 _ (rwV vs) k w1 hS1.s1.own_ (by rw [rwV_len]; exact hk) (rwV_one vs)
    have HD := Lib.hid hD
    have HS1 := Lib.hid hS1
    clear hb HO hD hS1
    go_wp2_with fail
    refine HD.out.mono ?_
    rintro e w2 ⟨v2, rfl, ho2, hf2, hk2⟩
    have hS2 := (HS1.out.s1.grown ho2 hf2 (fun k h => .inl (hk2 ▸ h))).s1
    rw [show (rwV vs).eraseIdx k = rwV (vs.eraseIdx k) from by rw [List.eraseIdx_eq_take_drop_succ, List.eraseIdx_eq_take_drop_succ, rwV, rwV, List.map_append, List.map_take, List.map_drop]] at hS2
    have c02 := hS2.blk_.at_ 0 rfl
    have f02 := hS2.blk_.free 0
    obtain ⟨A2, q2, rfl, _, _, _⟩ := ho2.slv'
    have HS3 := Lib.hid (hS2.set 0 _).shutO
    clear hS2 ho2 hf2 hk2 HD
    go_wp2
    exact ⟨rfl, HS3.out⟩
theorem cEnd_nil (t : Int) (w : World) : Calls Tryd.prog 12 #[.pointer none, .int .i64 t] w (Ans w (.bool false)) ∧ Calls Tryd.prog 13 #[.pointer none, .int .i64 t] w (Ans w (.bool false)) := by
  constructor
  · refine via fun Q hQ => ?_
    go_enter Tryd.func12, Tryd.ntmps12
    go_wp2_with fail
    refine (copen_nil t w).mono ?_
    rintro e w1 ⟨rfl, hb⟩
    have HB := Lib.hid hb
    clear hb
    go_wp2
    exact ⟨rfl, HB.out⟩
  · refine via fun Q hQ => ?_
    go_enter Tryd.func13, Tryd.ntmps13
    go_wp2_with fail
    refine (copen_nil t w).mono ?_
    rintro e w1 ⟨rfl, hb⟩
    have HB := Lib.hid hb
    clear hb
    go_wp2
    exact ⟨rfl, HB.out⟩
end Go.Proofs.YtaaijjgaeppmkaaDoor
