/- Package chain: Write. -/
import Derived.Test.YtaaijjgaeppmkaaDoorCd
set_option linter.unusedVariables false
set_option maxRecDepth 100000
namespace Go.Proofs.YtaaijjgaeppmkaaDoor
open Go.Proofs.BL Go.Proofs.Peel Go.RowKit Go.Proofs.Cn

/-- A whole row of five stored. -/
theorem Sat.setRow {g n c : Nat} {E : TypeId} {rows : List (List Value)} {l : List Part} {w : World} (h : Sat (ownR (.slice (some ⟨g, 0, none⟩) n c) E 5 rows :: l) w) {i : Nat} {r : List Value} (hi : rows[i]? = some r) (u0 u1 u2 u3 u4 : Value) (ht : isErrT E = false := by rfl) :
    Sat (ownR (.slice (some ⟨g, 0, none⟩) n c) E 5 (rows.set i [u0, u1, u2, u3, u4]) :: l) (((((w.setCell ⟨g, i * 5, none⟩ u0).setCell ⟨g, i * 5 + 1, none⟩ u1).setCell ⟨g, i * 5 + 2, none⟩ u2).setCell ⟨g, i * 5 + 3, none⟩ u3).setCell ⟨g, i * 5 + 4, none⟩ u4) := by
  have hil := (List.getElem?_eq_some_iff.1 hi).1
  have hr := h.own_.2 r (List.mem_of_getElem? hi)
  have e : ∀ s : List Value, (rows.set i s)[i]? = some s := fun s => List.getElem?_set_self hil
  have h1 := h.setOwn hi 0 (by decide) u0 ht
  have h2 := h1.setOwn (e _) 1 (by decide) u1 ht
  rw [List.set_set] at h2
  have h3 := h2.setOwn (e _) 2 (by decide) u2 ht
  rw [List.set_set] at h3
  have h4 := h3.setOwn (e _) 3 (by decide) u3 ht
  rw [List.set_set] at h4
  have h5 := h4.setOwn (e _) 4 (by decide) u4 ht
  rw [List.set_set] at h5
  have hs : ((((r.set 0 u0).set 1 u1).set 2 u2).set 3 u3).set 4 u4 = [u0, u1, u2, u3, u4] := by
    match r, hr with
    | [a, b, c, d, e], _ => rfl
  rw [hs] at h5
  exact h5

def WrPost (p : Nat) (l : List Part) (r : Vs × Int) (e : Ending) (w' : World) : Prop := e = .returned (.int .i64 r.2) ∧ Sat (chP p r.1 :: errP :: l) w'
/-- A version's row stands in a slice of one's own: its cells, none frozen. -/
theorem ChF.fz {w : World} {p g n c : Nat} {vs : Vs} (h : ChF w p (.slice (some ⟨g, 0, none⟩) n c) vs) {i : Nat} {x : Ver} (hi : vs[i]? = some x) :
    w.frozen? ⟨g, i * 5, none⟩ = false ∧ w.frozen? ⟨g, i * 5 + 1, none⟩ = false ∧ w.frozen? ⟨g, i * 5 + 2, none⟩ = false ∧ w.frozen? ⟨g, i * 5 + 3, none⟩ = false ∧ w.frozen? ⟨g, i * 5 + 4, none⟩ = false := by
  have hr : (rwV vs)[i]? = some (enV x) := by rw [List.getElem?_map, hi]; rfl
  exact ⟨(own_at h.2 hr 0 rfl).2, (own_at h.2 hr 1 rfl).2, (own_at h.2 hr 2 rfl).2, (own_at h.2 hr 3 rfl).2, (own_at h.2 hr 4 rfl).2⟩

set_option maxHeartbeats 4000000 in
theorem cWrite (p : Nat) (vs : Vs) (t n : Int) (th : Bool) (l : List Part) (w : World) (h : Sat (chP p vs :: errP :: l) w) (hs : Ok vs) (hl : vs.length ≤ 1000000) :
    Calls Tryd.prog 10 #[.pointer (some ⟨p, 0, none⟩), .int .i64 t, .int .i64 n, .bool th] w (WrPost p l (wrV vs t n th)) := by
  obtain ⟨v, hF, h2⟩ := h.chF
  have hfind := Lib.hid (cfindAny p v vs t w hF hs hl)
  have H := Lib.hid h
  have H2 := Lib.hid h2
  refine via fun Q hQ => ?_
  by_cases hc : findC vs t = []
  · obtain ⟨x, hb, hx, hat⟩ := find_some hc
    rw [hc] at hfind
    obtain ⟨g, cp, rfl, hcp1, hcp2⟩ := own_some hF.2 (by intro e; rw [List.map_eq_nil_iff] at e; subst e; simp at hx)
    rw [rwV_len] at hF H2 hcp1
    have HF := Lib.hid hF
    have HX := Lib.hid hx
    have hlt := (List.getElem?_eq_some_iff.1 hx).1
    have hwr : wrV vs t n th = if x.at_ = t ∧ x.open_ = true then (vs.set (fi vs t) (mk t n th true), 0) else if x.at_ = t ∨ x.read > t then (vs, 22) else (vs.take (fi vs t + 1) ++ mk t n th true :: vs.drop (fi vs t + 1), 0) := by
      rw [wrV, if_neg hb, hat]
    generalize wrV vs t n th = R at hwr hQ
    generalize fi vs t = k at hfind HX hwr hlt
    clear h h2 hF hs hc hb hx hat
    go_enter Tryd.func10, Tryd.ntmps10
    go_wp2_with fail
    refine hfind.out.mono ?_
    rintro e w1 ⟨v1, rfl, hc1, hb1⟩
    obtain rfl : v1 = .nilIface := hc1
    have hF1 := HF.out.below hb1
    have c0 := hF1.1.at_ 0 rfl
    obtain ⟨c1, c2, c3, c4, c5⟩ := hF1.ver HX.out
    obtain ⟨xa, xn, xt, xr, xo⟩ := x
    have hal : Below w1.heap.size w1 (w1.alloc (.cells #[.int .i64 xa, .int .i64 xn, .bool xt, .int .i64 xr, .bool xo] 39)) := (Below.refl _ _).alloc (Nat.le_refl _) _
    have HF2 := Lib.hid (hF1.below hal)
    have HS2 := Lib.hid ((H2.out.below hb1).below hal)
    have HS1 := Lib.hid ((H.out.below hb1).below hal)
    clear hb1 hF1 hfind hal
    by_cases hao : xa = t ∧ xo = true
    · have HR := Lib.hid (hwr.trans (if_pos hao))
      obtain ⟨rfl, rfl⟩ := hao
      clear hwr
      go_wp2_with fail
      generalize w1.alloc (.cells #[.int .i64 xa, .int .i64 xn, .bool xt, .int .i64 xr, .bool true] 39) = wa at HF2 HS2 HS1 ⊢
      clear c0 c1 c2 c3 c4 c5
      have HFd := Lib.hid (HF2.out.below (drew_below wa 1))
      have HSd := Lib.hid (HS2.out.below (drew_below wa 1))
      have c0 : wa.drew.cell? ⟨p, 0, none⟩ = some (.slice (some ⟨g, 0, none⟩) vs.length cp) := HFd.out.1.at_ 0 rfl
      clear HF2 HS2 HS1
      have hcv := cver xa n th true wa.drew
      have hmk : mk xa n th true = ⟨xa, if th then n else 0, th, 0, true⟩ := rfl
      generalize (if th then n else 0) = z at hmk
      rw [hmk] at hcv HR
      clear hmk
      have hV : Calls Tryd.prog 23 #[.int .i64 xa, .int .i64 n, .bool th, .bool true] wa.drew (fun e x' => e = .returned (.agg #[.int .i64 xa, .int .i64 z, .bool th, .int .i64 0, .bool true]) ∧ x'.cell? ⟨p, 0, none⟩ = some (.slice (some ⟨g, 0, none⟩) vs.length cp) ∧
          x'.cell? ⟨g, k * 5, none⟩ = some (.int .i64 xa) ∧ x'.cell? ⟨g, k * 5 + 1, none⟩ = some (.int .i64 xn) ∧ x'.cell? ⟨g, k * 5 + 2, none⟩ = some (.bool xt) ∧ x'.cell? ⟨g, k * 5 + 3, none⟩ = some (.int .i64 xr) ∧ x'.cell? ⟨g, k * 5 + 4, none⟩ = some (.bool true) ∧
          x'.frozen? ⟨g, k * 5, none⟩ = false ∧ x'.frozen? ⟨g, k * 5 + 1, none⟩ = false ∧ x'.frozen? ⟨g, k * 5 + 2, none⟩ = false ∧ x'.frozen? ⟨g, k * 5 + 3, none⟩ = false ∧ x'.frozen? ⟨g, k * 5 + 4, none⟩ = false ∧
          Hid (Sat (blk p #[.slice (some ⟨g, 0, none⟩) vs.length cp] 58 :: ownR (.slice (some ⟨g, 0, none⟩) vs.length cp) 39 5 (rwV vs) :: errP :: l) x')) := hcv.mono fun e x' ⟨h1, hb2⟩ => by
        have hF3 := HFd.out.below hb2
        obtain ⟨d1, d2, d3, d4, d5⟩ := hF3.ver HX.out
        obtain ⟨f1, f2, f3, f4, f5⟩ := hF3.fz HX.out
        exact ⟨h1, hF3.1.at_ 0 rfl, d1, d2, d3, d4, d5, f1, f2, f3, f4, f5, Lib.hid (HSd.out.below hb2)⟩
      have HV := Lib.hid hV
      clear hV hcv
      go_region_with (first | (go_at_call 23; refine HV.out.mono ?_; rintro e x2 ⟨rfl, c0', d1, d2, d3, d4, d5, f1, f2, f3, f4, f5, HS3⟩))
      all_goals
        have hxr : (rwV vs)[k]? = some (enV ⟨xa, xn, xt, xr, true⟩) := by rw [List.getElem?_map, HX.out]; rfl
        have hS4 := (HS3.out.s1.setRow hxr (.int .i64 xa) (.int .i64 z) (.bool th) (.int .i64 0) (.bool true)).s1.shutO
        rw [show (rwV vs).set k [.int .i64 xa, .int .i64 z, .bool th, .int .i64 0, .bool true] = rwV (vs.set k ⟨xa, z, th, 0, true⟩) from (rwV_set vs k ⟨xa, z, th, 0, true⟩).symm] at hS4
        have HS4 := Lib.hid hS4
        clear hS4 hxr
        go_wp2
        exact ⟨by rw [HR.out]; rfl, by rw [HR.out]; exact HS4.out⟩
    · rw [if_neg hao] at hwr
      by_cases hlate : xa = t ∨ xr > t
      · have HR := Lib.hid (hwr.trans (if_pos hlate))
        clear hwr
        by_cases ha : xa = t
        · subst ha
          cases xo with
          | true => exact absurd ⟨rfl, rfl⟩ hao
          | false =>
            clear hao hlate
            go_wp2_with fail
            exact ⟨by rw [HR.out]; rfl, by rw [HR.out]; exact HS1.out⟩
        · have hgt : xr > t := hlate.resolve_left ha
          have hae : (xa == t) = false := by simpa using ha
          clear hao hlate ha
          go_wp2_with fail
          exact ⟨by rw [HR.out]; rfl, by rw [HR.out]; exact HS1.out⟩
      · have HR := Lib.hid (hwr.trans (if_neg hlate))
        clear hwr
        have hn1 : (xa == t) = false := by simpa using fun e => hlate (.inl e)
        have hn2 : ¬ xr > t := fun e => hlate (.inr e)
        clear hlate hao
        go_wp2_with fail
        generalize w1.alloc (.cells #[.int .i64 xa, .int .i64 xn, .bool xt, .int .i64 xr, .bool xo] 39) = wa at HF2 HS2 HS1 ⊢
        clear c0 c1 c2 c3 c4 c5
        have HSd := Lib.hid (HS2.out.below (drew_below wa 1))
        have c0 : wa.drew.cell? ⟨p, 0, none⟩ = some (.slice (some ⟨g, 0, none⟩) vs.length cp) := HSd.out.blk_.at_ 0 rfl
        clear HF2 HS2 HS1
        have hcv := cver t n th true wa.drew
        have hmk : mk t n th true = ⟨t, if th then n else 0, th, 0, true⟩ := rfl
        generalize (if th then n else 0) = z at hmk
        rw [hmk] at hcv HR
        clear hmk
        have hV : Calls Tryd.prog 23 #[.int .i64 t, .int .i64 n, .bool th, .bool true] wa.drew (fun e x' => e = .returned (.agg #[.int .i64 t, .int .i64 z, .bool th, .int .i64 0, .bool true]) ∧ x'.cell? ⟨p, 0, none⟩ = some (.slice (some ⟨g, 0, none⟩) vs.length cp) ∧
            (x'.alloc (.cells #[.int .i64 t, .int .i64 z, .bool th, .int .i64 0, .bool true] 39)).cell? ⟨p, 0, none⟩ = some (.slice (some ⟨g, 0, none⟩) vs.length cp) ∧
            Hid (Sat (blk p #[.slice (some ⟨g, 0, none⟩) vs.length cp] 58 :: ownR (.slice (some ⟨g, 0, none⟩) vs.length cp) 39 5 (rwV vs) :: errP :: l) x')) := hcv.mono fun e x' ⟨h1, hb2⟩ => by
          have hS := HSd.out.below hb2
          exact ⟨h1, hS.blk_.at_ 0 rfl, (hS.blk_.alloc _).at_ 0 rfl, Lib.hid hS⟩
        have hI : ∀ x, Sat (blk p #[.slice (some ⟨g, 0, none⟩) vs.length cp] 58 :: ownR (.slice (some ⟨g, 0, none⟩) vs.length cp) 39 5 (rwV vs) :: errP :: l) x →
            Calls Tryd.prog 26 #[.slice (some ⟨g, 0, none⟩) vs.length cp, .int .i64 ((k : Int) + 1), .slice (some ⟨x.heap.size, 0, none⟩) 1 1] (x.alloc (.cells #[.int .i64 t, .int .i64 z, .bool th, .int .i64 0, .bool true] 39)) (fun e x' => ∃ g' n' c', e = .returned (.slice (some ⟨g', 0, none⟩) n' c') ∧
              x'.cell? ⟨p, 0, none⟩ = some (.slice (some ⟨g, 0, none⟩) vs.length cp) ∧ x'.frozen? ⟨p, 0, none⟩ = false ∧ Hid (Sat (blk p #[.slice (some ⟨g, 0, none⟩) vs.length cp] 58 :: ownR (.slice (some ⟨g', 0, none⟩) n' c') 39 5 (rwV (vs.take (k + 1) ++ ⟨t, z, th, 0, true⟩ :: vs.drop (k + 1))) :: errP :: l) x')) := fun x hS => by
          have hS2 := hS.below ((Below.refl x.heap.size x).alloc (Nat.le_refl _) (.cells #[.int .i64 t, .int .i64 z, .bool th, .int .i64 0, .bool true] 39))
          have hg := (hS.s1.own_.1.lt g rfl).2
          have := insV_own 0 (.slice (some ⟨g, 0, none⟩) vs.length cp) (rwV vs) (k + 1) x.heap.size [.int .i64 t, .int .i64 z, .bool th, .int .i64 0, .bool true] _ hS2.s1.own_ (Nat.zero_le _) (by rw [rwV_len]; omega) (rwV_one vs) (Blk.new x _ _) rfl (enV_one ⟨t, z, th, 0, true⟩) (by simp only [Value.ownBlock, ne_eq, Option.some.injEq]; omega) (by rw [rwV_len]; omega)
          refine this.mono ?_
          rintro e x' ⟨v', h1, h2, h3, h4⟩
          have hS3 := (hS2.s1.grown h2 h3 h4).s1
          have he : (rwV vs).take (k + 1) ++ [.int .i64 t, .int .i64 z, .bool th, .int .i64 0, .bool true] :: (rwV vs).drop (k + 1) = rwV (vs.take (k + 1) ++ ⟨t, z, th, 0, true⟩ :: vs.drop (k + 1)) := by
            rw [rwV, rwV, List.map_append, List.map_cons, List.map_take, List.map_drop]; rfl
          rw [he] at hS3
          obtain ⟨g', c', rfl, _, _⟩ := own_some hS3.s1.own_ (by simp)
          exact ⟨g', _, c', h1, hS3.blk_.at_ 0 rfl, hS3.blk_.free 0, Lib.hid hS3⟩
        have hw1 : IntKind.i64.wrap ((k : Int) + 1) = (k : Int) + 1 := by rw [IntKind.wrap_i64]; omega
        have HV := Lib.hid hV
        have HI := Lib.hid hI
        clear hV hcv hI
        go_region_with (first | (go_at_call 23; refine HV.out.mono ?_; rintro e x2 ⟨rfl, c0', c0a, HS3⟩) | (go_at_call 26; refine (HI.out _ HS3.out).mono ?_; rintro e x3 ⟨g3, n3, q3, rfl, c03, f03, HS5⟩))
        all_goals
          have hS6 := (HS5.out.set 0 (.slice (some ⟨g3, 0, none⟩) n3 q3)).shutO
          have HS6 := Lib.hid hS6
          clear hS6
          go_wp2
          exact ⟨by rw [HR.out]; rfl, by rw [HR.out]; exact HS6.out⟩
  · have hn := (find_none hc).2 n th
    rw [hn] at hQ
    have hE := Lib.hid (h.s1.err_)
    have HC := Lib.hid hc
    clear h h2 hF hs hc hn
    go_enter Tryd.func10, Tryd.ntmps10
    go_wp2_with fail
    refine hfind.out.mono ?_
    rintro e w1 ⟨v1, rfl, hc1, hb1⟩
    obtain ⟨ki, bi, rfl⟩ := chn_iface hc1 HC.out
    have HK := Lib.hid (fcode _ _ w1 (hE.out.below hb1) hc1)
    have HS1 := Lib.hid (H.out.below hb1)
    clear hb1 hc1 hfind
    go_wp2_with fail
    refine HK.out.mono ?_
    rintro e w2 ⟨rfl, hb2⟩
    have HS2 := Lib.hid (HS1.out.below hb2)
    clear hb2 HK
    go_wp2
    exact ⟨rfl, HS2.out⟩
end Go.Proofs.YtaaijjgaeppmkaaDoor
