/- Package fault, further: Limit, Trail, Depth, First. -/
import Derived.Test.YtoejeiaeladgjaaDoorFc
import Derived.Test.YtoejeiaeladgjaaDoorSl
import Derived.Deep.DeepMust
namespace Go.Proofs.YtoejeiaeladgjaaDoor
open Go.Proofs.BL Go.Proofs.Peel Go.RowKit
set_option maxRecDepth 100000
set_option linter.unusedVariables false

def limitOf (c : List Lk) : Int × Int × Bool := match upto .bnd c with | .bnd l g :: _ => (l, g, true) | _ => (0, 0, false)
def LimP (w : World) (x : Int × Int × Bool) (e : Ending) (w' : World) : Prop := e = .returned (.tuple #[.int .i64 x.1, .int .i64 x.2.1, .bool x.2.2]) ∧ Below w.heap.size w w'
theorem below_drewN {w a : World} (h : Below w.heap.size w a) (n : Nat) : Below w.heap.size w (a.drewN n) := ⟨h.os, h.tape, h.output, h.size, h.block⟩

set_option maxHeartbeats 400000 in
/-- fault.Limit. -/
theorem flimit (v : Value) (c : List Lk) (w : World) (hE : ErrT w) (hc : Chn w v c) : Calls Tryd.prog 24 #[v] w (LimP w (limitOf c)) := by
  have hb0 : Below w.heap.size w (w.alloc (.cells #[.pointer none] 92)) := (Below.refl _ _).alloc (Nat.le_refl _) _
  have HA := Lib.hid (eAs .bnd c v (.pointer none) w.heap.size _ (hE.below hb0) (hc.below hb0) (Blk.new w #[.pointer none] 92))
  clear hc hE hb0
  refine via fun Q hQ => ?_
  go_enter Tryd.func24, Tryd.ntmps24
  go_wp2_with fail
  refine HA.out.mono ?_
  rintro e w' hp
  by_cases hu : upto .bnd c = []
  · obtain ⟨rfl, _⟩ := hp.1 hu
    have HP := Lib.hid hp.own
    have HN := Lib.hid hu
    clear hp hu
    go_wp2
    go_ret3
    exact hQ _ _ ⟨by unfold limitOf; rw [HN.out]; rfl, HP.out⟩
  · obtain ⟨rfl, _, p, hB, hC⟩ := hp.2 hu
    obtain ⟨x, r, hn⟩ := List.exists_cons_of_ne_nil hu
    rw [hn] at hC
    have hk : x.kind = .bnd := (same_iff _ _).1 (upto_head hn)
    obtain ⟨b2, u2, e2, hX, _⟩ := hC
    obtain ⟨l, g, rfl⟩ := Lk.of_bnd hk
    injection e2 with _ e2
    injection e2 with e2
    injection e2 with e2
    injection e2 with e2
    subst e2
    have g0 : w'.cell? ⟨w.heap.size, 0, none⟩ = some (.pointer (some ⟨p, 0, none⟩)) := hB.at_ 0 rfl
    have g1 : w'.cell? ⟨p, 1, none⟩ = some (.int .i64 l) := hX.at_ 1 rfl
    have g2 : w'.cell? ⟨p, 2, none⟩ = some (.int .i64 g) := hX.at_ 2 rfl
    have HP := Lib.hid hp.own
    have HN := Lib.hid hn
    clear hp hB hX hu hn
    go_wp2
    go_quiet (fail)
    go_wp2
    go_ret3
    exact hQ _ _ ⟨by unfold limitOf; rw [HN.out]; rfl, below_drewN HP.out _⟩

/-- errors.Unwrap. -/
theorem eunwrap (v : Value) (x : Lk) (r : List Lk) (w : World) (hc : Chn w v (x :: r)) : Calls Tryd.prog 62 #[v] w (ErrNew w r) := by
  have HC := Lib.hid hc
  obtain ⟨b, u, rfl, hx, hr, hn⟩ := hc
  refine via fun Q hQ => ?_
  cases r with
  | nil =>
    have hk : x.kind = .num := hn.2 rfl
    obtain ⟨n, rfl⟩ := Lk.of_num hk
    have nN := noUnwrap
    simp only [Lk.kind] at *
    clear hx hr hn
    go_enter Tryd.func62, Tryd.ntmps62
    go_wp2
    exact ⟨_, rfl, rfl, Below.refl _ _⟩
  | cons y r =>
    have hk : x.kind ≠ .num := fun e => by have := hn.1 e; cases this
    have HR := Lib.hid hr
    obtain ⟨b', u', rfl, _⟩ := hr
    have gx : w.cell? ⟨b, 0, none⟩ = some (.iface y.kind.t1 (.pointer (some ⟨b', 0, none⟩))) := hx.at_ 0 (by cases x <;> first | rfl | exact absurd rfl hk)
    have hU := hasUnwrap x.kind hk
    have mU := mUnwrap x.kind hk b _ _ w gx
    clear hx hn
    go_enter Tryd.func62, Tryd.ntmps62
    go_wp2_with (go_at_call 97; refine (unwrap97 _ _ _).mono ?_; rintro e w2 ⟨rfl, hb2⟩)
    exact ⟨_, rfl, HR.out.below hb2, hb2⟩

set_option maxHeartbeats 400000 in
/-- fault.Depth. -/
theorem fdepth (v : Value) (c : List Lk) (w : World) (hc : Chn w v c) (hl : c.length ≤ 1000000) : Calls Tryd.prog 21 #[v] w (Ans w (.int .i64 c.length)) := by
  refine via fun Q hQ => ?_
  go_enter Tryd.func21, Tryd.ntmps21
  go_wp2
  go_loopg [0, 3] (c.length) (fun n s i wr => ∃ (c' : List Lk) (k : Nat), k + c'.length = c.length ∧ n = c'.length ∧ i = .int .i64 k ∧ Chn wr s c' ∧ Below w.heap.size w wr)
  case atStart => exact ⟨c, 0, by omega, rfl, rfl, hc, Below.refl _ _⟩
  case round =>
    obtain ⟨c', k, hk, rfl, rfl, hc', hb⟩ := hrel
    have HB := Lib.hid hb
    have HK := Lib.hid hk
    have hk2 : k + c'.length ≤ 1000000 := by omega
    clear hb hk hc
    cases c' with
    | nil =>
      obtain rfl : u0 = .nilIface := hc'
      go_wp2
      exact ⟨by have := HK.out; simp at this; rw [← this]; rfl, HB.out⟩
    | cons x r =>
      have HC := Lib.hid hc'
      simp only [List.length_cons] at hk2
      obtain ⟨b, u, rfl, _⟩ := hc'
      go_wp2_with fail
      refine (eunwrap _ x r _ HC.out).mono ?_
      rintro e w2 ⟨v2, rfl, hc2, hb2⟩
      have HC2 := Lib.hid hc2
      have HB2 := Lib.hid (below_then HB.out hb2)
      clear hc2 hb2
      go_wp2
      go_roundg r.length
      case measure => simp
      case rel => exact ⟨r, k + 1, by have := HK.out; simp at this; omega, rfl, by go_num, HC2.out, HB2.out⟩

def trailOf : List Lk → List ByteArray
  | [] => []
  | .in_ s :: r => s :: trailOf r
  | .num _ :: r => trailOf r
  | .at_ _ :: r => trailOf r
  | .bnd _ _ :: r => trailOf r
theorem trailOf_upto : ∀ c : List Lk, trailOf (upto .in_ c) = trailOf c
  | [] => rfl
  | .in_ s :: r => rfl
  | .num _ :: r => trailOf_upto r
  | .at_ _ :: r => trailOf_upto r
  | .bnd _ _ :: r => trailOf_upto r
theorem trailOf_len : ∀ c : List Lk, (trailOf c).length ≤ c.length
  | [] => Nat.le_refl _
  | .in_ s :: r => Nat.succ_le_succ (trailOf_len r)
  | .num _ :: r => Nat.le_succ_of_le (trailOf_len r)
  | .at_ _ :: r => Nat.le_succ_of_le (trailOf_len r)
  | .bnd _ _ :: r => Nat.le_succ_of_le (trailOf_len r)
theorem upto_len (k : FK) : ∀ c : List Lk, (upto k c).length ≤ c.length
  | [] => Nat.le_refl _
  | x :: r => by unfold upto; split; exact Nat.le_refl _; exact Nat.le_succ_of_le (upto_len k r)
def strRow1 (s : ByteArray) : List Value := [.string s]
def StrsOwn (w : World) (E : TypeId) (l : List ByteArray) (e : Ending) (w' : World) : Prop := ∃ u, e = .returned u ∧ Own w' w.heap.size E 1 u (l.map strRow1) ∧ Below w.heap.size w w'
set_option maxHeartbeats 1000000 in
/-- fault.Trail. -/
theorem ftrail (v : Value) (c : List Lk) (w : World) (hE : ErrT w) (hc : Chn w v c) (hl : c.length ≤ 1000000) : Calls Tryd.prog 27 #[v] w (StrsOwn w 9 (trailOf c)) := by
  refine via fun Q hQ => ?_
  go_enter Tryd.func27, Tryd.ntmps27
  go_wp2
  go_loopg [0, 3] (c.length) (fun n s o wr => ∃ (c' : List Lk) (d : List ByteArray) (q : Value), d ++ trailOf c' = trailOf c ∧ d.length ≤ 1000000 ∧ n = c'.length ∧ Chn wr s c' ∧ Own wr w.heap.size 9 1 o (d.map strRow1) ∧ Blk wr w.heap.size #[q] 96 ∧ Below w.heap.size w wr)
  case atStart =>
    have hb0 : Below w.heap.size w (w.alloc (.cells #[.pointer none] 96)) := (Below.refl _ _).alloc (Nat.le_refl _) _
    exact ⟨c, [], _, rfl, Nat.zero_le _, rfl, hc.below hb0, Own.nil _ _ _ _, Blk.new w #[.pointer none] 96, hb0⟩
  case round =>
    obtain ⟨c', d, q, ht, hd, rfl, hc', ho, hq, hb⟩ := hrel
    have hws := hb.size
    have hql := hq.lt
    have HA := Lib.hid (eAs .in_ c' _ q w.heap.size _ (hE.below hb) hc' hq)
    have HT := Lib.hid ht
    have HO := Lib.hid ho
    have HQ := Lib.hid hq
    have HB := Lib.hid hb
    clear hc' ho hq hb ht hE hc
    go_wp2_with fail
    refine HA.out.mono ?_
    rintro e w' hp
    by_cases hu : upto .in_ c' = []
    · obtain ⟨rfl, hb'⟩ := hp.1 hu
      have HP := Lib.hid (below_then HB.out hb')
      have HO' := Lib.hid (HO.out.below hb')
      have HN := Lib.hid hu
      clear hp hu hb'
      go_wp2
      refine ⟨_, rfl, ?_, HP.out⟩
      have e1 := trailOf_upto c'
      rw [HN.out] at e1
      have e2 := HT.out
      rw [← e1, show trailOf [] = [] from rfl, List.append_nil] at e2
      rw [← e2]
      exact HO'.out
    · obtain ⟨rfl, hf, p, hB, hC⟩ := hp.2 hu
      obtain ⟨x, r, hn⟩ := List.exists_cons_of_ne_nil hu
      rw [hn] at hC
      have hk : x.kind = .in_ := (same_iff _ _).1 (upto_head hn)
      obtain ⟨b2, u2, e2, hX, hR, _⟩ := hC
      obtain ⟨s, rfl⟩ := Lk.of_in hk
      injection e2 with _ e2
      injection e2 with e2
      injection e2 with e2
      injection e2 with e2
      subst e2
      have g0 : w'.cell? ⟨w.heap.size, 0, none⟩ = some (.pointer (some ⟨p, 0, none⟩)) := hB.at_ 0 rfl
      have g1 : w'.cell? ⟨p, 0, none⟩ = some u2 := hX.at_ 0 rfl
      have g2 : w'.cell? ⟨p, 1, none⟩ = some (.string s) := hX.at_ 1 rfl
      have hlen := upto_len .in_ c'
      rw [hn] at hlen
      simp only [List.length_cons] at hlen
      have hto := trailOf_upto c'
      rw [hn] at hto
      have HP := Lib.hid (below_step HB.out (Nat.le_refl _) hf)
      have HO' := Lib.hid (HO.out.fr hf (fun k hk e => HO.out.type_ne HQ.out (by decide) k hk e))
      have HQ' := Lib.hid hB
      have HR := Lib.hid hR
      have HN := Lib.hid hto
      have hws' := HP.out.size
      have hdl : d.length + 1 ≤ 1000000 := by
        have e3 := congrArg List.length HT.out
        have e4 := trailOf_len c
        rw [← hto] at e3
        simp [trailOf] at e3
        omega
      have HX := Lib.hid (show Blk w' p #[u2, .string s] 99 from hX)
      clear hp hu hn hB hX hf hto hR
      go_wp2_with (at_builtin; go_must (refine append1 w.heap.size 9 1 16 (.string ⟨#[]⟩) rfl (.tmp 8) (.tmp 13) 43 rfl Tryd.underlying43 (by kernel_rfl) rfl (by decide) (by decide) u3 (d.map strRow1) _ rfl _ rfl (by simp) rfl (by simp [Value.oneCell']) HO'.out hws' (by simp; omega) ?_); intro v1 w1 hown1 hfr1; have hq1 := HQ'.out.fr hfr1 (fun e => HO'.out.type_ne HQ'.out (by decide) _ e rfl); have hx1 := HX.out.fr hfr1 (fun e => HO'.out.type_ne HX.out (by decide) _ e rfl); have k0 : w1.cell? ⟨w.heap.size, 0, none⟩ = some (.pointer (some ⟨p, 0, none⟩)) := hq1.at_ 0 rfl; have k1 : w1.cell? ⟨p, 0, none⟩ = some u2 := hx1.at_ 0 rfl)
      go_roundg r.length
      case measure => omega
      case rel =>
        refine ⟨r, d ++ [s], _, ?_, by simp; omega, rfl, ?_, by simpa [strRow1] using hown1, hq1, HO'.out.fr_below HP.out hws' hfr1⟩
        · rw [← HT.out, ← HN.out]; simp [trailOf]
        · refine HR.out.fr hfr1 (fun k cs t f hk hh => ?_)
          cases ht : isErrT t with
          | false => rfl
          | true =>
            exfalso
            have := HO'.out.own_type k hk hh
            subst this
            exact absurd ht (by decide)
end Go.Proofs.YtoejeiaeladgjaaDoor
