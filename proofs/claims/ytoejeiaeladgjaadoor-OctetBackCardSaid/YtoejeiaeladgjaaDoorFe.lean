/- Package fault, further: First, Is; errors.Is. -/
import Derived.Test.YtoejeiaeladgjaaDoorFd
import Derived.Deep.RegionWith
import Derived.LaidEql
namespace Go.Proofs.YtoejeiaeladgjaaDoor
open Go.Proofs.BL Go.Proofs.Peel Go.RowKit Go.Extern.Stop Go.Stop Go.Extern
set_option maxRecDepth 100000
set_option linter.unusedVariables false

def firstOf : List (List Lk) → List Lk
  | [] => []
  | c :: r => if c = [] then firstOf r else c
/-- Values, each an error of its chain. -/
def Chns (w : World) : List Value → List (List Lk) → Prop
  | [], [] => True
  | v :: vs, c :: cs => Chn w v c ∧ Chns w vs cs
  | _, _ => False
theorem Chns.get {w : World} : ∀ {vs : List Value} {cs : List (List Lk)}, Chns w vs cs → ∀ {k : Nat} {v : Value}, vs[k]? = some v → ∃ c, cs[k]? = some c ∧ Chn w v c
  | [], [], _, _, _, h => by simp at h
  | v :: vs, c :: cs, ⟨h1, h2⟩, 0, u, h => by simp at h; subst h; exact ⟨c, rfl, h1⟩
  | v :: vs, c :: cs, ⟨h1, h2⟩, k + 1, u, h => by simp at h; simpa using h2.get h
theorem Chns.len {w : World} : ∀ {vs : List Value} {cs : List (List Lk)}, Chns w vs cs → cs.length = vs.length
  | [], [], _ => rfl
  | v :: vs, c :: cs, ⟨_, h2⟩ => by simp [h2.len]

set_option maxHeartbeats 400000 in
/-- fault.First. -/
theorem ffirst (A : Option Addr) (n cp : Nat) (vs : List Value) (cs : List (List Lk)) (w : World) (hn : vs.length = n) (hr : RowsAt w 1 A (vs.map fun v => [v])) (hc : Chns w vs cs) (hm : n ≤ 1000000) (hcp : n ≤ cp) :
    Calls Tryd.prog 23 #[.slice A n cp] w (ErrNew w (firstOf cs)) := by
  have hcl := hc.len
  refine via fun Q hQ => ?_
  go_enter Tryd.func23, Tryd.ntmps23
  go_wp2
  go_loopg [7] n (fun g i wr => ∃ k : Nat, k ≤ n ∧ g = n - k ∧ i = .int .i64 k ∧ firstOf (cs.drop k) = firstOf cs ∧ wr = w)
  case atStart => exact ⟨0, Nat.zero_le _, rfl, rfl, rfl, rfl⟩
  case round =>
    obtain ⟨k, hk, rfl, rfl, hf, rfl⟩ := hrel
    have HF := Lib.hid hf
    have HCL := Lib.hid hcl
    have HN := Lib.hid hn
    by_cases hlt : k < n
    · have hv : vs[k]? = some (vs[k]'(by omega)) := List.getElem?_eq_getElem _
      obtain ⟨c, hck, hcc⟩ := hc.get hv
      obtain ⟨b, o, rfl, hcell⟩ := hr k [vs[k]'(by omega)] (by simp [hv])
      have g0 := hcell 0 _ rfl
      generalize hve : vs[k]'(by omega) = v at g0 hcc hv
      rw [Nat.mul_one, Nat.add_zero] at g0
      have hd : cs.drop k = c :: cs.drop (k + 1) := by
        obtain ⟨h1, h2⟩ := List.getElem?_eq_some_iff.1 hck
        rw [List.drop_eq_getElem_cons h1, h2]
      have HD := Lib.hid hd
      have HC := Lib.hid hcc
      clear hf hcl hn hr hc hv hck hcell hve hd
      cases c with
      | nil =>
        obtain rfl : v = .nilIface := hcc
        go_wp2
        go_roundg (n - (k + 1))
        case measure => omega
        case rel => exact ⟨k + 1, by omega, rfl, by go_num, by rw [← HF.out, HD.out]; simp [firstOf], rfl⟩
      | cons x r =>
        obtain ⟨b2, u2, rfl, _⟩ := hcc
        go_wp2
        exact ⟨_, rfl, by rw [← HF.out, HD.out]; exact HC.out, Below.refl _ _⟩
    · clear hf hcl hn hr hc
      go_wp2
      exact ⟨_, rfl, by rw [← HF.out, List.drop_eq_nil_of_le (by rw [HCL.out, HN.out]; omega)]; rfl, Below.refl _ _⟩

theorem hasIs (v : Value) (xT : TypeId) (w : World) : (Instr.typeAssert (.iface (FK.num).t1 v) xT 132 true).run Tryd.prog w = .ok (.tuple #[.iface (FK.num).t1 v, .bool true]) w :=
  run_typeAssert_hasB Tryd.underlying132 (by kernel_rfl) v xT w
theorem noIs (k : FK) (hk : k ≠ .num) (v : Value) (xT : TypeId) (w : World) : (Instr.typeAssert (.iface k.t1 v) xT 132 true).run Tryd.prog w = .ok (.tuple #[.nilIface, .bool false]) w := by
  cases k <;> first | exact absurd rfl hk | exact run_typeAssert_lacksB Tryd.underlying132 (by kernel_rfl) (by kernel_rfl) v xT w
theorem mIs (b : Nat) (w : World) : (Go.method 271 (FK.num).t1 (.pointer (some ⟨b, 0, none⟩)) "Is").run Tryd.prog w = .ok (95, .pointer (some ⟨b, 0, none⟩)) w := by kernel_rfl
theorem mComp (w : World) : (Go.method 271 130 (hnd (FK.num).t1) "Comparable").run Tryd.prog w = .ok (105, hnd (FK.num).t1) w := by kernel_rfl
theorem callComp (w : World) : (callFunc 105 #[hnd (FK.num).t1]).run Tryd.prog w = .ok (.value (.bool true)) w := by kernel_rfl

theorem AsPost.own1 {k : FK} {a : Nat} {w w1 : World} {c : List Lk} {e : Ending} {w' : World} (h : AsPost k a w1 c e w') (hb : Below w.heap.size w w1) (ha : w.heap.size ≤ a) : Below w.heap.size w w' := by
  by_cases hu : upto k c = []
  · exact below_then hb (h.1 hu).2
  · exact below_step hb ha (h.2 hu).2.1
set_option maxHeartbeats 1000000 in
/-- (*fault.number).Is, of a number. -/
theorem numIs (b tb : Nat) (m n : Int) (w : World) (hE : ErrT w) (hb : Blk w b #[.int .i64 m] 83) (ht : Blk w tb #[.int .i64 n] 83) :
    Calls Tryd.prog 95 #[.pointer (some ⟨b, 0, none⟩), .iface 79 (.pointer (some ⟨tb, 0, none⟩))] w (Ans w (.bool (n == m))) := by
  have hb0 : Below w.heap.size w (w.alloc (.cells #[.pointer none] 79)).drew := ((Below.refl _ _).alloc (Nat.le_refl _) _).drew
  have HB0 := Lib.hid hb0
  have hct : Chn w (.iface 79 (.pointer (some ⟨tb, 0, none⟩))) [.num n] := ⟨tb, .nilIface, rfl, ht, rfl, by simp [Lk.kind]⟩
  have HA := Lib.hid (eAs .num [.num n] _ (.pointer none) w.heap.size _ (hE.below hb0) (hct.below hb0) (show Blk (w.alloc (.cells #[.pointer none] 79)).drew w.heap.size #[.pointer none] 79 from Blk.new w #[.pointer none] 79))
  have HB := Lib.hid hb
  have HT := Lib.hid ht
  clear hct ht hb hE hb0
  refine via fun Q hQ => ?_
  go_enter Tryd.func95, Tryd.ntmps95
  go_wp2
  go_region_with (first
    | (go_at_call 61; refine HA.out.mono ?_; rintro e w' hp; obtain ⟨rfl, hf, p, hB, b2, u2, e2, hX, _⟩ := hp.2 (by simp [upto, Lk.kind, FK.same]); injection e2 with _ e2; injection e2 with e2; injection e2 with e2; injection e2 with e2; subst e2;
       have g0 : w'.cell? ⟨w.heap.size, 0, none⟩ = some (.pointer (some ⟨p, 0, none⟩)) := hB.at_ 0 rfl; have g1 : w'.cell? ⟨p, 0, none⟩ = some (.int .i64 n) := hX.at_ 0 rfl; have g2 : w'.cell? ⟨b, 0, none⟩ = some (.int .i64 m) := (HB.out.below (hp.own1 HB0.out (Nat.le_refl _))).at_ 0 rfl; have HP := Lib.hid (hp.own1 HB0.out (Nat.le_refl _)); clear hp hf hB hX))
  all_goals (go_wp2; go_ret; exact hQ _ _ ⟨rfl, HP.out⟩)

theorem FK.t1_ne {k : FK} (h : k ≠ .num) : k.t1 ≠ (FK.num).t1 := by cases k <;> first | exact absurd rfl h | decide
theorem codeOf_cons {x : Lk} {r : List Lk} (h : x.kind ≠ .num) : codeOf (x :: r) = codeOf r := by
  have : x.kind.same .num = false := by
    cases e : x.kind.same .num
    · rfl
    · exact absurd ((same_iff _ _).1 e) h
  simp [codeOf, upto, this]

set_option maxHeartbeats 2000000 in
/-- errors.is, a number being the target. -/
theorem eis (c : List Lk) (v : Value) (tb : Nat) (n : Int) (w : World) (hE : ErrT w) (hc : Chn w v c) (hne : c ≠ []) (ht : Blk w tb #[.int .i64 n] 83) :
    Calls Tryd.prog 64 #[v, .iface (FK.num).t1 (.pointer (some ⟨tb, 0, none⟩)), .bool true] w (Ans w (.bool (n == codeOf c))) := by
  refine via fun Q hQ => ?_
  have heq := fun (j : FK) (hj : j.t1 ≠ (FK.num).t1) (b : Nat) (w : World) => run_eql_iface_types (P := Tryd.prog) j.t1 (FK.num).t1 (.pointer (some ⟨b, 0, none⟩)) (.pointer (some ⟨tb, 0, none⟩)) Tryd.underlying25 hj w
  have nU := noUnwraps
  have nN := noUnwrap
  have hI := hasIs
  have mI := mIs
  go_enter Tryd.func64, Tryd.ntmps64
  go_wp2
  go_loopg [0] (c.length) (fun g s wr => ∃ c', Chn wr s c' ∧ c' ≠ [] ∧ codeOf c' = codeOf c ∧ g = c'.length ∧ Below w.heap.size w wr)
  case atStart => exact ⟨c, hc, hne, rfl, rfl, Below.refl _ _⟩
  case round =>
    obtain ⟨c', hc', hne', hcd, rfl, hb⟩ := hrel
    have HE := Lib.hid (hE.below hb)
    have HT := Lib.hid (ht.below hb)
    have HB := Lib.hid hb
    have HD := Lib.hid hcd
    clear hE ht hb hcd hc hne
    cases c' with
    | nil => exact absurd rfl hne'
    | cons x r =>
      have HC := Lib.hid hc'
      obtain ⟨b, u, rfl, hx, hr, hn⟩ := hc'
      clear hne'
      cases r with
      | nil =>
        obtain ⟨m, rfl⟩ := Lk.of_num (hn.2 rfl)
        simp only [Lk.kind] at *
        have HX := Lib.hid hx
        clear hx hr hn heq
        obtain ⟨i, hi, hcmp⟩ := Option.map_eq_some_iff.1 (show (Tryd.prog.info? 79).map (·.comparable) = some true by kernel_rfl)
        obtain ⟨j, hj, hjs⟩ := Option.map_eq_some_iff.1 (show (Tryd.prog.info? 83).map (·.size) = some 1 by kernel_rfl)
        by_cases he : b = tb
        · have hmn : m = n := by
            subst he
            have := (HX.out.inj HT.out).1
            simpa [Lk.cells] using this
          subst he
          subst hmn
          have hs : (binOp .eql 25 (.iface (FK.num).t1 (.pointer (some ⟨b, 0, none⟩))) (.iface (FK.num).t1 (.pointer (some ⟨b, 0, none⟩)))).run Tryd.prog wr = .ok (.bool true) wr :=
            run_eql_iface_ptr_same (P := Tryd.prog) wr ⟨b, 0, none⟩ Tryd.underlying25 Tryd.underlying79 hi hcmp hj
          clear hi hj hcmp hjs
          go_wp2
          exact ⟨by rw [← HD.out, show codeOf [Lk.num m] = m from rfl, beq_self_eq_true]; rfl, HB.out⟩
        · have ho : (binOp .eql 25 (.iface (FK.num).t1 (.pointer (some ⟨b, 0, none⟩))) (.iface (FK.num).t1 (.pointer (some ⟨tb, 0, none⟩)))).run Tryd.prog wr = .ok (.bool false) wr :=
            run_eql_iface_ptr_other (P := Tryd.prog) wr Tryd.underlying25 Tryd.underlying79 hi hcmp hj (by rw [hjs]; decide) (fun e => he (congrArg Addr.block e)) HX.out HT.out
          clear hi hj hcmp hjs he
          go_wp2_with (go_at_call 95; refine (numIs b tb m n _ HE.out HX.out HT.out).mono ?_; rintro e w2 ⟨rfl, hb2⟩; have HB2 := Lib.hid (below_then HB.out hb2); clear hb2)
          all_goals
            refine ⟨?_, HB2.out⟩
            rw [← HD.out, show codeOf [Lk.num m] = m from rfl]
            first
              | (have hh : (n == m) = true := by assumption
                 rw [hh]; rfl)
              | (have hh : (n == m) = false := by assumption
                 rw [hh]; rfl)
      | cons y r =>
        have hk : x.kind ≠ .num := fun e => by have := hn.1 e; cases this
        have hkt := FK.t1_ne hk
        have HR := Lib.hid hr
        obtain ⟨b', u', rfl, _⟩ := hr
        have gx : wr.cell? ⟨b, 0, none⟩ = some (.iface y.kind.t1 (.pointer (some ⟨b', 0, none⟩))) := hx.at_ 0 (by cases x <;> first | rfl | exact absurd rfl hk)
        have hU := hasUnwrap x.kind hk
        have mU := mUnwrap x.kind hk b _ _ wr gx
        have hS := noIs x.kind hk
        have hq := heq x.kind hkt b
        clear hx hn heq
        go_wp2_with (go_at_call 97; refine (unwrap97 _ _ _).mono ?_; rintro e w2 ⟨rfl, hb2⟩)
        go_roundg (y :: r).length
        case measure => simp
        case rel => exact ⟨y :: r, HR.out.below hb2, List.cons_ne_nil _ _, by rw [← HD.out, codeOf_cons hk], rfl, below_then HB.out hb2⟩
theorem Ans.after {w w1 : World} {v : Value} {e : Ending} {w' : World} (h : Ans w1 v e w') (hb : Below w.heap.size w w1) : Ans w v e w' := ⟨h.1, below_then hb h.2⟩
set_option maxHeartbeats 1000000 in
/-- errors.Is, a number being the target. -/
theorem eIs (c : List Lk) (v : Value) (tb : Nat) (n : Int) (w : World) (hE : ErrT w) (hc : Chn w v c) (ht : Blk w tb #[.int .i64 n] 83) :
    Calls Tryd.prog 29 #[v, .iface (FK.num).t1 (.pointer (some ⟨tb, 0, none⟩))] w (Ans w (.bool (!c.isEmpty && n == codeOf c))) := by
  refine via fun Q hQ => ?_
  cases c with
  | nil =>
    obtain rfl : v = .nilIface := hc
    have hn := run_eql_iface_nil_left (P := Tryd.prog) w (FK.num).t1 (.pointer (some ⟨tb, 0, none⟩)) Tryd.underlying25
    go_enter Tryd.func29, Tryd.ntmps29
    go_wp2
    exact ⟨rfl, Below.refl _ _⟩
  | cons x r =>
    have H := Lib.hid (eis (x :: r) v tb n w hE hc (List.cons_ne_nil _ _) ht)
    obtain ⟨b, u, rfl, _⟩ := hc
    have h63 := call63
    have mC := mComp
    have cC := callComp
    clear ht hE
    go_enter Tryd.func29, Tryd.ntmps29
    go_wp2_with (go_at_call 64; refine H.out.mono ?_; rintro e w2 ⟨rfl, hb2⟩)
    exact ⟨by simp, hb2⟩

set_option maxHeartbeats 1000000 in
/-- fault.Is. -/
theorem fis (v : Value) (c : List Lk) (n : Int) (w : World) (hE : ErrT w) (hc : Chn w v c) :
    Calls Tryd.prog 31 #[v, .int .i64 n] w (Ans w (.bool (!c.isEmpty && n == codeOf c))) := by
  refine via fun Q hQ => ?_
  cases c with
  | nil =>
    obtain rfl : v = .nilIface := hc
    go_enter Tryd.func31, Tryd.ntmps31
    go_wp2
    exact ⟨rfl, (Below.refl _ _).alloc (Nat.le_refl _) _⟩
  | cons x r =>
    obtain ⟨m, hn⟩ := chn_num hc (List.cons_ne_nil _ _)
    have hb0 : Below w.heap.size w (w.alloc (.cells #[.pointer none] 79)) := (Below.refl _ _).alloc (Nat.le_refl _) _
    have HA := Lib.hid (eAs .num (x :: r) v (.pointer none) w.heap.size _ (hE.below hb0) (hc.below hb0) (Blk.new w #[.pointer none] 79))
    have HC := Lib.hid hc
    have HE := Lib.hid hE
    have HN := Lib.hid hn
    obtain ⟨b, u, rfl, _⟩ := hc
    clear hn hE hb0
    go_enter Tryd.func31, Tryd.ntmps31
    go_wp2_with fail
    refine HA.out.mono ?_
    rintro e w' hp
    obtain ⟨rfl, _⟩ := hp.2 (by rw [HN.out]; exact List.cons_ne_nil _ _)
    have HP := Lib.hid hp.own
    have hb1 : Below w.heap.size w (w'.alloc (.cells #[.int .i64 n] 83)) := HP.out.alloc HP.out.size _
    have HI := Lib.hid (eIs (x :: r) _ w'.heap.size n _ (HE.out.below hb1) (HC.out.below hb1) (Blk.new w' #[.int .i64 n] 83))
    have HB1 := Lib.hid hb1
    clear hp hb1
    go_wp2_with (go_at_call 29; refine HI.out.mono ?_; rintro e w2 ⟨rfl, hb2⟩)
    exact ⟨rfl, below_then HB1.out hb2⟩
end Go.Proofs.YtoejeiaeladgjaaDoor
