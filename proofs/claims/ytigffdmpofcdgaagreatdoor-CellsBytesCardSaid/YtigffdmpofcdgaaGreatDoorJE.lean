/- Eval of both texts answers as evalV says. Plain, over the print. Package cells: do. The document's With of chapter 7, walked. The document's Get, Rows, Nums of chapter 7; the law's Cut. Package cells: Run. The document's New and Run of chapter 7. The document's Run of chapter 7. -/
import Derived.Test.YtigffdmpofcdgaaGreatDoorJG1
import Derived.Test.YtigffdmpofcdgaaGreatDoorJV
import Derived.Test.YtigffdmpofcdgaaGreatDoorJC
import Derived.Test.YtigffdmpofcdgaaGreatDoorJB
import Derived.Test.YtigffdmpofcdgaaGreatDoorJA
import Derived.WalkLawsBesides
import Derived.Sort.Walk0
section
set_option linter.unusedVariables false
set_option maxRecDepth 100000
namespace Go.Proofs.YtigffdmpofcdgaaGreatDoor
open Go.RowKit Go.Proofs.BL Go.Proofs.Ky Go.Proofs.YtigffdmpofcdgaaGreatDoor.Gv Go.Proofs.YtigffdmpofcdgaaGreatDoor.G Go.Proofs.YtigffdmpofcdgaaGreatDoorW.PrintWords Go.Proofs.YtigffdmpofcdgaaGreatDoorW.PrintLast Go.Proofs.YtigffdmpofcdgaaGreatDoorW.PrintMore
def plainB (k n lo : Int) : Bool := decide (((k = 1 ∨ k = 3) ∧ n = 0 ∧ lo = 0) ∨ ((k = 2 ∨ k = 4 ∨ k = 6) ∧ lo = 0) ∨ k = 5)
def keyB (s : ByteArray) : Bool := decide (s.size ≤ 16) && letB (BL.txt s)
def sysB (s : ByteArray) : Bool := decide (s.size ≤ 16) && (match BL.txt s with | c :: t => decide (c = 126) && letB t | [] => false)
def mayB (k : Int) (s : ByteArray) (n lo : Int) : Bool := plainB k n lo && (keyB s || sysB s)
theorem plain_some (k : Int) (s : ByteArray) (n lo : Int) (m : Nat) (hm : 2 ≤ m) : ops_plain.f m k s n lo = some (plainB k n lo) := by
  obtain ⟨m, rfl⟩ : ∃ q, m = q + 2 := ⟨m - 2, by omega⟩
  unfold ops_plain.f plainB
  by_cases h1 : k = 1
  · subst h1
    simp only [ops_plain.j0]
    by_cases hn : n = 0
    · subst hn; simp; by_cases hl : lo = 0 <;> simp [hl]
    · simp [hn]
  · by_cases h3 : k = 3
    · subst h3
      simp only [ops_plain.j0]
      by_cases hn : n = 0
      · subst hn; simp; by_cases hl : lo = 0 <;> simp [hl]
      · simp [hn]
    · by_cases h2 : k = 2
      · subst h2; simp [ops_plain.j0, ops_plain.j1]; by_cases hl : lo = 0 <;> simp [hl]
      · by_cases h4 : k = 4
        · subst h4; simp [ops_plain.j0, ops_plain.j1]; by_cases hl : lo = 0 <;> simp [hl]
        · by_cases h6 : k = 6
          · subst h6; simp [ops_plain.j0, ops_plain.j1]; by_cases hl : lo = 0 <;> simp [hl]
          · by_cases h5 : k = 5
            · subst h5; simp [ops_plain.j0, ops_plain.j1]
            · simp [ops_plain.j0, ops_plain.j1, h1, h2, h3, h4, h5, h6]
theorem key_some (s : ByteArray) : ops_Key.f s = some (keyB s) := by
  unfold ops_Key.f keyB ops_letters.f Gv.ops_letters
  by_cases h : s.size ≤ 16
  · rw [if_pos (by omega), if_pos (by omega)]; simp [h]
  · rw [if_neg (by omega)]; simp [h]
theorem txt_extract (s : ByteArray) (a b : Nat) : BL.txt (s.extract a b) = (BL.txt s).extract a b := by
  unfold BL.txt
  simp [ByteArray.data_extract]
theorem system_some (s : ByteArray) : ops_system.f s = some (sysB s) := by
  unfold ops_system.f sysB
  by_cases h : s.size ≤ 16
  · rw [if_pos (by omega)]
    have hl := BL.txt_len s
    unfold strings_HasPrefix.f stringslite_HasPrefix.f
    have h1 : (⟨#[126]⟩ : ByteArray).size = 1 := rfl
    rw [h1]
    cases ht : BL.txt s with
    | nil =>
      rw [ht] at hl
      have hz : s.size = 0 := hl.symm
      rw [if_neg (by omega)]
      simp
    | cons c t =>
      rw [ht] at hl
      have hz : 1 ≤ s.size := by simp at hl; omega
      rw [if_pos (by omega), if_pos (by omega), if_pos (by omega)]
      have he : (s.extract 0 ((1 : Nat) : Int).toNat).toList = [c] := by
        rw [ByteArray.toList_eq]
        show BL.txt (s.extract 0 ((1 : Nat) : Int).toNat) = [c]
        rw [txt_extract, ht]
        simp
      have he2 : (⟨#[126]⟩ : ByteArray).toList = [126] := by rw [ByteArray.toList_eq]
      simp only [Option.bind_some, he, he2]
      by_cases hc : c = 126
      · subst hc
        simp only [beq_self_eq_true, if_true]
        rw [if_pos (by omega)]
        have hx : BL.txt (s.extract 1 s.size) = t := by
          rw [txt_extract, ht, ← hl]
          simp
        unfold ops_letters.f Gv.ops_letters
        rw [if_pos (by simp; omega), hx]
        simp [h]
      · have : ([c] == [126]) = false := by simp [hc]
        rw [this]
        simp [hc]
  · rw [if_neg (by omega)]; simp [h]
theorem may_some (k : Int) (s : ByteArray) (n lo : Int) (m : Nat) (hm : 2 ≤ m) : ops_May.f m k s n lo = some (mayB k s n lo) := by
  unfold ops_May.f mayB
  rw [plain_some k s n lo m hm, key_some, system_some]
  cases plainB k n lo <;> cases keyB s <;> cases sysB s <;> rfl
theorem wrap_w (x : Int) : wrap64 x = w64 x := by unfold wrap64 w64; omega
theorem eval_some (k : Int) (s : ByteArray) (n lo old : Int) (th : Bool) (m : Nat) (hm : 2 ≤ m) (hn : in64 n) (ho : in64 old) : ops_Eval.f m k s n lo old th = some (evalV (mayB k s n lo) k n lo old th) := by
  unfold ops_Eval.f evalV
  rw [may_some k s n lo m hm]
  cases mayB k s n lo with
  | false => rfl
  | true =>
    obtain ⟨m, rfl⟩ : ∃ q, m = q + 1 := ⟨m - 1, by omega⟩
    simp only [Option.bind_some, if_true]
    have key : ∀ o, in64 o → ops_Eval.j0 (m + 1) o th k s n lo = some (if k = 1 then (o, th, o, 0) else if k = 2 then (n, true, n, 0) else if k = 3 then (0, false, o, 0) else if k = 6 then (w64 (o + n), true, w64 (o + n), 0) else if ¬ in64 (o + n) then (o, th, 0, 25) else if k = 5 ∧ o + n < lo then (o, th, 0, 24) else (o + n, true, o + n, 0)) := by
      intro o hoo
      simp only [ops_Eval.j0]
      by_cases h1 : k = 1
      · simp [h1]
      · by_cases h2 : k = 2
        · simp [h2]
        · by_cases h3 : k = 3
          · simp [h3]
          · by_cases h6 : k = 6
            · simp [h6, wrap_w]
            · simp only [h1, h2, h3, h6, if_false]
              unfold ops_grown.f ops_sum.f
              simp only [Option.bind_some, wrap_w]
              rw [sum_fits hoo hn]
              by_cases hf : in64 (o + n)
              · rw [w64_in hf]
                simp only [hf, decide_true, if_true, not_true, if_false]
                by_cases h5 : k = 5
                · by_cases hl : o + n < lo <;> simp [h5, hl]
                · simp [h5]
              · simp [hf]
    cases th with
    | true => simp only [if_true]; exact key old ho
    | false => simp only [Bool.false_eq_true, if_false]; exact key 0 (by unfold in64; omega)
theorem bt_txt {s : ByteArray} {i : Nat} {c : UInt8} (h : (BL.txt s)[i]? = some c) : bt s (i : Int) = (c.toNat : Int) := by
  have hl := BL.txt_len s
  have hi := (List.getElem?_eq_some_iff.1 h).1
  have e := (List.getElem?_eq_some_iff.1 h).2
  have := bt_at s (i : Int) (by simpa using (by omega : i < s.size))
  rw [← this, ← e]
  simp [BL.txt]
  rfl
theorem wrapu (a b : Int) : wrap64 (IntKind.u64.wrap (IntKind.u64.wrap a + IntKind.u64.wrap b)) = w64 (a + b) := by
  simp only [IntKind.wrap_u64]
  unfold wrap64 w64
  omega
end Go.Proofs.YtigffdmpofcdgaaGreatDoor
end

section
set_option linter.unusedVariables false
set_option maxRecDepth 100000
namespace Go.Proofs.YtigffdmpofcdgaaGreatDoor
open Go.Proofs.BL Go.Proofs.Peel Go.RowKit Go.Proofs.Ky

def evR (o : Opr) (g : Option Int) : Int × Bool × Int × Int := evalV (mayB o.kind o.key o.n o.lo) o.kind o.n o.lo (g.getD 0) g.isSome
/-- What an operation does with what its key holds. -/
def evO (o : Opr) (g : Option Int) : Except Int (Option Int × Int) :=
  if (evR o g).2.2.2 ≠ 0 then .error (evR o g).2.2.2 else .ok (if (evR o g).2.1 then some (evR o g).1 else none, (evR o g).2.2.1)
def doV (o : Opr) (l : List Rw) : List Rw × Int × List Lk :=
  match evO o (get o.key l) with
  | .error e => (l, 0, [.in_ o.key, .num e])
  | .ok (none, t) => (dropP tx o.key l, t, [])
  | .ok (some n, t) => ((setC o.key n l).1, t, (setC o.key n l).2)
def R64 (l : List Rw) : Prop := ∀ r ∈ l, in64 r.2
theorem get64 {l : List Rw} (h : R64 l) (k : ByteArray) : in64 ((get k l).getD 0) := by
  cases hg : get k l with
  | none => show in64 0; unfold in64; omega
  | some n => exact h _ (get_mem hg)
def DoPost (p : Nat) (ls : List Part) (r : List Rw × Int × List Lk) (e : Ending) (w' : World) : Prop := ∃ v, e = .returned (.tuple #[.int .i64 r.2.1, v]) ∧ Chn w' v r.2.2 ∧ Sat (ceP p r.1 :: ls) w'
set_option maxHeartbeats 4000000 in
theorem cDo (p : Nat) (l : List Rw) (o : Opr) (ls : List Part) (w : World) (h : Sat (ceP p l :: ls) w) (hfit : Fit tx l) (h64 : R64 l) (ho : in64 o.n) :
    Calls Tryz.prog 50 #[.pointer (some ⟨p, 0, none⟩), .agg #[.int .i64 o.kind, .string o.key, .int .i64 o.n, .int .i64 o.lo]] w (DoPost p ls (doV o l)) := by
  refine via fun Q hQ => ?_
  obtain ⟨kd, key, n, lo⟩ := o
  simp only at ho ⊢
  have hal : Below w.heap.size w (w.alloc (.cells #[.int .i64 kd, .string key, .int .i64 n, .int .i64 lo] 67)) := (Below.refl _ _).alloc (Nat.le_refl _) _
  have hb0 : Blk (w.alloc (.cells #[.int .i64 kd, .string key, .int .i64 n, .int .i64 lo] 67)) w.heap.size _ _ := Blk.new _ _ _
  have hS := h.below hal
  obtain ⟨v, hF, _⟩ := hS.ceF
  have HGet := Lib.hid (cGet p v l key _ hF hfit.1 (by have := hfit.2; omega))
  have hev := eval_some kd key n lo ((get key l).getD 0) (get key l).isSome 40 (by omega) ho (get64 h64 key)
  have hdo : doV ⟨kd, key, n, lo⟩ l = match evO ⟨kd, key, n, lo⟩ (get key l) with
    | .error e => (l, 0, [.in_ key, .num e])
    | .ok (none, t) => (dropP tx key l, t, [])
    | .ok (some n, t) => ((setC key n l).1, t, (setC key n l).2) := rfl
  have heo : evO ⟨kd, key, n, lo⟩ (get key l) = if (evR ⟨kd, key, n, lo⟩ (get key l)).2.2.2 ≠ 0 then .error (evR ⟨kd, key, n, lo⟩ (get key l)).2.2.2 else .ok (if (evR ⟨kd, key, n, lo⟩ (get key l)).2.1 then some (evR ⟨kd, key, n, lo⟩ (get key l)).1 else none, (evR ⟨kd, key, n, lo⟩ (get key l)).2.2.1) := rfl
  have hee : evalV (mayB kd key n lo) kd n lo ((get key l).getD 0) (get key l).isSome = evR ⟨kd, key, n, lo⟩ (get key l) := rfl
  rw [hee] at hev
  generalize evR ⟨kd, key, n, lo⟩ (get key l) = r at hev heo
  obtain ⟨r1, r2, r3, r4⟩ := r
  simp only at heo
  rw [heo] at hdo
  generalize get key l = g at HGet hev
  have HEv := Lib.hid hev
  have HDo := Lib.hid hdo
  have HFit := Lib.hid hfit
  have HS := Lib.hid hS
  have HB0 := Lib.hid hb0
  clear hev heo hee hdo hfit hS hb0 h h64 hF ho
  go_enter Tryz.func50, Tryz.ntmps50
  go_wp2_with fail
  refine HGet.out.mono ?_
  rintro e w1 ⟨rfl, hb1⟩
  have HB1 := Lib.hid (HB0.out.below hb1)
  have HS1 := Lib.hid (HS.out.below hb1)
  have d0 := HB1.out.at_ 0 rfl
  have d1 := HB1.out.at_ 1 rfl
  have d2 := HB1.out.at_ 2 rfl
  have d3 := HB1.out.at_ 3 rfl
  clear hb1 HGet
  go_wp2_with fail
  refine (G.ops_Eval.calls 40 kd key n lo (g.getD 0) g.isSome r1 r2 r3 r4 w1 HEv.out).mono ?_
  rintro e w2 ⟨rfl, hb2⟩
  have HB2 := Lib.hid (HB1.out.below hb2)
  have HS2 := Lib.hid (HS1.out.below hb2)
  clear hb2 d0 d1 d2 d3
  have d1 := HB2.out.at_ 1 rfl
  by_cases hr4 : r4 = 0
  · subst hr4
    have hd2 := HDo.out
    rw [if_neg (by simp)] at hd2
    cases r2 with
    | false =>
      simp only [Bool.false_eq_true, if_false] at hd2
      have HD2 := Lib.hid hd2
      have HDr := Lib.hid (cDrop p l key ls w2 HS2.out HFit.out.1 HFit.out.2)
      clear hd2
      go_wp2_with fail
      refine HDr.out.mono ?_
      rintro e w3 ⟨rfl, hS3⟩
      have HS3 := Lib.hid hS3
      clear hS3 HDr
      go_wp2
      exact ⟨.nilIface, by rw [HD2.out]; rfl, by rw [HD2.out]; rfl, by rw [HD2.out]; exact HS3.out⟩
    | true =>
      simp only [if_true] at hd2
      have HD2 := Lib.hid hd2
      have HSe := Lib.hid (cSet p l key r1 ls w2 HS2.out HFit.out.1 HFit.out.2)
      clear hd2
      go_wp2_with fail
      refine HSe.out.mono ?_
      rintro e w3 ⟨v3, rfl, hc3, hS3⟩
      have HS3 := Lib.hid hS3
      have HC3 := Lib.hid hc3
      clear hS3 hc3 HSe
      go_wp2
      exact ⟨v3, by rw [HD2.out]; rfl, by rw [HD2.out]; exact HC3.out, by rw [HD2.out]; exact HS3.out⟩
  · have hd2 := HDo.out
    rw [if_pos hr4] at hd2
    have HD2 := Lib.hid hd2
    clear hd2
    have hr4b : (r4 != 0) = true := bne_iff_ne.2 hr4
    have hNew : ∀ x, Keep w2 ⟨w.heap.size, 1, none⟩ (.string key) x ∧ World.cell? x ⟨w.heap.size, 1, none⟩ = some (.string key) → Calls Tryz.prog 54 #[.int .i64 r4] x (fun e x' => ∃ v, e = .returned v ∧ Chn x' v [.num r4] ∧ Keep w2 ⟨w.heap.size, 1, none⟩ (.string key) x' ∧ World.cell? x' ⟨w.heap.size, 1, none⟩ = some (.string key)) := fun x hx =>
      (fnew r4 x).mono fun e x' ⟨v, h1, h2, h3⟩ => ⟨v, h1, by rw [if_neg hr4] at h2; exact h2, hx.1.below h3, (hx.1.below h3).2⟩
    have hIn : ∀ x v, Keep w2 ⟨w.heap.size, 1, none⟩ (.string key) x ∧ World.cell? x ⟨w.heap.size, 1, none⟩ = some (.string key) → Chn x v [.num r4] → Calls Tryz.prog 61 #[.string key, v] x (fun e x' => ∃ v', e = .returned v' ∧ Chn x' v' [.in_ key, .num r4] ∧ Keep w2 ⟨w.heap.size, 1, none⟩ (.string key) x' ∧ World.cell? x' ⟨w.heap.size, 1, none⟩ = some (.string key)) := fun x v hx hv =>
      (fin_ key v _ x hv).mono fun e x' ⟨v', h1, h2, h3⟩ => ⟨v', h1, by simpa using h2, hx.1.below h3, (hx.1.below h3).2⟩
    have hd : Keep w2 ⟨w.heap.size, 1, none⟩ (.string key) w2.drew ∧ World.cell? w2.drew ⟨w.heap.size, 1, none⟩ = some (.string key) := ⟨(Keep.start d1).below (drew_below _ 1), d1⟩
    have HN := Lib.hid hNew
    have HI := Lib.hid hIn
    clear hNew hIn hr4
    go_wp2_with fail
    go_region_held3 (fun x => Keep w2 ⟨w.heap.size, 1, none⟩ (.string key) x ∧ x.cell? ⟨w.heap.size, 1, none⟩ = some (.string key)) ((first | assumption | exact hd)) ((first | (go_at_call 54; refine (HN.out _ (by assumption)).mono ?_; rintro e x1 ⟨v1, rfl, hc1, hx1⟩) | (go_at_call 61; refine (HI.out _ _ (by assumption) (by assumption)).mono ?_; rintro e x2 ⟨v2, rfl, hc2, hx2⟩)))
    have HC2 := Lib.hid hc2
    have HK2 := Lib.hid hx2.1.1
    clear hc2 hx2 hc1 hx1 hd
    go_wp2
    exact ⟨v2, by rw [HD2.out]; rfl, by rw [HD2.out]; exact HC2.out, by rw [HD2.out]; exact HS2.out.below HK2.out⟩
end Go.Proofs.YtigffdmpofcdgaaGreatDoor
end

section
set_option linter.unusedVariables false
set_option maxRecDepth 100000
namespace Go.Proofs.YtigffdmpofcdgaaGreatDoor
open Go.Proofs.BL Go.Proofs.Peel Go.RowKit Go.Proofs.Ky

theorem less_tx (a b : ByteArray) : Op.bytesLess a.toList b.toList = tx.lt a b := by
  rw [ByteArray.toList_eq, ByteArray.toList_eq]
  exact bytesLess_eq _ _
theorem _root_.Go.Proofs.BL.Own.lower {w : World} {base base' : Nat} {E : TypeId} {sz : Nat} {v : Value} {rows : List (List Value)} (h : Own w base E sz v rows) (hb : base' ≤ base) : Own w base' E sz v rows :=
  ⟨⟨h.1.1, h.1.2.elim .inl (fun ⟨g, cap, cur, hv, hg, r⟩ => .inr ⟨g, cap, cur, hv, Nat.le_trans hb hg, r⟩)⟩, h.2⟩
/-- What With holds while it runs: its change's box, what it made. -/
def WIn (w : World) (b : Nat) (bx : Array Value) (v : Value) (out : List Rw) (x : World) : Prop := Below w.heap.size w x ∧ Blk x b bx 40 ∧ Own x (b + 1) 61 2 v (rwR out) ∧ w.heap.size ≤ b ∧ b + 1 ≤ x.heap.size
theorem WIn.below {w x x' : World} {b : Nat} {bx : Array Value} {v : Value} {out : List Rw} (h : WIn w b bx v out x) (hb : Below x.heap.size x x') : WIn w b bx v out x' :=
  ⟨below_then h.1 hb, h.2.1.below hb, h.2.2.1.below hb, h.2.2.2.1, Nat.le_trans h.2.2.2.2 hb.size⟩
theorem WIn.app {w x x' : World} {b : Nat} {bx : Array Value} {v v' : Value} {out : List Rw} {r : Rw} (h : WIn w b bx v out x) (ho : Own x' (b + 1) 61 2 v' (rwR out ++ [enR r])) (hf : Fr (fun k => v.ownBlock = some k) x x') : WIn w b bx v' (out ++ [r]) x' :=
  ⟨((Fr.of_below (S := none_) h.1).trans hf (fun i hi e => by have := (h.2.2.1.1.lt i e).1; have := h.2.2.2.1; omega)).below,
    h.2.1.fr hf (fun e => by have := (h.2.2.1.1.lt b e).1; omega), by rw [rwR, List.map_append]; exact ho, h.2.2.2.1, Nat.le_trans h.2.2.2.2 hf.size⟩
theorem w_skip {key : ByteArray} (n : Int) {i : Bool} {r : Rw} {t : List Rw} (h : (!i && !(tx.lt r.1 key)) = false) (hs : r.1 = key) : withGo tx key n i (r :: t) = withGo tx key n i t := by
  show (if (!i && !(tx.lt r.1 key)) = true then _ else _) ++ (if r.1 = key then [] else [r]) ++ withGo tx key n (i || (!i && !(tx.lt r.1 key))) t = _
  rw [h, if_pos hs]; simp
theorem w_keep {key : ByteArray} (n : Int) {i : Bool} {r : Rw} {t : List Rw} (h : (!i && !(tx.lt r.1 key)) = false) (hs : ¬ r.1 = key) : withGo tx key n i (r :: t) = r :: withGo tx key n i t := by
  show (if (!i && !(tx.lt r.1 key)) = true then _ else _) ++ (if r.1 = key then [] else [r]) ++ withGo tx key n (i || (!i && !(tx.lt r.1 key))) t = _
  rw [h, if_neg hs]; simp
theorem w_put_skip {key : ByteArray} (n : Int) {r : Rw} {t : List Rw} (h : tx.lt r.1 key = false) (hs : r.1 = key) : withGo tx key n false (r :: t) = (key, n) :: withGo tx key n true t := by
  show (if (!false && !(tx.lt r.1 key)) = true then _ else _) ++ (if r.1 = key then [] else [r]) ++ withGo tx key n (false || (!false && !(tx.lt r.1 key))) t = _
  rw [h, if_pos hs]; simp
theorem w_put_keep {key : ByteArray} (n : Int) {r : Rw} {t : List Rw} (h : tx.lt r.1 key = false) (hs : ¬ r.1 = key) : withGo tx key n false (r :: t) = (key, n) :: r :: withGo tx key n true t := by
  show (if (!false && !(tx.lt r.1 key)) = true then _ else _) ++ (if r.1 = key then [] else [r]) ++ withGo tx key n (false || (!false && !(tx.lt r.1 key))) t = _
  rw [h, if_neg hs]; simp
def WithPost (out : List Rw) (w : World) (e : Ending) (w' : World) : Prop := ∃ v, e = .returned v ∧ Own w' w.heap.size 61 2 v (rwR out) ∧ Below w.heap.size w w'
def withX (key : ByteArray) (n : Int) (th : Bool) (l : List Rw) : List Rw := withGo tx key n (!th) l
theorem withX_eq (key : ByteArray) (n : Int) (th : Bool) (l : List Rw) : withX key n th l = withR tx key (if th then some n else none) l := by
  cases th
  · show withGo tx key n true l = withGo tx key 0 true l
    rw [go_in, go_in]
  · rfl

end Go.Proofs.YtigffdmpofcdgaaGreatDoor
end

section
set_option linter.unusedVariables false
set_option maxRecDepth 100000
namespace Go.Proofs.YtigffdmpofcdgaaGreatDoor
open Go.Proofs.BL Go.Proofs.Peel Go.RowKit Go.Proofs.Ky

theorem take_get {k : ByteArray} {l : List Rw} {j : Nat} {r : Rw} (hx : l[j]? = some r) (h : get k (l.take j) = none) : get k (l.take (j + 1)) = (if r.1 = k then some r.2 else none) ∧ (r.1 = k → get k l = some r.2) := by
  have hj := (List.getElem?_eq_some_iff.1 hx).1
  have e : l[j] = r := (List.getElem?_eq_some_iff.1 hx).2
  have h1 : get k (l.take (j + 1)) = if r.1 = k then some r.2 else none := by
    rw [List.take_succ_eq_append_getElem hj, get_app, h, e, get_cons]
    rfl
  refine ⟨h1, fun hk => ?_⟩
  rw [if_pos hk] at h1
  have := get_app k (l.take (j + 1)) (l.drop (j + 1))
  rw [List.take_append_drop, h1] at this
  exact this
def RGetPost (g : Option Int) (w : World) (e : Ending) (w' : World) : Prop := e = .returned (.tuple #[.int .i64 (g.getD 0), .bool g.isSome]) ∧ Below w.heap.size w w'
def YesPost (w : World) (e : Ending) (w' : World) : Prop := e = .returned (.bool true) ∧ Below w.heap.size w w'
def rwI (l : List Int) : List (List Value) := l.map (fun n => [.int .i64 n])
theorem rwI_len (l : List Int) : (rwI l).length = l.length := by simp [rwI]
theorem intAt {w : World} {A : Option Addr} {l : List Int} (h : RowsAt w 1 A (rwI l)) {i : Nat} {r : Int} (hi : l[i]? = some r) :
    ∃ b o, A = some ⟨b, o, none⟩ ∧ w.cell? ⟨b, o + i, none⟩ = some (.int .i64 r) := by
  obtain ⟨b, o, e, hc⟩ := h i [.int .i64 r] (by rw [rwI, List.getElem?_map, hi]; rfl)
  refine ⟨b, o, e, ?_⟩
  have := hc 0 _ rfl
  rwa [show o + i * 1 + 0 = o + i from by omega] at this
/-- The law's Cut of rows. -/
def cutRw (r : Rw) : Rw := (cut20 r.1, r.2)
def cutRs (l : List Rw) : List Rw := (l.take 30).map cutRw
def CutRPost (l : List Rw) (w : World) (e : Ending) (w' : World) : Prop := ∃ v, e = .returned v ∧ Own w' w.heap.size 61 2 v (rwR (cutRs l)) ∧ Below w.heap.size w w'
theorem cutRs_end {l : List Rw} {j : Nat} (hj : j ≤ 30) (h : j = l.length ∨ (j = 30)) : (l.take j).map cutRw = cutRs l := by
  unfold cutRs
  rcases h with rfl | rfl
  · rw [List.take_of_length_le (Nat.le_refl _), List.take_of_length_le hj]
  · rfl
theorem cutRs_next {l : List Rw} {j : Nat} {r : Rw} (h : l[j]? = some r) : rwR ((l.take (j + 1)).map cutRw) = rwR ((l.take j).map cutRw) ++ [enR (cutRw r)] := by
  have hj := (List.getElem?_eq_some_iff.1 h).1
  have e : l[j] = r := (List.getElem?_eq_some_iff.1 h).2
  rw [List.take_succ_eq_append_getElem hj, e]
  simp [rwR]
end Go.Proofs.YtigffdmpofcdgaaGreatDoor
end

section
set_option linter.unusedVariables false
set_option maxRecDepth 100000
namespace Go.Proofs.YtigffdmpofcdgaaGreatDoor
open Go.Proofs.BL Go.Proofs.Peel Go.RowKit Go.Proofs.Ky

/-- The program's Run: the rows behind, what is told, the place, the error. -/
def runA : Nat → List Rw → List Opr → Except (Nat × Int) (List Rw × List Int) := fun i l os => runP tx Opr.key evO i l os
def runV (l : List Rw) (os : List Opr) : List Rw × List Int × Int × Int :=
  match runA 0 l os with
  | .ok (m, ts) => (m, ts, 0, 0)
  | .error (i, e) => (l, [], (i : Int), e)
theorem do_ok {o : Opr} {l : List Rw} (h : (doV o l).2.2 = []) : ∀ (i : Nat) (os : List Opr), runA i l (o :: os) = (runA (i + 1) (doV o l).1 os).map (fun x => (x.1, (doV o l).2.1 :: x.2)) := by
  intro i os
  unfold doV at *
  unfold runA
  simp only [runP]
  cases hev : evO o (get o.key l) with
  | error e => rw [hev] at h; simp at h
  | ok vt =>
    obtain ⟨v, t⟩ := vt
    cases v with
    | none => rfl
    | some n =>
      rw [hev] at h
      simp only at h ⊢
      unfold setC at *
      cases hs : setP tx o.key n l with
      | none => rw [hs] at h; simp at h
      | some m => rfl
theorem do_bad {o : Opr} {l : List Rw} (h : (doV o l).2.2 ≠ []) : ∃ e : Int, e ≠ 0 ∧ codeOf (doV o l).2.2 = e ∧ ∀ (i : Nat) (os : List Opr), runA i l (o :: os) = .error (i, e) := by
  unfold doV at *
  unfold runA
  simp only [runP]
  cases hev : evO o (get o.key l) with
  | error e =>
    have he : e ≠ 0 := by
      unfold evO at hev
      split at hev
      · rename_i h1; injection hev with hev; rw [← hev]; exact h1
      · cases hev
    exact ⟨e, he, rfl, fun i os => rfl⟩
  | ok vt =>
    obtain ⟨v, t⟩ := vt
    cases v with
    | none => rw [hev] at h; exact absurd rfl h
    | some n =>
      rw [hev] at h
      simp only at h ⊢
      unfold setC at *
      cases hs : setP tx o.key n l with
      | none => exact ⟨5, by decide, rfl, fun i os => rfl⟩
      | some m => rw [hs] at h; exact absurd rfl h
theorem fit_do {o : Opr} {l : List Rw} (h : Fit tx l) : Fit tx (doV o l).1 := by
  unfold doV
  split
  · exact h
  · rw [drop_with tx h.1]
    exact ⟨up_with_none tx h.1, Nat.le_trans (len_with_none tx h.1) h.2⟩
  · rename_i n t _
    unfold setC
    rw [set_with tx h.1 h.2]
    split
    · rename_i m hm
      split at hm
      · cases hm
      · injection hm with hm
        subst hm
        exact ⟨up_with_some tx n h.1, by show (withR tx o.key (some n) l).length ≤ 256; omega⟩
    · exact h
theorem w64_in64 (a : Int) : in64 (w64 a) := by unfold w64 in64; omega
theorem ev_in (b : Bool) (k n lo old : Int) (th : Bool) (hn : in64 n) (ho : in64 old) : in64 (evalV b k n lo old th).1 := by
  have h0 : in64 0 := by unfold in64; omega
  unfold evalV
  split
  · have ho2 : in64 (if th then old else 0) := by split <;> assumption
    generalize (if th then old else 0) = o at ho2
    simp only []
    repeat' split
    all_goals first | assumption | exact w64_in64 _ | (rename_i h1 _; exact Classical.byContradiction h1)
  · exact h0
theorem r64_with {l : List Rw} (h : R64 l) (k : ByteArray) (v : Option Int) (hv : ∀ n, v = some n → in64 n) : R64 (withR tx k v l) := by
  have go : ∀ (l : List Rw) (n : Int) (i : Bool), R64 l → (i = false → in64 n) → R64 (withGo tx k n i l) := by
    intro l
    induction l with
    | nil =>
      intro n i _ hi r hr
      cases i with
      | true => cases hr
      | false =>
        have : r = (k, n) := by simpa [withGo] using hr
        rw [this]; exact hi rfl
    | cons x l ih =>
      intro n i hl hi r hr
      have hx := hl x List.mem_cons_self
      have hl2 : R64 l := fun r hr => hl r (List.mem_cons_of_mem _ hr)
      simp only [withGo] at hr
      rcases List.mem_append.1 hr with hr | hr
      · rcases List.mem_append.1 hr with hr | hr
        · split at hr
          · rename_i hc
            have : r = (k, n) := by simpa using hr
            rw [this]
            apply hi
            cases i
            · rfl
            · simp at hc
          · cases hr
        · split at hr
          · cases hr
          · have : r = x := by simpa using hr
            rw [this]; exact hx
      · refine ih n _ hl2 (fun e => hi ?_) r hr
        cases i
        · rfl
        · simp at e
  cases v with
  | some n => exact go l n false h (fun _ => hv n rfl)
  | none => exact go l 0 true h (fun e => by cases e)
theorem r64_do {o : Opr} {l : List Rw} (hf : Fit tx l) (h : R64 l) (ho : in64 o.n) : R64 (doV o l).1 := by
  unfold doV
  cases hev : evO o (get o.key l) with
  | error e => exact h
  | ok vt =>
    obtain ⟨v, t⟩ := vt
    cases v with
    | none =>
      simp only []
      rw [drop_with tx hf.1]
      exact r64_with h _ none (fun n hn => by cases hn)
    | some n =>
      have hn : in64 n := by
        unfold evO at hev
        split at hev
        · cases hev
        · injection hev with hev
          injection hev with hev _
          split at hev
          · injection hev with hev
            rw [← hev]
            exact ev_in _ _ _ _ _ _ ho (get64 h _)
          · cases hev
      simp only []
      unfold setC
      rw [set_with tx hf.1 hf.2]
      split
      · rename_i m hm
        split at hm
        · cases hm
        · injection hm with hm
          subst hm
          exact r64_with h _ (some n) (fun k hk => by injection hk with hk; rw [← hk]; exact hn)
      · exact h
theorem runA_ok_go {l : List Rw} {os : List Opr} {j : Nat} {o : Opr} {l1 : List Rw} {ts : List Int} (hx : os[j]? = some o)
    (h : ∀ r, runA j l1 (os.drop j) = r → runA 0 l os = r.map (fun x => (x.1, ts ++ x.2))) (hd : (doV o l1).2.2 = []) :
    ∀ r, runA (j + 1) (doV o l1).1 (os.drop (j + 1)) = r → runA 0 l os = r.map (fun x => (x.1, (ts ++ [(doV o l1).2.1]) ++ x.2)) := by
  intro r hr
  have hj := (List.getElem?_eq_some_iff.1 hx).1
  have e : os[j] = o := (List.getElem?_eq_some_iff.1 hx).2
  have hdr : os.drop j = o :: os.drop (j + 1) := by rw [List.drop_eq_getElem_cons hj, e]
  rw [h _ rfl, hdr, do_ok hd, hr]
  cases r with
  | error x => rfl
  | ok x => simp [Except.map]
theorem runA_end {l : List Rw} {os : List Opr} {l1 : List Rw} {ts : List Int} (h : ∀ r, runA os.length l1 (os.drop os.length) = r → runA 0 l os = r.map (fun x => (x.1, ts ++ x.2))) : runV l os = (l1, ts, 0, 0) := by
  have := h _ rfl
  rw [List.drop_length] at this
  unfold runV
  rw [this]
  simp [runA, runP, Except.map]
theorem runA_bad {l : List Rw} {os : List Opr} {j : Nat} {o : Opr} {l1 : List Rw} {ts : List Int} (hx : os[j]? = some o)
    (h : ∀ r, runA j l1 (os.drop j) = r → runA 0 l os = r.map (fun x => (x.1, ts ++ x.2))) (hd : (doV o l1).2.2 ≠ []) : runV l os = (l, [], (j : Int), codeOf (doV o l1).2.2) := by
  have hj := (List.getElem?_eq_some_iff.1 hx).1
  have e : os[j] = o := (List.getElem?_eq_some_iff.1 hx).2
  obtain ⟨c, hc, hcc, hr⟩ := do_bad hd
  have := h _ rfl
  rw [List.drop_eq_getElem_cons hj, e, hr] at this
  unfold runV
  rw [this, hcc]
  rfl
theorem place_at (p : Int) (c : List Lk) : placeOf (.at_ p :: c) = p := rfl
theorem code_at (p : Int) (c : List Lk) : codeOf (.at_ p :: c) = codeOf c := rfl

def RunPost (p : Nat) (ls : List Part) (r : List Rw × List Int × Int × Int) (e : Ending) (w' : World) : Prop := ∃ v, e = .returned (.tuple #[v, .int .i64 r.2.2.1, .int .i64 r.2.2.2]) ∧ Sat (ownR v 2 1 (rwI r.2.1) :: ceP p r.1 :: errP :: ls) w'
set_option maxHeartbeats 8000000 in
theorem cRun (p : Nat) (l : List Rw) (A : Option Addr) (c : Nat) (os : List Opr) (ls : List Part) (w : World) (h : Sat (ceP p l :: errP :: roR 4 A (rwO os) :: ls) w) (hfit : Fit tx l) (h64 : R64 l) (ho : ∀ o ∈ os, in64 o.n) (hl : os.length ≤ 1000000) (hc : os.length ≤ c) :
    Calls Tryz.prog 37 #[.pointer (some ⟨p, 0, none⟩), .slice A os.length c] w (RunPost p (roR 4 A (rwO os) :: ls) (runV l os)) := by
  refine via fun Q hQ => ?_
  have HCp := Lib.hid (cCopy p l _ w h (by have := hfit.2; omega))
  have HFit := Lib.hid hfit
  have H64 := Lib.hid h64
  have HOs := Lib.hid ho
  have HV : Hid (∀ r, runA 0 l (os.drop 0) = r → runA 0 l os = r.map (fun x => (x.1, ([] : List Int) ++ x.2))) := Lib.hid (fun r hr => by rw [← hr]; simp [Except.map]; cases runA 0 l os <;> rfl)
  clear h hfit h64 ho
  generalize hn : os.length = n at *
  have HNL := Lib.hid hn
  clear hn
  go_enter Tryz.func37, Tryz.ntmps37
  go_wp2_with fail
  refine HCp.out.mono ?_
  rintro e w1 ⟨q, rfl, hS1⟩
  have HS1 := Lib.hid (hS1.nilR 2 1)
  clear hS1 HCp
  go_wp2_with fail
  go_loopg [8, 19] n (fun g x8 x19 wr => ∃ (j : Nat) (l1 : List Rw) (ts : List Int), j ≤ n ∧ g = n - j ∧ x19 = .int .i64 j ∧ ts.length = j ∧ Hid (Fit tx l1) ∧ Hid (R64 l1) ∧ Hid (∀ r, runA j l1 (os.drop j) = r → runA 0 l os = r.map (fun x => (x.1, ts ++ x.2))) ∧ Hid (Sat (ownR x8 2 1 (rwI ts) :: ceP q l1 :: ceP p l :: errP :: roR 4 A (rwO os) :: ls) wr))
  case atStart => exact ⟨0, l, [], Nat.zero_le _, rfl, rfl, rfl, HFit, H64, HV, HS1⟩
  case round =>
    obtain ⟨j, l1, ts, hj, rfl, rfl, htl, HF1, H641, HV1, HSr⟩ := hrel
    have HTL := Lib.hid htl
    clear htl
    by_cases hlt : j < n
    · have hx : os[j]? = some (os[j]'(by rw [HNL.out]; exact hlt)) := List.getElem?_eq_getElem _
      generalize os[j]'(by rw [HNL.out]; exact hlt) = r at hx
      have ho1 := HOs.out r (List.mem_of_getElem? hx)
      obtain ⟨b, o, hA, c1, c2, c3, c4⟩ := opAt HSr.out.s4.rows_ hx
      subst hA
      have hfd := fit_do (o := r) HF1.out
      have h6d := r64_do (o := r) HF1.out H641.out ho1
      have hal : Below wr.heap.size wr (wr.alloc (.cells #[.int .i64 r.kind, .string r.key, .int .i64 r.n, .int .i64 r.lo] 67)) := (Below.refl _ _).alloc (Nat.le_refl _) _
      have HDo := Lib.hid (cDo q l1 r _ _ (HSr.out.s1.below hal) HF1.out H641.out ho1)
      have hbad := @runA_bad l os j r l1 ts hx HV1.out
      have hgood := @runA_ok_go l os j r l1 ts hx HV1.out
      generalize doV r l1 = dv at HDo hfd h6d hbad hgood
      obtain ⟨l2, t2, ch⟩ := dv
      simp only at hfd h6d hbad hgood
      have HFd := Lib.hid hfd
      have H6d := Lib.hid h6d
      clear hfd h6d hx hal ho1
      obtain ⟨rk, rkey, rn, rlo⟩ := r
      simp only at c1 c2 c3 c4 HDo
      by_cases hch : ch = []
      · subst hch
        have HG := Lib.hid (hgood rfl)
        clear hbad hgood
        go_wp2_with fail
        refine HDo.out.mono ?_
        rintro e w2 ⟨v2, rfl, hc2, hS2⟩
        obtain rfl : v2 = .nilIface := hc2
        have HS2 := Lib.hid hS2
        have HAt := Lib.hid (fat (j : Int) .nilIface [] w2 rfl)
        clear hS2 HDo c1 c2 c3 c4
        go_wp2_with fail
        refine HAt.out.mono ?_
        rintro e w3 ⟨v3, rfl, hc3, hb3⟩
        obtain rfl : v3 = .nilIface := hc3
        have HS3 := Lib.hid (HS2.out.below hb3).s1
        clear hb3 HAt
        go_wp2_with (at_builtin; (refine satApp (W := w3) 2 1 8 (.int .i64 0) rfl (.tmp 39) (.tmp 41) 63 rfl Tryz.underlying63 (by kernel_rfl) rfl (by decide) (by decide) _ (rwI ts) [.int .i64 t2] rfl _ rfl rfl rfl (by simp [Value.oneCell']) HS3.out rfl (by rw [rwI_len, HTL.out]; omega) ?_); intro v4 w4 hS4; have HS4 := Lib.hid hS4; clear hS4)
        go_roundg (n - (j + 1))
        case measure => omega
        case rel => exact ⟨j + 1, l2, ts ++ [t2], by omega, rfl, rfl, by rw [List.length_append, HTL.out]; rfl, HFd, H6d, HG, Lib.hid (by have := HS4.out; rwa [show rwI ts ++ [[.int .i64 t2]] = rwI (ts ++ [t2]) from by simp [rwI]] at this)⟩
      · have HB := Lib.hid (hbad hch)
        clear hbad hgood
        go_wp2_with fail
        refine HDo.out.mono ?_
        rintro e w2 ⟨v2, rfl, hc2, hS2⟩
        have HS2 := Lib.hid hS2
        have HAt := Lib.hid (fat (j : Int) v2 ch w2 hc2)
        rw [if_neg hch] at HAt
        clear hS2 hc2 HDo c1 c2 c3 c4 hch
        go_wp2_with fail
        refine HAt.out.mono ?_
        rintro e w3 ⟨v3, rfl, hc3, hb3⟩
        have HS3 := Lib.hid (HS2.out.below hb3)
        obtain ⟨ki, bi, rfl⟩ := chn_iface hc3 (by simp)
        have HPl := Lib.hid (fplace _ _ w3 HS3.out.s3.err_ hc3)
        have HC3 := Lib.hid hc3
        clear hb3 hc3 HAt
        go_wp2_with fail
        refine HPl.out.mono ?_
        rintro e w4 ⟨rfl, hb4⟩
        have HS4 := Lib.hid (HS3.out.below hb4)
        have HCo := Lib.hid (fcode _ _ w4 HS4.out.s3.err_ (HC3.out.below hb4))
        clear hb4 HPl
        go_wp2_with fail
        refine HCo.out.mono ?_
        rintro e w5 ⟨rfl, hb5⟩
        have HS5 := Lib.hid (HS4.out.below hb5)
        clear hb5 HCo
        go_wp2_with fail
        go_ret3
        exact hQ _ _ ⟨.slice none 0 0, by rw [HB.out, place_at, code_at]; rfl, by rw [HB.out]; exact (HS5.out.drop.drop.nilR _ _)⟩
    · obtain rfl : j = n := by omega
      have HE := Lib.hid (@runA_end l os l1 ts (by rw [HNL.out]; exact HV1.out))
      obtain ⟨vq, hq⟩ := HSr.out.s1.openO
      obtain ⟨Aq, cq, hvq, _, _, _⟩ := hq.s1.own_.slv'
      rw [rwR_len] at hvq
      subst hvq
      obtain ⟨vp, hp⟩ := hq.s3.openO
      have c1 := hq.blk_.at_ 0 rfl
      have c2 := hp.blk_.at_ 0 rfl
      have f2 := hp.blk_.free 0
      have HS2 := Lib.hid ((hp.set 0 (.slice Aq l1.length cq)).s1.drop.s1.drop.shutO (T := 88)).s1
      clear hq hp
      go_wp2_with fail
      go_ret3
      exact hQ _ _ ⟨_, by rw [HE.out]; rfl, by rw [HE.out]; exact HS2.out⟩
end Go.Proofs.YtigffdmpofcdgaaGreatDoor
end

section
set_option linter.unusedVariables false
set_option maxRecDepth 100000
namespace Go.Proofs.YtigffdmpofcdgaaGreatDoor
open Go.Proofs.BL Go.Proofs.Peel Go.RowKit Go.Proofs.Ky

theorem newR_next (rows : List Rw) (l : List Rw) {j : Nat} {r : Rw} (h : rows[j]? = some r) : newR tx okK (rows.take (j + 1)) l = if okK r.1 = true ∧ (withR tx r.1 (some r.2) (newR tx okK (rows.take j) l)).length ≤ 256 then withR tx r.1 (some r.2) (newR tx okK (rows.take j) l) else newR tx okK (rows.take j) l := by
  have hj := (List.getElem?_eq_some_iff.1 h).1
  have e : rows[j] = r := (List.getElem?_eq_some_iff.1 h).2
  unfold newR
  rw [List.take_succ_eq_append_getElem hj, List.foldl_append, e]
  rfl
theorem fit_newR (rows l : List Rw) (h : Fit tx l) : Fit tx (newR tx okK rows l) := (new_same tx okK rows l h).2
theorem fit_with_len {l : List Rw} (h : Fit tx l) (k : ByteArray) (v : Option Int) : (withR tx k v l).length ≤ 257 := by
  have := len_with tx (k := k) v h.1
  have := h.2
  omega
end Go.Proofs.YtigffdmpofcdgaaGreatDoor
end

section
set_option linter.unusedVariables false
set_option maxRecDepth 100000
namespace Go.Proofs.YtigffdmpofcdgaaGreatDoor
open Go.Proofs.BL Go.Proofs.Peel Go.RowKit Go.Proofs.Ky

def runB : Nat → List Rw → List Opr → Except (Nat × Int) (List Rw × List Int) := fun i l os => runR tx Opr.key evO i l os
theorem runB_A {l : List Rw} (h : Fit tx l) (os : List Opr) : runB 0 l os = runA 0 l os := (run_same tx Opr.key evO os 0 l h).symm
/-- One step of the document's. -/
def stB (o : Opr) (l : List Rw) : List Rw × Int × Int :=
  match evO o (get o.key l) with
  | .error e => (l, 0, e)
  | .ok (v, t) => if 256 < (withR tx o.key v l).length then (l, 0, 5) else (withR tx o.key v l, t, 0)
theorem stB_ok {o : Opr} {l : List Rw} (h : (stB o l).2.2 = 0) (i : Nat) (os : List Opr) : runB i l (o :: os) = (runB (i + 1) (stB o l).1 os).map (fun x => (x.1, (stB o l).2.1 :: x.2)) := by
  unfold stB at *
  unfold runB
  simp only [runR]
  cases hev : evO o (get o.key l) with
  | error e =>
    rw [hev] at h
    have he : e ≠ 0 := by
      unfold evO at hev
      split at hev
      · rename_i h1; injection hev with hev; rw [← hev]; exact h1
      · cases hev
    exact absurd h he
  | ok vt =>
    obtain ⟨v, t⟩ := vt
    rw [hev] at h
    simp only at h ⊢
    by_cases hn : 256 < (withR tx o.key v l).length
    · rw [if_pos hn] at h; exact absurd (show (5 : Int) = 0 from h) (by decide)
    · rw [if_neg hn, if_neg hn]
theorem stB_bad {o : Opr} {l : List Rw} (h : (stB o l).2.2 ≠ 0) (i : Nat) (os : List Opr) : runB i l (o :: os) = .error (i, (stB o l).2.2) := by
  unfold stB at *
  unfold runB
  simp only [runR]
  cases hev : evO o (get o.key l) with
  | error e => rfl
  | ok vt =>
    obtain ⟨v, t⟩ := vt
    rw [hev] at h
    simp only at h ⊢
    by_cases hn : 256 < (withR tx o.key v l).length
    · rw [if_pos hn, if_pos hn]
    · rw [if_neg hn] at h; exact absurd rfl h
theorem fit_stB {o : Opr} {l : List Rw} (h : Fit tx l) : Fit tx (stB o l).1 := by
  unfold stB
  split
  · exact h
  · rename_i v t _
    split
    · exact h
    · refine ⟨?_, by show (withR tx o.key v l).length ≤ 256; omega⟩
      cases v with
      | none => exact up_with_none tx h.1
      | some n => exact up_with_some tx n h.1
theorem r64_stB {o : Opr} {l : List Rw} (h : R64 l) (ho : in64 o.n) : R64 (stB o l).1 := by
  unfold stB
  cases hev : evO o (get o.key l) with
  | error e => exact h
  | ok vt =>
    obtain ⟨v, t⟩ := vt
    simp only []
    split
    · exact h
    · refine r64_with h _ v (fun n hn => ?_)
      subst hn
      unfold evO at hev
      split at hev
      · cases hev
      · injection hev with hev
        injection hev with hev _
        split at hev
        · injection hev with hev
          rw [← hev]
          exact ev_in _ _ _ _ _ _ ho (get64 h _)
        · cases hev
theorem runB_ok_go {l : List Rw} {os : List Opr} {j : Nat} {o : Opr} {l1 : List Rw} {ts : List Int} (hx : os[j]? = some o)
    (h : ∀ r, runB j l1 (os.drop j) = r → runB 0 l os = r.map (fun x => (x.1, ts ++ x.2))) (hd : (stB o l1).2.2 = 0) :
    ∀ r, runB (j + 1) (stB o l1).1 (os.drop (j + 1)) = r → runB 0 l os = r.map (fun x => (x.1, (ts ++ [(stB o l1).2.1]) ++ x.2)) := by
  intro r hr
  have hj := (List.getElem?_eq_some_iff.1 hx).1
  have e : os[j] = o := (List.getElem?_eq_some_iff.1 hx).2
  have hdr : os.drop j = o :: os.drop (j + 1) := by rw [List.drop_eq_getElem_cons hj, e]
  rw [h _ rfl, hdr, stB_ok hd, hr]
  cases r with
  | error x => rfl
  | ok x => simp [Except.map]
def runW (l : List Rw) (os : List Opr) : List Rw × List Int × Int × Int :=
  match runB 0 l os with
  | .ok (m, ts) => (m, ts, 0, 0)
  | .error (i, e) => (l, [], (i : Int), e)
theorem runW_V {l : List Rw} (h : Fit tx l) (os : List Opr) : runW l os = runV l os := by unfold runW runV; rw [runB_A h]; try rfl
theorem runB_end {l : List Rw} {os : List Opr} {l1 : List Rw} {ts : List Int} (h : ∀ r, runB os.length l1 (os.drop os.length) = r → runB 0 l os = r.map (fun x => (x.1, ts ++ x.2))) : runW l os = (l1, ts, 0, 0) := by
  have := h _ rfl
  rw [List.drop_length] at this
  unfold runW
  rw [this]
  simp [runB, runR, Except.map]
theorem runB_bad {l : List Rw} {os : List Opr} {j : Nat} {o : Opr} {l1 : List Rw} {ts : List Int} (hx : os[j]? = some o)
    (h : ∀ r, runB j l1 (os.drop j) = r → runB 0 l os = r.map (fun x => (x.1, ts ++ x.2))) (hd : (stB o l1).2.2 ≠ 0) : runW l os = (l, [], (j : Int), (stB o l1).2.2) := by
  have hj := (List.getElem?_eq_some_iff.1 hx).1
  have e : os[j] = o := (List.getElem?_eq_some_iff.1 hx).2
  have := h _ rfl
  rw [List.drop_eq_getElem_cons hj, e, stB_bad hd] at this
  unfold runW
  rw [this]
  rfl
theorem stB_ev {o : Opr} {l : List Rw} : stB o l = if (evR o (get o.key l)).2.2.2 ≠ 0 then (l, 0, (evR o (get o.key l)).2.2.2) else
    if 256 < (withR tx o.key (if (evR o (get o.key l)).2.1 then some (evR o (get o.key l)).1 else none) l).length then (l, 0, 5) else (withR tx o.key (if (evR o (get o.key l)).2.1 then some (evR o (get o.key l)).1 else none) l, (evR o (get o.key l)).2.2.1, 0) := by
  unfold stB evO
  generalize evR o (get o.key l) = r
  obtain ⟨r1, r2, r3, r4⟩ := r
  simp only []
  by_cases h : r4 = 0
  · subst h; rfl
  · rw [if_pos h, if_pos h]
def RRunPost (ls : List Part) (r : List Rw × List Int × Int × Int) (e : Ending) (w' : World) : Prop :=
  ∃ v A' c', e = .returned (.tuple #[.slice A' r.1.length c', v, .int .i64 r.2.2.1, .int .i64 r.2.2.2]) ∧ r.1.length ≤ c' ∧ Sat (ownR v 2 1 (rwI r.2.1) :: roR 2 A' (rwR r.1) :: ls) w'
theorem results_tmp4 {fn : Func} {t u v x : Tmp} (h : fn.results = #[.tmp t, .tmp u, .tmp v, .tmp x]) (tmps : Array Value) (P : Program) (w : World) :
    (results fn tmps).run P w = .ok (.tuple #[tmps.getD t undef, tmps.getD u undef, tmps.getD v undef, tmps.getD x undef]) w := by
  simp [results, h]
end Go.Proofs.YtigffdmpofcdgaaGreatDoor
end
