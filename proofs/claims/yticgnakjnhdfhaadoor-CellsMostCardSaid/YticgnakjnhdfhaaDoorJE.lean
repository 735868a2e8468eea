/- Eval of both texts answers as evalV says. Plain, over the print. Package cells: do. The document's With of chapter 7, walked. The document's Get, Rows, Nums of chapter 7; the law's Cut. Package cells: Run. The document's New and Run of chapter 7. The document's Run of chapter 7. -/
import Derived.Test.YticgnakjnhdfhaaDoorJG1
import Derived.Test.YticgnakjnhdfhaaDoorJG2
import Derived.Test.YticgnakjnhdfhaaDoorJG3
import Derived.Test.YticgnakjnhdfhaaDoorJV
import Derived.Test.YticgnakjnhdfhaaDoorJC
import Derived.Test.YticgnakjnhdfhaaDoorJB
import Derived.Test.YticgnakjnhdfhaaDoorJA
import Derived.WalkLawsBesides
import Derived.Sort.Walk0
section
set_option linter.unusedVariables false
set_option maxRecDepth 100000
namespace Go.Proofs.YticgnakjnhdfhaaDoor
open Go.RowKit Go.Proofs.BL Go.Proofs.Ky Go.Proofs.YticgnakjnhdfhaaDoor.Gv Go.Proofs.YticgnakjnhdfhaaDoor.G Go.Proofs.YticgnakjnhdfhaaDoorW.PrintWords Go.Proofs.YticgnakjnhdfhaaDoorW.PrintLast Go.Proofs.YticgnakjnhdfhaaDoorW.PrintMore
def plainB (k n lo : Int) : Bool := decide (((k = 1 ∨ k = 3) ∧ n = 0 ∧ lo = 0) ∨ ((k = 2 ∨ k = 4 ∨ k = 6) ∧ lo = 0) ∨ k = 5)
def keyB (s : ByteArray) : Bool := decide (s.size ≤ 16) && letB (BL.txt s)
def sysB (s : ByteArray) : Bool := decide (s.size ≤ 16) && (match BL.txt s with | c :: t => decide (c = 126) && letB t | [] => false)
def mayB (k : Int) (s : ByteArray) (n lo : Int) : Bool := plainB k n lo && (keyB s || sysB s)
theorem plain_some (k : Int) (s : ByteArray) (n lo : Int) (m : Nat) (hm : 2 ≤ m) : ops_plain.f m k s n lo = some (plainB k n lo) := by
  obtain ⟨m, rfl⟩ : ∃ q, m = q + 2 := ⟨m - 2, by omega⟩
  unfold ops_plain.f plainB
  by_cases h1 : k = 1
  · subst h1
    simp only [ops_plain.j0]
    by_cases hn : n = 0
    · subst hn; simp; by_cases hl : lo = 0 <;> simp [hl]
    · simp [hn]
  · by_cases h3 : k = 3
    · subst h3
      simp only [ops_plain.j0]
      by_cases hn : n = 0
      · subst hn; simp; by_cases hl : lo = 0 <;> simp [hl]
      · simp [hn]
    · by_cases h2 : k = 2
      · subst h2; simp [ops_plain.j0, ops_plain.j1]; by_cases hl : lo = 0 <;> simp [hl]
      · by_cases h4 : k = 4
        · subst h4; simp [ops_plain.j0, ops_plain.j1]; by_cases hl : lo = 0 <;> simp [hl]
        · by_cases h6 : k = 6
          · subst h6; simp [ops_plain.j0, ops_plain.j1]; by_cases hl : lo = 0 <;> simp [hl]
          · by_cases h5 : k = 5
            · subst h5; simp [ops_plain.j0, ops_plain.j1]
            · simp [ops_plain.j0, ops_plain.j1, h1, h2, h3, h4, h5, h6]
theorem key_some (s : ByteArray) : ops_Key.f s = some (keyB s) := by
  unfold ops_Key.f keyB ops_letters.f Gv.ops_letters
  by_cases h : s.size ≤ 16
  · rw [if_pos (by omega), if_pos (by omega)]; simp [h]
  · rw [if_neg (by omega)]; simp [h]
theorem txt_extract (s : ByteArray) (a b : Nat) : BL.txt (s.extract a b) = (BL.txt s).extract a b := by
  unfold BL.txt
  simp [ByteArray.data_extract]
theorem system_some (s : ByteArray) : ops_system.f s = some (sysB s) := by
  unfold ops_system.f sysB
  by_cases h : s.size ≤ 16
  · rw [if_pos (by omega)]
    have hl := BL.txt_len s
    unfold strings_HasPrefix.f stringslite_HasPrefix.f
    have h1 : (⟨#[126]⟩ : ByteArray).size = 1 := rfl
    rw [h1]
    cases ht : BL.txt s with
    | nil =>
      rw [ht] at hl
      have hz : s.size = 0 := hl.symm
      rw [if_neg (by omega)]
      simp
    | cons c t =>
      rw [ht] at hl
      have hz : 1 ≤ s.size := by simp at hl; omega
      rw [if_pos (by omega), if_pos (by omega), if_pos (by omega)]
      have he : (s.extract 0 ((1 : Nat) : Int).toNat).toList = [c] := by
        rw [ByteArray.toList_eq]
        show BL.txt (s.extract 0 ((1 : Nat) : Int).toNat) = [c]
        rw [txt_extract, ht]
        simp
      have he2 : (⟨#[126]⟩ : ByteArray).toList = [126] := by rw [ByteArray.toList_eq]
      simp only [Option.bind_some, he, he2]
      by_cases hc : c = 126
      · subst hc
        simp only [beq_self_eq_true, if_true]
        rw [if_pos (by omega)]
        have hx : BL.txt (s.extract 1 s.size) = t := by
          rw [txt_extract, ht, ← hl]
          simp
        unfold ops_letters.f Gv.ops_letters
        rw [if_pos (by simp; omega), hx]
        simp [h]
      · have : ([c] == [126]) = false := by simp [hc]
        rw [this]
        simp [hc]
  · rw [if_neg (by omega)]; simp [h]
theorem may_some (k : Int) (s : ByteArray) (n lo : Int) (m : Nat) (hm : 2 ≤ m) : ops_May.f m k s n lo = some (mayB k s n lo) := by
  unfold ops_May.f mayB
  rw [plain_some k s n lo m hm, key_some, system_some]
  cases plainB k n lo <;> cases keyB s <;> cases sysB s <;> rfl
theorem wrap_w (x : Int) : wrap64 x = w64 x := by unfold wrap64 w64; omega
theorem eval_some (k : Int) (s : ByteArray) (n lo old : Int) (th : Bool) (m : Nat) (hm : 2 ≤ m) (hn : in64 n) (ho : in64 old) : ops_Eval.f m k s n lo old th = some (evalV (mayB k s n lo) k n lo old th) := by
  unfold ops_Eval.f evalV
  rw [may_some k s n lo m hm]
  cases mayB k s n lo with
  | false => rfl
  | true =>
    obtain ⟨m, rfl⟩ : ∃ q, m = q + 1 := ⟨m - 1, by omega⟩
    simp only [Option.bind_some, if_true]
    have key : ∀ o, in64 o → ops_Eval.j0 (m + 1) o th k s n lo = some (if k = 1 then (o, th, o, 0) else if k = 2 then (n, true, n, 0) else if k = 3 then (0, false, o, 0) else if k = 6 then (w64 (o + n), true, w64 (o + n), 0) else if ¬ in64 (o + n) then (o, th, 0, 25) else if k = 5 ∧ o + n < lo then (o, th, 0, 24) else (o + n, true, o + n, 0)) := by
      intro o hoo
      simp only [ops_Eval.j0]
      by_cases h1 : k = 1
      · simp [h1]
      · by_cases h2 : k = 2
        · simp [h2]
        · by_cases h3 : k = 3
          · simp [h3]
          · by_cases h6 : k = 6
            · simp [h6, wrap_w]
            · simp only [h1, h2, h3, h6, if_false]
              unfold ops_grown.f ops_sum.f
              simp only [Option.bind_some, wrap_w]
              rw [sum_fits hoo hn]
              by_cases hf : in64 (o + n)
              · rw [w64_in hf]
                simp only [hf, decide_true, if_true, not_true, if_false]
                by_cases h5 : k = 5
                · by_cases hl : o + n < lo <;> simp [h5, hl]
                · simp [h5]
              · simp [hf]
    cases th with
    | true => simp only [if_true]; exact key old ho
    | false => simp only [Bool.false_eq_true, if_false]; exact key 0 (by unfold in64; omega)
theorem bt_txt {s : ByteArray} {i : Nat} {c : UInt8} (h : (BL.txt s)[i]? = some c) : bt s (i : Int) = (c.toNat : Int) := by
  have hl := BL.txt_len s
  have hi := (List.getElem?_eq_some_iff.1 h).1
  have e := (List.getElem?_eq_some_iff.1 h).2
  have := bt_at s (i : Int) (by simpa using (by omega : i < s.size))
  rw [← this, ← e]
  simp [BL.txt]
  rfl
theorem rl_some (s : ByteArray) (hs : s.size ≤ 1000) (d : Nat) : ∀ (k i : Nat), i + d = s.size → d < k → byroadref06_letters.l0 k s (i : Int) = some (((BL.txt s).drop i).all (fun c => okN c.toNat) && decide (0 < s.size)) := by
  have hl := BL.txt_len s
  induction d with
  | zero =>
    intro k i hi hk
    obtain ⟨k, rfl⟩ : ∃ m, k = m + 1 := ⟨k - 1, by omega⟩
    simp only [byroadref06_letters.l0]
    rw [if_neg (by omega), List.drop_of_length_le (by omega)]
    simp
  | succ d ih =>
    intro k i hi hk
    obtain ⟨k, rfl⟩ : ∃ m, k = m + 1 := ⟨k - 1, by omega⟩
    have hlt : i < (BL.txt s).length := by omega
    obtain ⟨c, hc⟩ : ∃ c, (BL.txt s)[i]? = some c := ⟨_, List.getElem?_eq_getElem hlt⟩
    have hb := bt_txt hc
    have hd : (BL.txt s).drop i = c :: (BL.txt s).drop (i + 1) := by
      rw [List.drop_eq_getElem_cons hlt]
      congr 1
      have := (List.getElem?_eq_some_iff.1 hc).2
      exact this
    have hn := ih k (i + 1) (by omega) (by omega)
    have hw : wrap64 ((i : Int) + 1) = ((i + 1 : Nat) : Int) := by unfold wrap64; omega
    simp only [byroadref06_letters.l0]
    rw [if_pos (by omega), if_pos (by omega), hb, hw, hn, hd, List.all_cons]
    generalize (c.toNat : Int) = n
    by_cases hok : (97 ≤ n ∧ n ≤ 122) ∨ (48 ≤ n ∧ n ≤ 57) ∨ n = 46 ∨ n = 95
    · rw [ok_yes hok, Bool.true_and]
      by_cases a1 : n < 97
      · rw [if_pos a1]
        by_cases a2 : n < 48
        · rw [if_pos a2]
          by_cases a3 : n = 46
          · rw [if_pos a3]
          · rw [if_neg a3, if_pos (by omega)]
        · rw [if_neg a2]
          by_cases a4 : n > 57
          · rw [if_pos a4]
            by_cases a3 : n = 46
            · rw [if_pos a3]
            · rw [if_neg a3, if_pos (by omega)]
          · rw [if_neg a4]
      · rw [if_neg a1]
        by_cases a5 : n > 122
        · omega
        · rw [if_neg a5]
    · rw [ok_no hok, Bool.false_and, Bool.false_and]
      by_cases a1 : n < 97
      · rw [if_pos a1]
        by_cases a2 : n < 48
        · rw [if_pos a2, if_neg (by omega), if_neg (by omega)]
        · rw [if_neg a2, if_pos (by omega), if_neg (by omega), if_neg (by omega)]
      · rw [if_neg a1, if_pos (by omega), if_neg (by omega), if_pos (by omega), if_neg (by omega), if_neg (by omega)]
theorem rletters_some (s : ByteArray) (hs : s.size ≤ 1000) (k : Nat) (hk : s.size < k) : byroadref06_letters.f k s = some (letB (BL.txt s)) := by
  unfold byroadref06_letters.f
  rw [show (0 : Int) = ((0 : Nat) : Int) from rfl, rl_some s hs s.size k 0 (by omega) hk, List.drop_zero]
  unfold letB
  have hl := BL.txt_len s
  congr 2
  cases ht : BL.txt s with
  | nil =>
    have hz : s.size = 0 := by rw [ht] at hl; exact hl.symm
    rw [hz]; rfl
  | cons c t =>
    have hz : 0 < s.size := by rw [ht] at hl; rw [← hl]; simp
    rw [decide_eq_true hz]; rfl
theorem rkey_some (s : ByteArray) (k : Nat) (hk : 20 ≤ k) : byroadref06_Key.f k s = some (keyB s) := by
  unfold byroadref06_Key.f keyB
  by_cases h : s.size ≤ 16
  · rw [if_pos (by omega), rletters_some s (by omega) k (by omega)]; simp [h]
  · rw [if_neg (by omega)]; simp [h]
theorem rj_some (b : Bool) (k : Int) (s : ByteArray) (n lo : Int) (m : Nat) (hm : 30 ≤ m) : byroadref06_May.j0 m b k s n lo = some (!b && (keyB s || sysB s)) := by
  obtain ⟨m, rfl⟩ : ∃ q, m = q + 1 := ⟨m - 1, by omega⟩
  simp only [byroadref06_May.j0]
  cases b with
  | true => rfl
  | false =>
    rw [if_neg (by simp), rkey_some s m (by omega)]
    simp only [Option.bind_some]
    cases keyB s with
    | true => rfl
    | false =>
      simp only [Bool.false_eq_true, if_false, Bool.not_false, Bool.true_and, Bool.false_or]
      unfold sysB
      have hl := BL.txt_len s
      by_cases h : s.size ≤ 16
      · rw [if_pos (by omega)]
        cases ht : BL.txt s with
        | nil =>
          rw [ht] at hl
          simp at hl
          rw [if_neg (by omega)]
          simp
        | cons c t =>
          rw [ht] at hl
          simp at hl
          have hb : bt s 0 = (c.toNat : Int) := bt_txt (i := 0) (by rw [ht]; rfl)
          have hx : BL.txt (s.extract 1 s.size) = t := by
            rw [txt_extract, ht, ← hl]
            simp
          by_cases h1 : 1 < s.size
          · rw [if_pos (by omega), if_pos (by omega), hb]
            by_cases hc : c = 126
            · subst hc
              rw [if_pos (by decide), if_pos (by omega), rletters_some _ (by simp; omega) m (by simp; omega), hx]
              simp [h]
            · have : ¬ (c.toNat : Int) = 126 := by
                intro e
                apply hc
                apply UInt8.toNat_inj.1
                have : (126 : UInt8).toNat = 126 := rfl
                omega
              rw [if_neg this]
              simp [hc]
          · rw [if_neg (by omega)]
            have : t = [] := List.eq_nil_of_length_eq_zero (by omega)
            subst this
            simp [letB]
      · rw [if_neg (by omega)]; simp [h]
theorem rmay_some (k : Int) (s : ByteArray) (n lo : Int) (m : Nat) (hm : 30 ≤ m) : byroadref06_May.f m k s n lo = some (mayB k s n lo) := by
  unfold byroadref06_May.f mayB
  simp only [rj_some _ _ _ _ _ m hm]
  by_cases h1 : k < 1
  · rw [if_pos h1]
    have : plainB k n lo = false := decide_eq_false (by omega)
    rw [this]; rfl
  · rw [if_neg h1]
    by_cases h6 : k > 6
    · rw [if_pos h6]
      have : plainB k n lo = false := decide_eq_false (by omega)
      rw [this]; rfl
    · rw [if_neg h6]
      by_cases hl : lo = 0
      · rw [if_pos hl]
        by_cases hn : n = 0
        · rw [if_pos hn]
          have : plainB k n lo = true := decide_eq_true (by omega)
          rw [this]; rfl
        · rw [if_neg hn]
          by_cases hk : k = 1
          · rw [if_pos hk]
            have : plainB k n lo = false := decide_eq_false (by omega)
            rw [this]; rfl
          · rw [if_neg hk]
            by_cases hk3 : k = 3
            · have : plainB k n lo = false := decide_eq_false (by omega)
              rw [this]; simp [hk3]
            · have : plainB k n lo = true := decide_eq_true (by omega)
              rw [this]; simp [hk3]
      · rw [if_neg hl]
        by_cases h5 : k = 5
        · rw [if_pos h5]
          have : plainB k n lo = true := decide_eq_true (by omega)
          rw [this]
          by_cases hn : n = 0
          · rw [if_pos hn]; rfl
          · rw [if_neg hn, if_neg (by omega)]; simp [h5]
        · rw [if_neg h5]
          have : plainB k n lo = false := decide_eq_false (by omega)
          rw [this]; rfl
theorem wrapu (a b : Int) : wrap64 (IntKind.u64.wrap (IntKind.u64.wrap a + IntKind.u64.wrap b)) = w64 (a + b) := by
  simp only [IntKind.wrap_u64]
  unfold wrap64 w64
  omega
theorem reval_some (k : Int) (s : ByteArray) (n lo old : Int) (th : Bool) (m : Nat) (hm : 30 ≤ m) (hn : in64 n) (ho : in64 old) : byroadref06_Eval.f m k s n lo old th = some (evalV (mayB k s n lo) k n lo old th) := by
  unfold byroadref06_Eval.f evalV
  rw [rmay_some k s n lo m hm]
  cases mayB k s n lo with
  | false => rfl
  | true =>
    obtain ⟨m, rfl⟩ : ∃ q, m = q + 1 := ⟨m - 1, by omega⟩
    simp only [Option.bind_some, if_true]
    have key : ∀ o, in64 o → byroadref06_Eval.j0 (m + 1) o th k s n lo = some (if k = 1 then (o, th, o, 0) else if k = 2 then (n, true, n, 0) else if k = 3 then (0, false, o, 0) else if k = 6 then (w64 (o + n), true, w64 (o + n), 0) else if ¬ in64 (o + n) then (o, th, 0, 25) else if k = 5 ∧ o + n < lo then (o, th, 0, 24) else (o + n, true, o + n, 0)) := by
      intro o hoo
      simp only [byroadref06_Eval.j0]
      unfold byroadref06_Fits.f Gv.byroadref06_Fits
      rw [if_pos ⟨hoo, hn⟩]
      simp only [Option.bind_some, wrapu]
      by_cases h1 : k = 1
      · simp [h1]
      · by_cases h2 : k = 2
        · simp [h2]
        · by_cases h3 : k = 3
          · simp [h3]
          · by_cases h6 : k = 6
            · simp [h6]
            · simp only [h1, h2, h3, h6, if_false]
              unfold fitV
              by_cases hf : in64 (o + n)
              · simp only [hf, if_true, not_true, if_false]
                by_cases h5 : k = 5
                · by_cases hl : o + n < lo <;> simp [h5, hl]
                · simp [h5]
              · simp [hf]
    cases th with
    | true => simp only [if_true]; exact key old ho
    | false => simp only [Bool.false_eq_true, if_false]; exact key 0 (by unfold in64; omega)
end Go.Proofs.YticgnakjnhdfhaaDoor
end

section
set_option linter.unusedVariables false
set_option maxRecDepth 100000
namespace Go.Proofs.YticgnakjnhdfhaaDoor
open Go.Proofs.BL Go.Proofs.Peel Go.RowKit Go.Proofs.Ky

def evR (o : Opr) (g : Option Int) : Int × Bool × Int × Int := evalV (mayB o.kind o.key o.n o.lo) o.kind o.n o.lo (g.getD 0) g.isSome
/-- What an operation does with what its key holds. -/
def evO (o : Opr) (g : Option Int) : Except Int (Option Int × Int) :=
  if (evR o g).2.2.2 ≠ 0 then .error (evR o g).2.2.2 else .ok (if (evR o g).2.1 then some (evR o g).1 else none, (evR o g).2.2.1)
def doV (o : Opr) (l : List Rw) : List Rw × Int × List Lk :=
  match evO o (get o.key l) with
  | .error e => (l, 0, [.in_ o.key, .num e])
  | .ok (none, t) => (dropP tx o.key l, t, [])
  | .ok (some n, t) => ((setC o.key n l).1, t, (setC o.key n l).2)
def R64 (l : List Rw) : Prop := ∀ r ∈ l, in64 r.2
theorem get64 {l : List Rw} (h : R64 l) (k : ByteArray) : in64 ((get k l).getD 0) := by
  cases hg : get k l with
  | none => show in64 0; unfold in64; omega
  | some n => exact h _ (get_mem hg)
def DoPost (p : Nat) (ls : List Part) (r : List Rw × Int × List Lk) (e : Ending) (w' : World) : Prop := ∃ v, e = .returned (.tuple #[.int .i64 r.2.1, v]) ∧ Chn w' v r.2.2 ∧ Sat (ceP p r.1 :: ls) w'
set_option maxHeartbeats 4000000 in
theorem cDo (p : Nat) (l : List Rw) (o : Opr) (ls : List Part) (w : World) (h : Sat (ceP p l :: ls) w) (hfit : Fit tx l) (h64 : R64 l) (ho : in64 o.n) :
    Calls Tryd.prog 35 #[.pointer (some ⟨p, 0, none⟩), .agg #[.int .i64 o.kind, .string o.key, .int .i64 o.n, .int .i64 o.lo]] w (DoPost p ls (doV o l)) := by
  refine via fun Q hQ => ?_
  obtain ⟨kd, key, n, lo⟩ := o
  simp only at ho ⊢
  have hal : Below w.heap.size w (w.alloc (.cells #[.int .i64 kd, .string key, .int .i64 n, .int .i64 lo] 42)) := (Below.refl _ _).alloc (Nat.le_refl _) _
  have hb0 : Blk (w.alloc (.cells #[.int .i64 kd, .string key, .int .i64 n, .int .i64 lo] 42)) w.heap.size _ _ := Blk.new _ _ _
  have hS := h.below hal
  obtain ⟨v, hF, _⟩ := hS.ceF
  have HGet := Lib.hid (cGet p v l key _ hF hfit.1 (by have := hfit.2; omega))
  have hev := eval_some kd key n lo ((get key l).getD 0) (get key l).isSome 40 (by omega) ho (get64 h64 key)
  have hdo : doV ⟨kd, key, n, lo⟩ l = match evO ⟨kd, key, n, lo⟩ (get key l) with
    | .error e => (l, 0, [.in_ key, .num e])
    | .ok (none, t) => (dropP tx key l, t, [])
    | .ok (some n, t) => ((setC key n l).1, t, (setC key n l).2) := rfl
  have heo : evO ⟨kd, key, n, lo⟩ (get key l) = if (evR ⟨kd, key, n, lo⟩ (get key l)).2.2.2 ≠ 0 then .error (evR ⟨kd, key, n, lo⟩ (get key l)).2.2.2 else .ok (if (evR ⟨kd, key, n, lo⟩ (get key l)).2.1 then some (evR ⟨kd, key, n, lo⟩ (get key l)).1 else none, (evR ⟨kd, key, n, lo⟩ (get key l)).2.2.1) := rfl
  have hee : evalV (mayB kd key n lo) kd n lo ((get key l).getD 0) (get key l).isSome = evR ⟨kd, key, n, lo⟩ (get key l) := rfl
  rw [hee] at hev
  generalize evR ⟨kd, key, n, lo⟩ (get key l) = r at hev heo
  obtain ⟨r1, r2, r3, r4⟩ := r
  simp only at heo
  rw [heo] at hdo
  generalize get key l = g at HGet hev
  have HEv := Lib.hid hev
  have HDo := Lib.hid hdo
  have HFit := Lib.hid hfit
  have HS := Lib.hid hS
  have HB0 := Lib.hid hb0
  clear hev heo hee hdo hfit hS hb0 h h64 hF ho
  go_enter Tryd.func35, Tryd.ntmps35
  go_wp2_with fail
  refine HGet.out.mono ?_
  rintro e w1 ⟨rfl, hb1⟩
  have HB1 := Lib.hid (HB0.out.below hb1)
  have HS1 := Lib.hid (HS.out.below hb1)
  have d0 := HB1.out.at_ 0 rfl
  have d1 := HB1.out.at_ 1 rfl
  have d2 := HB1.out.at_ 2 rfl
  have d3 := HB1.out.at_ 3 rfl
  clear hb1 HGet
  go_wp2_with fail
  refine (G.ops_Eval.calls 40 kd key n lo (g.getD 0) g.isSome r1 r2 r3 r4 w1 HEv.out).mono ?_
  rintro e w2 ⟨rfl, hb2⟩
  have HB2 := Lib.hid (HB1.out.below hb2)
  have HS2 := Lib.hid (HS1.out.below hb2)
  clear hb2 d0 d1 d2 d3
  have d1 := HB2.out.at_ 1 rfl
  by_cases hr4 : r4 = 0
  · subst hr4
    have hd2 := HDo.out
    rw [if_neg (by simp)] at hd2
    cases r2 with
    | false =>
      simp only [Bool.false_eq_true, if_false] at hd2
      have HD2 := Lib.hid hd2
      have HDr := Lib.hid (cDrop p l key ls w2 HS2.out HFit.out.1 HFit.out.2)
      clear hd2
      go_wp2_with fail
      refine HDr.out.mono ?_
      rintro e w3 ⟨rfl, hS3⟩
      have HS3 := Lib.hid hS3
      clear hS3 HDr
      go_wp2
      exact ⟨.nilIface, by rw [HD2.out]; rfl, by rw [HD2.out]; rfl, by rw [HD2.out]; exact HS3.out⟩
    | true =>
      simp only [if_true] at hd2
      have HD2 := Lib.hid hd2
      have HSe := Lib.hid (cSet p l key r1 ls w2 HS2.out HFit.out.1 HFit.out.2)
      clear hd2
      go_wp2_with fail
      refine HSe.out.mono ?_
      rintro e w3 ⟨v3, rfl, hc3, hS3⟩
      have HS3 := Lib.hid hS3
      have HC3 := Lib.hid hc3
      clear hS3 hc3 HSe
      go_wp2
      exact ⟨v3, by rw [HD2.out]; rfl, by rw [HD2.out]; exact HC3.out, by rw [HD2.out]; exact HS3.out⟩
  · have hd2 := HDo.out
    rw [if_pos hr4] at hd2
    have HD2 := Lib.hid hd2
    clear hd2
    have hr4b : (r4 != 0) = true := bne_iff_ne.2 hr4
    have hNew : ∀ x, Keep w2 ⟨w.heap.size, 1, none⟩ (.string key) x ∧ World.cell? x ⟨w.heap.size, 1, none⟩ = some (.string key) → Calls Tryd.prog 54 #[.int .i64 r4] x (fun e x' => ∃ v, e = .returned v ∧ Chn x' v [.num r4] ∧ Keep w2 ⟨w.heap.size, 1, none⟩ (.string key) x' ∧ World.cell? x' ⟨w.heap.size, 1, none⟩ = some (.string key)) := fun x hx =>
      (fnew r4 x).mono fun e x' ⟨v, h1, h2, h3⟩ => ⟨v, h1, by rw [if_neg hr4] at h2; exact h2, hx.1.below h3, (hx.1.below h3).2⟩
    have hIn : ∀ x v, Keep w2 ⟨w.heap.size, 1, none⟩ (.string key) x ∧ World.cell? x ⟨w.heap.size, 1, none⟩ = some (.string key) → Chn x v [.num r4] → Calls Tryd.prog 57 #[.string key, v] x (fun e x' => ∃ v', e = .returned v' ∧ Chn x' v' [.in_ key, .num r4] ∧ Keep w2 ⟨w.heap.size, 1, none⟩ (.string key) x' ∧ World.cell? x' ⟨w.heap.size, 1, none⟩ = some (.string key)) := fun x v hx hv =>
      (fin_ key v _ x hv).mono fun e x' ⟨v', h1, h2, h3⟩ => ⟨v', h1, by simpa using h2, hx.1.below h3, (hx.1.below h3).2⟩
    have hd : Keep w2 ⟨w.heap.size, 1, none⟩ (.string key) w2.drew ∧ World.cell? w2.drew ⟨w.heap.size, 1, none⟩ = some (.string key) := ⟨(Keep.start d1).below (drew_below _ 1), d1⟩
    have HN := Lib.hid hNew
    have HI := Lib.hid hIn
    clear hNew hIn hr4
    go_wp2_with fail
    go_region_held3 (fun x => Keep w2 ⟨w.heap.size, 1, none⟩ (.string key) x ∧ x.cell? ⟨w.heap.size, 1, none⟩ = some (.string key)) ((first | assumption | exact hd)) ((first | (go_at_call 54; refine (HN.out _ (by assumption)).mono ?_; rintro e x1 ⟨v1, rfl, hc1, hx1⟩) | (go_at_call 57; refine (HI.out _ _ (by assumption) (by assumption)).mono ?_; rintro e x2 ⟨v2, rfl, hc2, hx2⟩)))
    have HC2 := Lib.hid hc2
    have HK2 := Lib.hid hx2.1.1
    clear hc2 hx2 hc1 hx1 hd
    go_wp2
    exact ⟨v2, by rw [HD2.out]; rfl, by rw [HD2.out]; exact HC2.out, by rw [HD2.out]; exact HS2.out.below HK2.out⟩
end Go.Proofs.YticgnakjnhdfhaaDoor
end

section
set_option linter.unusedVariables false
set_option maxRecDepth 100000
namespace Go.Proofs.YticgnakjnhdfhaaDoor
open Go.Proofs.BL Go.Proofs.Peel Go.RowKit Go.Proofs.Ky

theorem less_tx (a b : ByteArray) : Op.bytesLess a.toList b.toList = tx.lt a b := by
  rw [ByteArray.toList_eq, ByteArray.toList_eq]
  exact bytesLess_eq _ _
theorem _root_.Go.Proofs.BL.Own.lower {w : World} {base base' : Nat} {E : TypeId} {sz : Nat} {v : Value} {rows : List (List Value)} (h : Own w base E sz v rows) (hb : base' ≤ base) : Own w base' E sz v rows :=
  ⟨⟨h.1.1, h.1.2.elim .inl (fun ⟨g, cap, cur, hv, hg, r⟩ => .inr ⟨g, cap, cur, hv, Nat.le_trans hb hg, r⟩)⟩, h.2⟩
/-- What With holds while it runs: its change's box, what it made. -/
def WIn (w : World) (b : Nat) (bx : Array Value) (v : Value) (out : List Rw) (x : World) : Prop := Below w.heap.size w x ∧ Blk x b bx 77 ∧ Own x (b + 1) 49 2 v (rwR out) ∧ w.heap.size ≤ b ∧ b + 1 ≤ x.heap.size
theorem WIn.below {w x x' : World} {b : Nat} {bx : Array Value} {v : Value} {out : List Rw} (h : WIn w b bx v out x) (hb : Below x.heap.size x x') : WIn w b bx v out x' :=
  ⟨below_then h.1 hb, h.2.1.below hb, h.2.2.1.below hb, h.2.2.2.1, Nat.le_trans h.2.2.2.2 hb.size⟩
theorem WIn.app {w x x' : World} {b : Nat} {bx : Array Value} {v v' : Value} {out : List Rw} {r : Rw} (h : WIn w b bx v out x) (ho : Own x' (b + 1) 49 2 v' (rwR out ++ [enR r])) (hf : Fr (fun k => v.ownBlock = some k) x x') : WIn w b bx v' (out ++ [r]) x' :=
  ⟨((Fr.of_below (S := none_) h.1).trans hf (fun i hi e => by have := (h.2.2.1.1.lt i e).1; have := h.2.2.2.1; omega)).below,
    h.2.1.fr hf (fun e => by have := (h.2.2.1.1.lt b e).1; omega), by rw [rwR, List.map_append]; exact ho, h.2.2.2.1, Nat.le_trans h.2.2.2.2 hf.size⟩
theorem w_skip {key : ByteArray} (n : Int) {i : Bool} {r : Rw} {t : List Rw} (h : (!i && !(tx.lt r.1 key)) = false) (hs : r.1 = key) : withGo tx key n i (r :: t) = withGo tx key n i t := by
  show (if (!i && !(tx.lt r.1 key)) = true then _ else _) ++ (if r.1 = key then [] else [r]) ++ withGo tx key n (i || (!i && !(tx.lt r.1 key))) t = _
  rw [h, if_pos hs]; simp
theorem w_keep {key : ByteArray} (n : Int) {i : Bool} {r : Rw} {t : List Rw} (h : (!i && !(tx.lt r.1 key)) = false) (hs : ¬ r.1 = key) : withGo tx key n i (r :: t) = r :: withGo tx key n i t := by
  show (if (!i && !(tx.lt r.1 key)) = true then _ else _) ++ (if r.1 = key then [] else [r]) ++ withGo tx key n (i || (!i && !(tx.lt r.1 key))) t = _
  rw [h, if_neg hs]; simp
theorem w_put_skip {key : ByteArray} (n : Int) {r : Rw} {t : List Rw} (h : tx.lt r.1 key = false) (hs : r.1 = key) : withGo tx key n false (r :: t) = (key, n) :: withGo tx key n true t := by
  show (if (!false && !(tx.lt r.1 key)) = true then _ else _) ++ (if r.1 = key then [] else [r]) ++ withGo tx key n (false || (!false && !(tx.lt r.1 key))) t = _
  rw [h, if_pos hs]; simp
theorem w_put_keep {key : ByteArray} (n : Int) {r : Rw} {t : List Rw} (h : tx.lt r.1 key = false) (hs : ¬ r.1 = key) : withGo tx key n false (r :: t) = (key, n) :: r :: withGo tx key n true t := by
  show (if (!false && !(tx.lt r.1 key)) = true then _ else _) ++ (if r.1 = key then [] else [r]) ++ withGo tx key n (false || (!false && !(tx.lt r.1 key))) t = _
  rw [h, if_neg hs]; simp
def WithPost (out : List Rw) (w : World) (e : Ending) (w' : World) : Prop := ∃ v, e = .returned v ∧ Own w' w.heap.size 49 2 v (rwR out) ∧ Below w.heap.size w w'
def withX (key : ByteArray) (n : Int) (th : Bool) (l : List Rw) : List Rw := withGo tx key n (!th) l
theorem withX_eq (key : ByteArray) (n : Int) (th : Bool) (l : List Rw) : withX key n th l = withR tx key (if th then some n else none) l := by
  cases th
  · show withGo tx key n true l = withGo tx key 0 true l
    rw [go_in, go_in]
  · rfl

set_option maxHeartbeats 8000000 in
theorem with_calls (A : Option Addr) (c : Nat) (l : List Rw) (key : ByteArray) (n : Int) (th : Bool) (w : World) (hr : RowsAt w 2 A (rwR l)) (hl : l.length ≤ 1000000) (hc : l.length ≤ c) :
    Calls Tryd.prog 34 #[.slice A l.length c, .agg #[.string key, .int .i64 n, .bool th]] w (WithPost (withX key n th l) w) := by
  refine via fun Q hQ => ?_
  have hx0 : WIn w w.heap.size #[.string key, .int .i64 n, .bool th] (.slice none 0 0) [] (w.alloc (.cells #[.string key, .int .i64 n, .bool th] 77)) :=
    ⟨(Below.refl _ _).alloc (Nat.le_refl _) _, Blk.new _ _ _, Own.nil _ _ _ _, Nat.le_refl _, by simp⟩
  have HR := Lib.hid hr
  have H0 := Lib.hid hx0
  have hgo : withX key n th l = [] ++ withGo tx key n (!th) (l.drop 0) := rfl
  generalize hres : withX key n th l = res at hgo
  have HQ := Lib.hid hres
  have HG := Lib.hid hgo
  clear hr hx0 hgo hres
  generalize hn : l.length = ln at *
  have HNL := Lib.hid hn
  clear hn
  go_enter Tryd.func34, Tryd.ntmps34
  go_wp2_with fail
  generalize w.alloc (.cells #[.string key, .int .i64 n, .bool th] 77) = wa at *
  go_loopg [5, 6, 14] ln (fun g x5 x6 x14 wr => ∃ (j : Nat) (i : Bool) (out : List Rw), j ≤ ln ∧ g = ln - j ∧ x6 = .bool i ∧ x14 = .int .i64 j ∧ Hid (WIn w w.heap.size #[.string key, .int .i64 n, .bool th] x5 out wr) ∧ Hid (res = out ++ withGo tx key n i (l.drop j)) ∧ Hid (out.length ≤ j + j))
  case atStart => exact ⟨0, !th, [], Nat.zero_le _, rfl, rfl, rfl, H0, HG, Lib.hid (Nat.le_refl _)⟩
  case round =>
    obtain ⟨j, i, out, hj, rfl, rfl, rfl, HW, HE, HO⟩ := hrel
    by_cases hlt : j < ln
    · have hx : l[j]? = some (l[j]'(by rw [HNL.out]; exact hlt)) := List.getElem?_eq_getElem _
      have hdr : l.drop j = l[j]'(by rw [HNL.out]; exact hlt) :: l.drop (j + 1) := List.drop_eq_getElem_cons _
      generalize l[j]'(by rw [HNL.out]; exact hlt) = r at hx hdr
      obtain ⟨kk, nn⟩ := r
      obtain ⟨b, o, hA, c1, c2⟩ := rowAt (HR.out.below HW.out.1) hx
      subst hA
      simp only at c1 c2
      have he := HE.out
      rw [hdr] at he
      have HE := Lib.hid he
      have hA1 : Below wr.heap.size wr (wr.alloc (.cells #[.string kk, .int .i64 nn] 49)) := (Below.refl _ _).alloc (Nat.le_refl _) _
      have HW1 := Lib.hid (HW.out.below hA1)
      have d0 := HW1.out.2.1.at_ 0 rfl
      have d1 := HW1.out.2.1.at_ 1 rfl
      have hlx := less_tx kk key
      clear hx hdr he hA1
      have HLX := Lib.hid hlx
      clear hlx
      cases i with
      | true =>
        cases hL : tx.lt kk key with
        | true =>
          by_cases hs : kk = key
          · subst hs
            have hst := str_same (rfl : kk = kk)
            go_wp2_with fail
            go_roundg (ln - (j + 1))
            case measure => omega
            case rel => exact ⟨j + 1, true, out, by omega, rfl, rfl, rfl, HW1, Lib.hid (by rw [HE.out, w_skip (r := (kk, nn)) n (by simp) rfl]), Lib.hid (by have := HO.out; simp; omega)⟩
          · have hst := str_diff hs
            go_wp2_with (at_builtin; (refine append1 (w.heap.size + 1) 49 2 24 (.agg #[.string ⟨#[]⟩, .int .i64 0]) rfl (.tmp 40) (.tmp 42) 22 rfl Tryd.underlying22 (by kernel_rfl) rfl (by decide) (by decide) _ (rwR (out)) (enR (kk, nn)) rfl _ rfl (by simp) rfl (enR_one _) HW1.out.2.2.1 HW1.out.2.2.2.2 (by rw [rwR_len]; have := HO.out; have h7 : (out).length ≤ out.length + 1 := (by simp); omega) ?_); intro v2 w2 hown2 hfr2; have HW2 := Lib.hid (HW1.out.app hown2 hfr2); clear hown2 hfr2)
            go_roundg (ln - (j + 1))
            case measure => omega
            case rel => exact ⟨j + 1, true, out ++ [(kk, nn)], by omega, rfl, rfl, rfl, HW2, Lib.hid (by rw [HE.out, w_keep (r := (kk, nn)) n (by simp) hs]; simp), Lib.hid (by have := HO.out; simp; omega)⟩

        | false =>
          by_cases hs : kk = key
          · subst hs
            have hst := str_same (rfl : kk = kk)
            go_wp2_with fail
            go_roundg (ln - (j + 1))
            case measure => omega
            case rel => exact ⟨j + 1, true, out, by omega, rfl, rfl, rfl, HW1, Lib.hid (by rw [HE.out, w_skip (r := (kk, nn)) n (by simp) rfl]), Lib.hid (by have := HO.out; simp; omega)⟩
          · have hst := str_diff hs
            go_wp2_with (at_builtin; (refine append1 (w.heap.size + 1) 49 2 24 (.agg #[.string ⟨#[]⟩, .int .i64 0]) rfl (.tmp 40) (.tmp 42) 22 rfl Tryd.underlying22 (by kernel_rfl) rfl (by decide) (by decide) _ (rwR (out)) (enR (kk, nn)) rfl _ rfl (by simp) rfl (enR_one _) HW1.out.2.2.1 HW1.out.2.2.2.2 (by rw [rwR_len]; have := HO.out; have h7 : (out).length ≤ out.length + 1 := (by simp); omega) ?_); intro v2 w2 hown2 hfr2; have HW2 := Lib.hid (HW1.out.app hown2 hfr2); clear hown2 hfr2)
            go_roundg (ln - (j + 1))
            case measure => omega
            case rel => exact ⟨j + 1, true, out ++ [(kk, nn)], by omega, rfl, rfl, rfl, HW2, Lib.hid (by rw [HE.out, w_keep (r := (kk, nn)) n (by simp) hs]; simp), Lib.hid (by have := HO.out; simp; omega)⟩

      | false =>
        cases hL : tx.lt kk key with
        | true =>
          have hbl := HLX.out.trans hL
          by_cases hs : kk = key
          · subst hs
            have hst := str_same (rfl : kk = kk)
            go_wp2_with fail
            go_roundg (ln - (j + 1))
            case measure => omega
            case rel => exact ⟨j + 1, false, out, by omega, rfl, rfl, rfl, HW1, Lib.hid (by rw [HE.out, w_skip (r := (kk, nn)) n (by rw [hL]; rfl) rfl]), Lib.hid (by have := HO.out; simp; omega)⟩
          · have hst := str_diff hs
            go_wp2_with (at_builtin; (refine append1 (w.heap.size + 1) 49 2 24 (.agg #[.string ⟨#[]⟩, .int .i64 0]) rfl (.tmp 40) (.tmp 42) 22 rfl Tryd.underlying22 (by kernel_rfl) rfl (by decide) (by decide) _ (rwR (out)) (enR (kk, nn)) rfl _ rfl (by simp) rfl (enR_one _) HW1.out.2.2.1 HW1.out.2.2.2.2 (by rw [rwR_len]; have := HO.out; have h7 : (out).length ≤ out.length + 1 := (by simp); omega) ?_); intro v2 w2 hown2 hfr2; have HW2 := Lib.hid (HW1.out.app hown2 hfr2); clear hown2 hfr2)
            go_roundg (ln - (j + 1))
            case measure => omega
            case rel => exact ⟨j + 1, false, out ++ [(kk, nn)], by omega, rfl, rfl, rfl, HW2, Lib.hid (by rw [HE.out, w_keep (r := (kk, nn)) n (by rw [hL]; rfl) hs]; simp), Lib.hid (by have := HO.out; simp; omega)⟩

        | false =>
          have hbl := HLX.out.trans hL
          by_cases hs : kk = key
          · obtain rfl : key = kk := hs.symm
            have hst := str_same (rfl : key = key)
            go_wp2_with (at_builtin; (refine append1 (w.heap.size + 1) 49 2 24 (.agg #[.string ⟨#[]⟩, .int .i64 0]) rfl (.tmp 27) (.tmp 33) 22 rfl Tryd.underlying22 (by kernel_rfl) rfl (by decide) (by decide) _ (rwR out) (enR (key, n)) rfl _ rfl (by simp) rfl (enR_one _) HW1.out.2.2.1 HW1.out.2.2.2.2 (by rw [rwR_len]; have := HO.out; omega) ?_); intro v1 w1 hown1 hfr1; have HW3 := Lib.hid (HW1.out.app hown1 hfr1); have hbr : Blk w1 wr.heap.size #[.string key, .int .i64 nn] 49 := (Blk.new wr _ _).fr hfr1 (fun e => by have := (HW.out.2.2.1.1.lt _ e).2; omega); have e0 := hbr.at_ 0 rfl; have e1 := hbr.at_ 1 rfl; have d2 := HW3.out.2.1.at_ 0 rfl; clear hbr hown1 hfr1 d0 d1 c1 c2)
            go_roundg (ln - (j + 1))
            case measure => omega
            case rel => exact ⟨j + 1, true, out ++ [(key, n)], by omega, rfl, rfl, rfl, HW3, Lib.hid (by rw [HE.out, w_put_skip (r := (key, nn)) n hL rfl]; simp), Lib.hid (by have := HO.out; simp; omega)⟩
          · have hst := str_diff hs
            go_wp2_with (first | (at_builtin; (refine append1 (w.heap.size + 1) 49 2 24 (.agg #[.string ⟨#[]⟩, .int .i64 0]) rfl (.tmp 27) (.tmp 33) 22 rfl Tryd.underlying22 (by kernel_rfl) rfl (by decide) (by decide) _ (rwR out) (enR (key, n)) rfl _ rfl (by simp) rfl (enR_one _) HW1.out.2.2.1 HW1.out.2.2.2.2 (by rw [rwR_len]; have := HO.out; omega) ?_); intro v1 w1 hown1 hfr1; have HW3 := Lib.hid (HW1.out.app hown1 hfr1); have hbr : Blk w1 wr.heap.size #[.string kk, .int .i64 nn] 49 := (Blk.new wr _ _).fr hfr1 (fun e => by have := (HW.out.2.2.1.1.lt _ e).2; omega); have e0 := hbr.at_ 0 rfl; have e1 := hbr.at_ 1 rfl; have d2 := HW3.out.2.1.at_ 0 rfl; clear hbr hown1 hfr1 d0 d1 c1 c2) | (at_builtin; (refine append1 (w.heap.size + 1) 49 2 24 (.agg #[.string ⟨#[]⟩, .int .i64 0]) rfl (.tmp 40) (.tmp 42) 22 rfl Tryd.underlying22 (by kernel_rfl) rfl (by decide) (by decide) _ (rwR (out ++ [(key, n)])) (enR (kk, nn)) rfl _ rfl (by simp) rfl (enR_one _) HW3.out.2.2.1 HW3.out.2.2.2.2 (by rw [rwR_len]; have := HO.out; have h7 : (out ++ [(key, n)]).length ≤ out.length + 1 := (by simp); omega) ?_); intro v2 w2 hown2 hfr2; have HW2 := Lib.hid (HW3.out.app hown2 hfr2); clear hown2 hfr2))
            go_roundg (ln - (j + 1))
            case measure => omega
            case rel => exact ⟨j + 1, true, out ++ [(key, n)] ++ [(kk, nn)], by omega, rfl, rfl, rfl, HW2, Lib.hid (by rw [HE.out, w_put_keep (r := (kk, nn)) n hL hs]; simp), Lib.hid (by have := HO.out; simp; omega)⟩
    · obtain rfl : j = ln := by omega
      have he := HE.out
      rw [List.drop_of_length_le (by rw [HNL.out]; exact Nat.le_refl _)] at he
      have d0 := HW.out.2.1.at_ 0 rfl
      have d1 := HW.out.2.1.at_ 1 rfl
      cases i with
      | true =>
        have HE := Lib.hid (show res = out by rw [he]; simp [withGo])
        clear he
        go_wp2_with fail
        exact ⟨_, rfl, by rw [HQ.out, HE.out]; exact HW.out.2.2.1.lower (by simp), HW.out.1⟩
      | false =>
        have HE := Lib.hid (show res = out ++ [(key, n)] by rw [he]; simp [withGo])
        clear he
        go_wp2_with (at_builtin; (refine append1 (w.heap.size + 1) 49 2 24 (.agg #[.string ⟨#[]⟩, .int .i64 0]) rfl (.tmp 47) (.tmp 53) 22 rfl Tryd.underlying22 (by kernel_rfl) rfl (by decide) (by decide) _ (rwR out) (enR (key, n)) rfl _ rfl (by simp) rfl (enR_one _) HW.out.2.2.1 HW.out.2.2.2.2 (by rw [rwR_len]; have := HO.out; omega) ?_); intro v1 w1 hown1 hfr1; have HW3 := Lib.hid (HW.out.app hown1 hfr1); clear hown1 hfr1)
        exact ⟨_, rfl, by rw [HQ.out, HE.out]; exact HW3.out.2.2.1.lower (by simp), HW3.out.1⟩
end Go.Proofs.YticgnakjnhdfhaaDoor
end

section
set_option linter.unusedVariables false
set_option maxRecDepth 100000
namespace Go.Proofs.YticgnakjnhdfhaaDoor
open Go.Proofs.BL Go.Proofs.Peel Go.RowKit Go.Proofs.Ky

theorem take_get {k : ByteArray} {l : List Rw} {j : Nat} {r : Rw} (hx : l[j]? = some r) (h : get k (l.take j) = none) : get k (l.take (j + 1)) = (if r.1 = k then some r.2 else none) ∧ (r.1 = k → get k l = some r.2) := by
  have hj := (List.getElem?_eq_some_iff.1 hx).1
  have e : l[j] = r := (List.getElem?_eq_some_iff.1 hx).2
  have h1 : get k (l.take (j + 1)) = if r.1 = k then some r.2 else none := by
    rw [List.take_succ_eq_append_getElem hj, get_app, h, e, get_cons]
    rfl
  refine ⟨h1, fun hk => ?_⟩
  rw [if_pos hk] at h1
  have := get_app k (l.take (j + 1)) (l.drop (j + 1))
  rw [List.take_append_drop, h1] at this
  exact this
def RGetPost (g : Option Int) (w : World) (e : Ending) (w' : World) : Prop := e = .returned (.tuple #[.int .i64 (g.getD 0), .bool g.isSome]) ∧ Below w.heap.size w w'
set_option maxHeartbeats 2000000 in
theorem rget (A : Option Addr) (c : Nat) (l : List Rw) (key : ByteArray) (w : World) (hr : RowsAt w 2 A (rwR l)) (hl : l.length ≤ 1000000) (hc : l.length ≤ c) :
    Calls Tryd.prog 39 #[.slice A l.length c, .string key] w (RGetPost (get key l) w) := by
  refine via fun Q hQ => ?_
  have HR := Lib.hid hr
  clear hr
  generalize hn : l.length = n at *
  have HNL := Lib.hid hn
  clear hn
  go_enter Tryd.func39, Tryd.ntmps39
  go_wp2_with fail
  go_loopg [10] n (fun g x wr => ∃ j : Nat, j ≤ n ∧ g = n - j ∧ x = .int .i64 j ∧ Hid (get key (l.take j) = none) ∧ Hid (Below w.heap.size w wr))
  case atStart => exact ⟨0, Nat.zero_le _, rfl, rfl, Lib.hid rfl, Lib.hid (Below.refl _ _)⟩
  case round =>
    obtain ⟨j, hj, rfl, rfl, HG, HB⟩ := hrel
    by_cases hlt : j < n
    · have hx : l[j]? = some (l[j]'(by rw [HNL.out]; exact hlt)) := List.getElem?_eq_getElem _
      generalize l[j]'(by rw [HNL.out]; exact hlt) = r at hx
      have htg := take_get hx HG.out
      obtain ⟨b, o, hA, c1, c2⟩ := rowAt (HR.out.below HB.out) hx
      subst hA
      obtain ⟨kk, nn⟩ := r
      simp only at c1 c2 htg
      have HB1 := Lib.hid (below_then HB.out ((Below.refl wr.heap.size wr).alloc (Nat.le_refl _) (.cells #[.string kk, .int .i64 nn] 49)))
      have HT := Lib.hid htg
      clear htg hx
      by_cases hk : kk = key
      · have HG2 := Lib.hid (HT.out.2 hk)
        have hst := str_same hk
        clear hk
        go_wp2_with fail
        exact ⟨by rw [HG2.out]; rfl, HB1.out⟩
      · have HG2 := Lib.hid (HT.out.1.trans (if_neg hk))
        have hst := str_diff hk
        clear hk
        go_wp2_with fail
        go_roundg (n - (j + 1))
        case measure => omega
        case rel => exact ⟨j + 1, by omega, rfl, rfl, HG2, HB1⟩
    · obtain rfl : j = n := by omega
      have hG := HG.out
      rw [List.take_of_length_le (by rw [HNL.out]; exact Nat.le_refl _)] at hG
      have HG2 := Lib.hid hG
      clear hG
      go_wp2
      exact ⟨by rw [HG2.out]; rfl, HB.out⟩

def YesPost (w : World) (e : Ending) (w' : World) : Prop := e = .returned (.bool true) ∧ Below w.heap.size w w'
set_option maxHeartbeats 2000000 in
theorem rrows (A B : Option Addr) (c d : Nat) (l : List Rw) (w : World) (hr : RowsAt w 2 A (rwR l)) (hs : RowsAt w 2 B (rwR l)) (hl : l.length ≤ 1000000) (hc : l.length ≤ c) (hd : l.length ≤ d) :
    Calls Tryd.prog 41 #[.slice A l.length c, .slice B l.length d] w (YesPost w) := by
  refine via fun Q hQ => ?_
  have HR := Lib.hid hr
  have HS := Lib.hid hs
  clear hr hs
  generalize hn : l.length = n at *
  have HNL := Lib.hid hn
  clear hn
  go_enter Tryd.func41, Tryd.ntmps41
  go_wp2_with fail
  go_loopg [13] n (fun g x wr => ∃ j : Nat, j ≤ n ∧ g = n - j ∧ x = .int .i64 j ∧ Hid (Below w.heap.size w wr))
  case atStart => exact ⟨0, Nat.zero_le _, rfl, rfl, Lib.hid (Below.refl _ _)⟩
  case round =>
    obtain ⟨j, hj, rfl, rfl, HB⟩ := hrel
    by_cases hlt : j < n
    · have hx : l[j]? = some (l[j]'(by rw [HNL.out]; exact hlt)) := List.getElem?_eq_getElem _
      generalize l[j]'(by rw [HNL.out]; exact hlt) = r at hx
      obtain ⟨b, o, hA, c1, c2⟩ := rowAt (HR.out.below HB.out) hx
      obtain ⟨b', o', hA', d1, d2⟩ := rowAt (HS.out.below HB.out) hx
      subst hA hA'
      obtain ⟨kk, nn⟩ := r
      simp only at c1 c2 d1 d2
      clear hx
      have hst := str_same (rfl : kk = kk)
      have h0 : (0 : Int) ≤ (j : Int) := by omega
      have h1 : (j : Int) < (n : Int) := by omega
      go_wp2_with fail
      go_quiet (fail)
      have HB1 := Lib.hid (below_then HB.out (drew_below wr nq))
      go_wp2_with fail
      go_roundg (n - (j + 1))
      case measure => omega
      case rel => exact ⟨j + 1, by omega, rfl, rfl, HB1⟩
    · obtain rfl : j = n := by omega
      go_wp2
      exact ⟨rfl, HB.out⟩
def rwI (l : List Int) : List (List Value) := l.map (fun n => [.int .i64 n])
theorem rwI_len (l : List Int) : (rwI l).length = l.length := by simp [rwI]
theorem intAt {w : World} {A : Option Addr} {l : List Int} (h : RowsAt w 1 A (rwI l)) {i : Nat} {r : Int} (hi : l[i]? = some r) :
    ∃ b o, A = some ⟨b, o, none⟩ ∧ w.cell? ⟨b, o + i, none⟩ = some (.int .i64 r) := by
  obtain ⟨b, o, e, hc⟩ := h i [.int .i64 r] (by rw [rwI, List.getElem?_map, hi]; rfl)
  refine ⟨b, o, e, ?_⟩
  have := hc 0 _ rfl
  rwa [show o + i * 1 + 0 = o + i from by omega] at this
set_option maxHeartbeats 2000000 in
theorem rnums (A B : Option Addr) (c d : Nat) (l : List Int) (w : World) (hr : RowsAt w 1 A (rwI l)) (hs : RowsAt w 1 B (rwI l)) (hl : l.length ≤ 1000000) (hc : l.length ≤ c) (hd : l.length ≤ d) :
    Calls Tryd.prog 15 #[.slice A l.length c, .slice B l.length d] w (YesPost w) := by
  refine via fun Q hQ => ?_
  have HR := Lib.hid hr
  have HS := Lib.hid hs
  clear hr hs
  generalize hn : l.length = n at *
  have HNL := Lib.hid hn
  clear hn
  go_enter Tryd.func15, Tryd.ntmps15
  go_wp2_with fail
  go_loopg [13] n (fun g x wr => ∃ j : Nat, j ≤ n ∧ g = n - j ∧ x = .int .i64 j ∧ Hid (Below w.heap.size w wr))
  case atStart => exact ⟨0, Nat.zero_le _, rfl, rfl, Lib.hid (Below.refl _ _)⟩
  case round =>
    obtain ⟨j, hj, rfl, rfl, HB⟩ := hrel
    by_cases hlt : j < n
    · have hx : l[j]? = some (l[j]'(by rw [HNL.out]; exact hlt)) := List.getElem?_eq_getElem _
      generalize l[j]'(by rw [HNL.out]; exact hlt) = r at hx
      obtain ⟨b, o, hA, c1⟩ := intAt (HR.out.below HB.out) hx
      obtain ⟨b', o', hA', d1⟩ := intAt (HS.out.below HB.out) hx
      subst hA hA'
      clear hx
      have h0 : (0 : Int) ≤ (j : Int) := by omega
      have h1 : (j : Int) < (n : Int) := by omega
      go_wp2_with fail
      go_quiet (fail)
      have HB1 := Lib.hid (below_then HB.out (drew_below wr nq))
      go_wp2_with fail
      go_roundg (n - (j + 1))
      case measure => omega
      case rel => exact ⟨j + 1, by omega, rfl, rfl, HB1⟩
    · obtain rfl : j = n := by omega
      go_wp2
      exact ⟨rfl, HB.out⟩
/-- The law's Cut of rows. -/
def cutRw (r : Rw) : Rw := (cut20 r.1, r.2)
def cutRs (l : List Rw) : List Rw := (l.take 30).map cutRw
def CutRPost (l : List Rw) (w : World) (e : Ending) (w' : World) : Prop := ∃ v, e = .returned v ∧ Own w' w.heap.size 49 2 v (rwR (cutRs l)) ∧ Below w.heap.size w w'
theorem cutRs_end {l : List Rw} {j : Nat} (hj : j ≤ 30) (h : j = l.length ∨ (j = 30)) : (l.take j).map cutRw = cutRs l := by
  unfold cutRs
  rcases h with rfl | rfl
  · rw [List.take_of_length_le (Nat.le_refl _), List.take_of_length_le hj]
  · rfl
theorem cutRs_next {l : List Rw} {j : Nat} {r : Rw} (h : l[j]? = some r) : rwR ((l.take (j + 1)).map cutRw) = rwR ((l.take j).map cutRw) ++ [enR (cutRw r)] := by
  have hj := (List.getElem?_eq_some_iff.1 h).1
  have e : l[j] = r := (List.getElem?_eq_some_iff.1 h).2
  rw [List.take_succ_eq_append_getElem hj, e]
  simp [rwR]
set_option maxHeartbeats 4000000 in
theorem lcutR (A : Option Addr) (c : Nat) (l : List Rw) (w : World) (hr : RowsAt w 2 A (rwR l)) (hl : l.length ≤ 9223372036854775807) (hc : l.length ≤ c) :
    Calls Tryd.prog 10 #[.slice A l.length c] w (CutRPost l w) := by
  refine via fun Q hQ => ?_
  have HR := Lib.hid hr
  clear hr
  generalize hn : l.length = ln at *
  have HNL := Lib.hid hn
  clear hn
  go_enter Tryd.func10, Tryd.ntmps10
  go_wp2_with fail
  go_loopg [3, 8] ln (fun g x3 x8 wr => ∃ j : Nat, j ≤ ln ∧ j ≤ 30 ∧ g = ln - j ∧ x8 = .int .i64 j ∧ Hid (Own wr w.heap.size 49 2 x3 (rwR ((l.take j).map cutRw))) ∧ Hid (Below w.heap.size w wr))
  case atStart => exact ⟨0, Nat.zero_le _, Nat.zero_le _, rfl, rfl, Lib.hid (Own.nil _ _ _ _), Lib.hid (Below.refl _ _)⟩
  case round =>
    obtain ⟨j, hj, hj12, rfl, rfl, HO, HB⟩ := hrel
    by_cases hlt : j < ln
    · have hx : l[j]? = some (l[j]'(by rw [HNL.out]; exact hlt)) := List.getElem?_eq_getElem _
      generalize l[j]'(by rw [HNL.out]; exact hlt) = r at hx
      have hnx := cutRs_next hx
      obtain ⟨key, n⟩ := r
      obtain ⟨b, o, hA, c1, c2⟩ := rowAt (HR.out.below HB.out) hx
      subst hA
      simp only at c1 c2
      have hal : Below wr.heap.size wr (wr.alloc (.cells #[.string key, .int .i64 n] 49)) := (Below.refl _ _).alloc (Nat.le_refl _) _
      by_cases h12 : j < 30
      · by_cases hk : 20 < key.size
        · have HNX := Lib.hid (show rwR ((l.take (j + 1)).map cutRw) = rwR ((l.take j).map cutRw) ++ [enR (key.extract 0 20, n)] by rw [hnx, cutRw, cut20, if_pos hk])
          have hal2 : Below wr.heap.size wr (wr.alloc (.cells #[.string (key.extract 0 20), .int .i64 n] 49)) := (Below.refl _ _).alloc (Nat.le_refl _) _
          have HO1 := Lib.hid (HO.out.below hal2)
          have HB1 := Lib.hid (below_then HB.out hal2)
          clear hx hnx hal hal2
          go_wp2_with (at_builtin; (refine append1 w.heap.size 49 2 24 (.agg #[.string ⟨#[]⟩, .int .i64 0]) rfl (.tmp 23) (.tmp 25) 22 rfl Tryd.underlying22 (by kernel_rfl) rfl (by decide) (by decide) _ (rwR ((l.take j).map cutRw)) (enR (key.extract 0 20, n)) rfl _ rfl (by simp) rfl (enR_one _) HO1.out HB1.out.size (by rw [rwR_len]; simp; omega) ?_); intro v1 w1 hown1 hfr1; have HO2 := Lib.hid hown1; have HB2 := Lib.hid (HO1.out.fr_below HB1.out HB1.out.size hfr1); clear hown1 hfr1)
          go_roundg (ln - (j + 1))
          case measure => omega
          case rel => exact ⟨j + 1, by omega, by omega, rfl, rfl, Lib.hid (by rw [HNX.out]; exact HO2.out), HB2⟩
        · have HNX := Lib.hid (show rwR ((l.take (j + 1)).map cutRw) = rwR ((l.take j).map cutRw) ++ [enR (key, n)] by rw [hnx, cutRw, cut20, if_neg hk])
          have HO1 := Lib.hid (HO.out.below hal)
          have HB1 := Lib.hid (below_then HB.out hal)
          clear hx hnx hal
          go_wp2_with (at_builtin; (refine append1 w.heap.size 49 2 24 (.agg #[.string ⟨#[]⟩, .int .i64 0]) rfl (.tmp 23) (.tmp 25) 22 rfl Tryd.underlying22 (by kernel_rfl) rfl (by decide) (by decide) _ (rwR ((l.take j).map cutRw)) (enR (key, n)) rfl _ rfl (by simp) rfl (enR_one _) HO1.out HB1.out.size (by rw [rwR_len]; simp; omega) ?_); intro v1 w1 hown1 hfr1; have HO2 := Lib.hid hown1; have HB2 := Lib.hid (HO1.out.fr_below HB1.out HB1.out.size hfr1); clear hown1 hfr1)
          go_roundg (ln - (j + 1))
          case measure => omega
          case rel => exact ⟨j + 1, by omega, by omega, rfl, rfl, Lib.hid (by rw [HNX.out]; exact HO2.out), HB2⟩
      · have HO1 := Lib.hid (HO.out.below hal)
        have HB1 := Lib.hid (below_then HB.out hal)
        have HE := Lib.hid (cutRs_end (l := l) hj12 (.inr (by omega)))
        clear hx hnx hal
        go_wp2_with fail
        exact ⟨_, rfl, by rw [← HE.out]; exact HO1.out, HB1.out⟩
    · have HE := Lib.hid (cutRs_end (l := l) hj12 (.inl (by have := HNL.out; omega)))
      go_wp2_with fail
      exact ⟨_, rfl, by rw [← HE.out]; exact HO.out, HB.out⟩
end Go.Proofs.YticgnakjnhdfhaaDoor
end

section
set_option linter.unusedVariables false
set_option maxRecDepth 100000
namespace Go.Proofs.YticgnakjnhdfhaaDoor
open Go.Proofs.BL Go.Proofs.Peel Go.RowKit Go.Proofs.Ky

/-- The program's Run: the rows behind, what is told, the place, the error. -/
def runA : Nat → List Rw → List Opr → Except (Nat × Int) (List Rw × List Int) := fun i l os => runP tx Opr.key evO i l os
def runV (l : List Rw) (os : List Opr) : List Rw × List Int × Int × Int :=
  match runA 0 l os with
  | .ok (m, ts) => (m, ts, 0, 0)
  | .error (i, e) => (l, [], (i : Int), e)
theorem do_ok {o : Opr} {l : List Rw} (h : (doV o l).2.2 = []) : ∀ (i : Nat) (os : List Opr), runA i l (o :: os) = (runA (i + 1) (doV o l).1 os).map (fun x => (x.1, (doV o l).2.1 :: x.2)) := by
  intro i os
  unfold doV at *
  unfold runA
  simp only [runP]
  cases hev : evO o (get o.key l) with
  | error e => rw [hev] at h; simp at h
  | ok vt =>
    obtain ⟨v, t⟩ := vt
    cases v with
    | none => rfl
    | some n =>
      rw [hev] at h
      simp only at h ⊢
      unfold setC at *
      cases hs : setP tx o.key n l with
      | none => rw [hs] at h; simp at h
      | some m => rfl
theorem do_bad {o : Opr} {l : List Rw} (h : (doV o l).2.2 ≠ []) : ∃ e : Int, e ≠ 0 ∧ codeOf (doV o l).2.2 = e ∧ ∀ (i : Nat) (os : List Opr), runA i l (o :: os) = .error (i, e) := by
  unfold doV at *
  unfold runA
  simp only [runP]
  cases hev : evO o (get o.key l) with
  | error e =>
    have he : e ≠ 0 := by
      unfold evO at hev
      split at hev
      · rename_i h1; injection hev with hev; rw [← hev]; exact h1
      · cases hev
    exact ⟨e, he, rfl, fun i os => rfl⟩
  | ok vt =>
    obtain ⟨v, t⟩ := vt
    cases v with
    | none => rw [hev] at h; exact absurd rfl h
    | some n =>
      rw [hev] at h
      simp only at h ⊢
      unfold setC at *
      cases hs : setP tx o.key n l with
      | none => exact ⟨5, by decide, rfl, fun i os => rfl⟩
      | some m => rw [hs] at h; exact absurd rfl h
theorem fit_do {o : Opr} {l : List Rw} (h : Fit tx l) : Fit tx (doV o l).1 := by
  unfold doV
  split
  · exact h
  · rw [drop_with tx h.1]
    exact ⟨up_with_none tx h.1, Nat.le_trans (len_with_none tx h.1) h.2⟩
  · rename_i n t _
    unfold setC
    rw [set_with tx h.1 h.2]
    split
    · rename_i m hm
      split at hm
      · cases hm
      · injection hm with hm
        subst hm
        exact ⟨up_with_some tx n h.1, by show (withR tx o.key (some n) l).length ≤ 256; omega⟩
    · exact h
theorem w64_in64 (a : Int) : in64 (w64 a) := by unfold w64 in64; omega
theorem ev_in (b : Bool) (k n lo old : Int) (th : Bool) (hn : in64 n) (ho : in64 old) : in64 (evalV b k n lo old th).1 := by
  have h0 : in64 0 := by unfold in64; omega
  unfold evalV
  split
  · have ho2 : in64 (if th then old else 0) := by split <;> assumption
    generalize (if th then old else 0) = o at ho2
    simp only []
    repeat' split
    all_goals first | assumption | exact w64_in64 _ | (rename_i h1 _; exact Classical.byContradiction h1)
  · exact h0
theorem r64_with {l : List Rw} (h : R64 l) (k : ByteArray) (v : Option Int) (hv : ∀ n, v = some n → in64 n) : R64 (withR tx k v l) := by
  have go : ∀ (l : List Rw) (n : Int) (i : Bool), R64 l → (i = false → in64 n) → R64 (withGo tx k n i l) := by
    intro l
    induction l with
    | nil =>
      intro n i _ hi r hr
      cases i with
      | true => cases hr
      | false =>
        have : r = (k, n) := by simpa [withGo] using hr
        rw [this]; exact hi rfl
    | cons x l ih =>
      intro n i hl hi r hr
      have hx := hl x List.mem_cons_self
      have hl2 : R64 l := fun r hr => hl r (List.mem_cons_of_mem _ hr)
      simp only [withGo] at hr
      rcases List.mem_append.1 hr with hr | hr
      · rcases List.mem_append.1 hr with hr | hr
        · split at hr
          · rename_i hc
            have : r = (k, n) := by simpa using hr
            rw [this]
            apply hi
            cases i
            · rfl
            · simp at hc
          · cases hr
        · split at hr
          · cases hr
          · have : r = x := by simpa using hr
            rw [this]; exact hx
      · refine ih n _ hl2 (fun e => hi ?_) r hr
        cases i
        · rfl
        · simp at e
  cases v with
  | some n => exact go l n false h (fun _ => hv n rfl)
  | none => exact go l 0 true h (fun e => by cases e)
theorem r64_do {o : Opr} {l : List Rw} (hf : Fit tx l) (h : R64 l) (ho : in64 o.n) : R64 (doV o l).1 := by
  unfold doV
  cases hev : evO o (get o.key l) with
  | error e => exact h
  | ok vt =>
    obtain ⟨v, t⟩ := vt
    cases v with
    | none =>
      simp only []
      rw [drop_with tx hf.1]
      exact r64_with h _ none (fun n hn => by cases hn)
    | some n =>
      have hn : in64 n := by
        unfold evO at hev
        split at hev
        · cases hev
        · injection hev with hev
          injection hev with hev _
          split at hev
          · injection hev with hev
            rw [← hev]
            exact ev_in _ _ _ _ _ _ ho (get64 h _)
          · cases hev
      simp only []
      unfold setC
      rw [set_with tx hf.1 hf.2]
      split
      · rename_i m hm
        split at hm
        · cases hm
        · injection hm with hm
          subst hm
          exact r64_with h _ (some n) (fun k hk => by injection hk with hk; rw [← hk]; exact hn)
      · exact h
theorem runA_ok_go {l : List Rw} {os : List Opr} {j : Nat} {o : Opr} {l1 : List Rw} {ts : List Int} (hx : os[j]? = some o)
    (h : ∀ r, runA j l1 (os.drop j) = r → runA 0 l os = r.map (fun x => (x.1, ts ++ x.2))) (hd : (doV o l1).2.2 = []) :
    ∀ r, runA (j + 1) (doV o l1).1 (os.drop (j + 1)) = r → runA 0 l os = r.map (fun x => (x.1, (ts ++ [(doV o l1).2.1]) ++ x.2)) := by
  intro r hr
  have hj := (List.getElem?_eq_some_iff.1 hx).1
  have e : os[j] = o := (List.getElem?_eq_some_iff.1 hx).2
  have hdr : os.drop j = o :: os.drop (j + 1) := by rw [List.drop_eq_getElem_cons hj, e]
  rw [h _ rfl, hdr, do_ok hd, hr]
  cases r with
  | error x => rfl
  | ok x => simp [Except.map]
theorem runA_end {l : List Rw} {os : List Opr} {l1 : List Rw} {ts : List Int} (h : ∀ r, runA os.length l1 (os.drop os.length) = r → runA 0 l os = r.map (fun x => (x.1, ts ++ x.2))) : runV l os = (l1, ts, 0, 0) := by
  have := h _ rfl
  rw [List.drop_length] at this
  unfold runV
  rw [this]
  simp [runA, runP, Except.map]
theorem runA_bad {l : List Rw} {os : List Opr} {j : Nat} {o : Opr} {l1 : List Rw} {ts : List Int} (hx : os[j]? = some o)
    (h : ∀ r, runA j l1 (os.drop j) = r → runA 0 l os = r.map (fun x => (x.1, ts ++ x.2))) (hd : (doV o l1).2.2 ≠ []) : runV l os = (l, [], (j : Int), codeOf (doV o l1).2.2) := by
  have hj := (List.getElem?_eq_some_iff.1 hx).1
  have e : os[j] = o := (List.getElem?_eq_some_iff.1 hx).2
  obtain ⟨c, hc, hcc, hr⟩ := do_bad hd
  have := h _ rfl
  rw [List.drop_eq_getElem_cons hj, e, hr] at this
  unfold runV
  rw [this, hcc]
  rfl
theorem place_at (p : Int) (c : List Lk) : placeOf (.at_ p :: c) = p := rfl
theorem code_at (p : Int) (c : List Lk) : codeOf (.at_ p :: c) = codeOf c := rfl

def RunPost (p : Nat) (ls : List Part) (r : List Rw × List Int × Int × Int) (e : Ending) (w' : World) : Prop := ∃ v, e = .returned (.tuple #[v, .int .i64 r.2.2.1, .int .i64 r.2.2.2]) ∧ Sat (ownR v 2 1 (rwI r.2.1) :: ceP p r.1 :: errP :: ls) w'
set_option maxHeartbeats 8000000 in
theorem cRun (p : Nat) (l : List Rw) (A : Option Addr) (c : Nat) (os : List Opr) (ls : List Part) (w : World) (h : Sat (ceP p l :: errP :: roR 4 A (rwO os) :: ls) w) (hfit : Fit tx l) (h64 : R64 l) (ho : ∀ o ∈ os, in64 o.n) (hl : os.length ≤ 1000000) (hc : os.length ≤ c) :
    Calls Tryd.prog 13 #[.pointer (some ⟨p, 0, none⟩), .slice A os.length c] w (RunPost p (roR 4 A (rwO os) :: ls) (runV l os)) := by
  refine via fun Q hQ => ?_
  have HCp := Lib.hid (cCopy p l _ w h (by have := hfit.2; omega))
  have HFit := Lib.hid hfit
  have H64 := Lib.hid h64
  have HOs := Lib.hid ho
  have HV : Hid (∀ r, runA 0 l (os.drop 0) = r → runA 0 l os = r.map (fun x => (x.1, ([] : List Int) ++ x.2))) := Lib.hid (fun r hr => by rw [← hr]; simp [Except.map]; cases runA 0 l os <;> rfl)
  clear h hfit h64 ho
  generalize hn : os.length = n at *
  have HNL := Lib.hid hn
  clear hn
  go_enter Tryd.func13, Tryd.ntmps13
  go_wp2_with fail
  refine HCp.out.mono ?_
  rintro e w1 ⟨q, rfl, hS1⟩
  have HS1 := Lib.hid (hS1.nilR 2 1)
  clear hS1 HCp
  go_wp2_with fail
  go_loopg [8, 19] n (fun g x8 x19 wr => ∃ (j : Nat) (l1 : List Rw) (ts : List Int), j ≤ n ∧ g = n - j ∧ x19 = .int .i64 j ∧ ts.length = j ∧ Hid (Fit tx l1) ∧ Hid (R64 l1) ∧ Hid (∀ r, runA j l1 (os.drop j) = r → runA 0 l os = r.map (fun x => (x.1, ts ++ x.2))) ∧ Hid (Sat (ownR x8 2 1 (rwI ts) :: ceP q l1 :: ceP p l :: errP :: roR 4 A (rwO os) :: ls) wr))
  case atStart => exact ⟨0, l, [], Nat.zero_le _, rfl, rfl, rfl, HFit, H64, HV, HS1⟩
  case round =>
    obtain ⟨j, l1, ts, hj, rfl, rfl, htl, HF1, H641, HV1, HSr⟩ := hrel
    have HTL := Lib.hid htl
    clear htl
    by_cases hlt : j < n
    · have hx : os[j]? = some (os[j]'(by rw [HNL.out]; exact hlt)) := List.getElem?_eq_getElem _
      generalize os[j]'(by rw [HNL.out]; exact hlt) = r at hx
      have ho1 := HOs.out r (List.mem_of_getElem? hx)
      obtain ⟨b, o, hA, c1, c2, c3, c4⟩ := opAt HSr.out.s4.rows_ hx
      subst hA
      have hfd := fit_do (o := r) HF1.out
      have h6d := r64_do (o := r) HF1.out H641.out ho1
      have hal : Below wr.heap.size wr (wr.alloc (.cells #[.int .i64 r.kind, .string r.key, .int .i64 r.n, .int .i64 r.lo] 42)) := (Below.refl _ _).alloc (Nat.le_refl _) _
      have HDo := Lib.hid (cDo q l1 r _ _ (HSr.out.s1.below hal) HF1.out H641.out ho1)
      have hbad := @runA_bad l os j r l1 ts hx HV1.out
      have hgood := @runA_ok_go l os j r l1 ts hx HV1.out
      generalize doV r l1 = dv at HDo hfd h6d hbad hgood
      obtain ⟨l2, t2, ch⟩ := dv
      simp only at hfd h6d hbad hgood
      have HFd := Lib.hid hfd
      have H6d := Lib.hid h6d
      clear hfd h6d hx hal ho1
      obtain ⟨rk, rkey, rn, rlo⟩ := r
      simp only at c1 c2 c3 c4 HDo
      by_cases hch : ch = []
      · subst hch
        have HG := Lib.hid (hgood rfl)
        clear hbad hgood
        go_wp2_with fail
        refine HDo.out.mono ?_
        rintro e w2 ⟨v2, rfl, hc2, hS2⟩
        obtain rfl : v2 = .nilIface := hc2
        have HS2 := Lib.hid hS2
        have HAt := Lib.hid (fat (j : Int) .nilIface [] w2 rfl)
        clear hS2 HDo c1 c2 c3 c4
        go_wp2_with fail
        refine HAt.out.mono ?_
        rintro e w3 ⟨v3, rfl, hc3, hb3⟩
        obtain rfl : v3 = .nilIface := hc3
        have HS3 := Lib.hid (HS2.out.below hb3).s1
        clear hb3 HAt
        go_wp2_with (at_builtin; (refine satApp (W := w3) 2 1 8 (.int .i64 0) rfl (.tmp 39) (.tmp 41) 29 rfl Tryd.underlying29 (by kernel_rfl) rfl (by decide) (by decide) _ (rwI ts) [.int .i64 t2] rfl _ rfl rfl rfl (by simp [Value.oneCell']) HS3.out rfl (by rw [rwI_len, HTL.out]; omega) ?_); intro v4 w4 hS4; have HS4 := Lib.hid hS4; clear hS4)
        go_roundg (n - (j + 1))
        case measure => omega
        case rel => exact ⟨j + 1, l2, ts ++ [t2], by omega, rfl, rfl, by rw [List.length_append, HTL.out]; rfl, HFd, H6d, HG, Lib.hid (by have := HS4.out; rwa [show rwI ts ++ [[.int .i64 t2]] = rwI (ts ++ [t2]) from by simp [rwI]] at this)⟩
      · have HB := Lib.hid (hbad hch)
        clear hbad hgood
        go_wp2_with fail
        refine HDo.out.mono ?_
        rintro e w2 ⟨v2, rfl, hc2, hS2⟩
        have HS2 := Lib.hid hS2
        have HAt := Lib.hid (fat (j : Int) v2 ch w2 hc2)
        rw [if_neg hch] at HAt
        clear hS2 hc2 HDo c1 c2 c3 c4 hch
        go_wp2_with fail
        refine HAt.out.mono ?_
        rintro e w3 ⟨v3, rfl, hc3, hb3⟩
        have HS3 := Lib.hid (HS2.out.below hb3)
        obtain ⟨ki, bi, rfl⟩ := chn_iface hc3 (by simp)
        have HPl := Lib.hid (fplace _ _ w3 HS3.out.s3.err_ hc3)
        have HC3 := Lib.hid hc3
        clear hb3 hc3 HAt
        go_wp2_with fail
        refine HPl.out.mono ?_
        rintro e w4 ⟨rfl, hb4⟩
        have HS4 := Lib.hid (HS3.out.below hb4)
        have HCo := Lib.hid (fcode _ _ w4 HS4.out.s3.err_ (HC3.out.below hb4))
        clear hb4 HPl
        go_wp2_with fail
        refine HCo.out.mono ?_
        rintro e w5 ⟨rfl, hb5⟩
        have HS5 := Lib.hid (HS4.out.below hb5)
        clear hb5 HCo
        go_wp2_with fail
        go_ret3
        exact hQ _ _ ⟨.slice none 0 0, by rw [HB.out, place_at, code_at]; rfl, by rw [HB.out]; exact (HS5.out.drop.drop.nilR _ _)⟩
    · obtain rfl : j = n := by omega
      have HE := Lib.hid (@runA_end l os l1 ts (by rw [HNL.out]; exact HV1.out))
      obtain ⟨vq, hq⟩ := HSr.out.s1.openO
      obtain ⟨Aq, cq, hvq, _, _, _⟩ := hq.s1.own_.slv'
      rw [rwR_len] at hvq
      subst hvq
      obtain ⟨vp, hp⟩ := hq.s3.openO
      have c1 := hq.blk_.at_ 0 rfl
      have c2 := hp.blk_.at_ 0 rfl
      have f2 := hp.blk_.free 0
      have HS2 := Lib.hid ((hp.set 0 (.slice Aq l1.length cq)).s1.drop.s1.drop.shutO (T := 72)).s1
      clear hq hp
      go_wp2_with fail
      go_ret3
      exact hQ _ _ ⟨_, by rw [HE.out]; rfl, by rw [HE.out]; exact HS2.out⟩
end Go.Proofs.YticgnakjnhdfhaaDoor
end

section
set_option linter.unusedVariables false
set_option maxRecDepth 100000
namespace Go.Proofs.YticgnakjnhdfhaaDoor
open Go.Proofs.BL Go.Proofs.Peel Go.RowKit Go.Proofs.Ky

theorem newR_next (rows : List Rw) (l : List Rw) {j : Nat} {r : Rw} (h : rows[j]? = some r) : newR tx okK (rows.take (j + 1)) l = if okK r.1 = true ∧ (withR tx r.1 (some r.2) (newR tx okK (rows.take j) l)).length ≤ 256 then withR tx r.1 (some r.2) (newR tx okK (rows.take j) l) else newR tx okK (rows.take j) l := by
  have hj := (List.getElem?_eq_some_iff.1 h).1
  have e : rows[j] = r := (List.getElem?_eq_some_iff.1 h).2
  unfold newR
  rw [List.take_succ_eq_append_getElem hj, List.foldl_append, e]
  rfl
theorem fit_newR (rows l : List Rw) (h : Fit tx l) : Fit tx (newR tx okK rows l) := (new_same tx okK rows l h).2
theorem fit_with_len {l : List Rw} (h : Fit tx l) (k : ByteArray) (v : Option Int) : (withR tx k v l).length ≤ 257 := by
  have := len_with tx (k := k) v h.1
  have := h.2
  omega
set_option maxHeartbeats 4000000 in
theorem rnew (A : Option Addr) (c : Nat) (rows : List Rw) (w : World) (hr : RowsAt w 2 A (rwR rows)) (hl : rows.length ≤ 1000000) (hc : rows.length ≤ c) :
    Calls Tryd.prog 11 #[.slice A rows.length c] w (WithPost (newR tx okK rows []) w) := by
  refine via fun Q hQ => ?_
  have HR := Lib.hid hr
  clear hr
  generalize hn : rows.length = n at *
  have HNL := Lib.hid hn
  clear hn
  go_enter Tryd.func11, Tryd.ntmps11
  go_wp2_with fail
  go_loopg [3, 9] n (fun g x3 x9 wr => ∃ j : Nat, j ≤ n ∧ g = n - j ∧ x9 = .int .i64 j ∧ Hid (Own wr w.heap.size 49 2 x3 (rwR (newR tx okK (rows.take j) []))) ∧ Hid (Below w.heap.size w wr))
  case atStart => exact ⟨0, Nat.zero_le _, rfl, rfl, Lib.hid (Own.nil _ _ _ _), Lib.hid (Below.refl _ _)⟩
  case round =>
    obtain ⟨j, hj, rfl, rfl, HO, HB⟩ := hrel
    by_cases hlt : j < n
    · have hx : rows[j]? = some (rows[j]'(by rw [HNL.out]; exact hlt)) := List.getElem?_eq_getElem _
      generalize rows[j]'(by rw [HNL.out]; exact hlt) = r at hx
      have hnx := newR_next rows [] hx
      have hfit := fit_newR (rows.take j) [] fit_nil
      obtain ⟨key, nn⟩ := r
      obtain ⟨b, o, hA, c1, c2⟩ := rowAt (HR.out.below HB.out) hx
      subst hA
      simp only at c1 c2 hnx
      generalize newR tx okK (rows.take j) [] = l at HO hnx hfit
      have hal : Below wr.heap.size wr (wr.alloc (.cells #[.string key, .int .i64 nn] 49)) := (Below.refl _ _).alloc (Nat.le_refl _) _
      have hB1 := below_then HB.out hal
      have hO1 := HO.out.below hal
      obtain ⟨A3, c3, hv3, hc3, _, hr3⟩ := hO1.slv'
      rw [rwR_len] at hv3 hc3
      subst hv3
      have HW := Lib.hid (with_calls A3 c3 l key nn true _ hr3 (by have := hfit.2; omega) hc3)
      rw [withX_eq, if_pos rfl] at HW
      have hlen := fit_with_len hfit key (some nn)
      have HB1 := Lib.hid hB1
      have HO1 := Lib.hid hO1
      have HNX := Lib.hid hnx
      have hbk : Blk (wr.alloc (.cells #[.string key, .int .i64 nn] 49)) wr.heap.size _ _ := Blk.new _ _ _
      have HBk := Lib.hid hbk
      clear hbk hnx hB1 hO1 hr3 hal hx hfit
      generalize withR tx key (some nn) l = l2 at HW HNX hlen
      go_wp2_with fail
      refine HW.out.mono ?_
      rintro e w2 ⟨v2, rfl, ho2, hb2⟩
      have d0 := (HBk.out.below hb2).at_ 0 rfl
      have HB2 := Lib.hid (below_then HB1.out hb2)
      have HO12 := Lib.hid (HO1.out.below hb2)
      have ho3 : Own w2 w.heap.size 49 2 v2 (rwR l2) := ho2.lower HB1.out.size
      obtain ⟨A4, c4, hv4, hc4, _, _⟩ := ho3.slv'
      rw [rwR_len] at hv4 hc4
      subst hv4
      have HO3 := Lib.hid ho3
      clear ho2 hb2 ho3 HW c1 c2
      by_cases hk : key.size ≤ 16
      · have hk2 : (key.size : Int) ≤ 16 := by omega
        by_cases h256 : l2.length ≤ 256
        · have HN2 := Lib.hid (HNX.out.trans (if_pos ⟨decide_eq_true hk, h256⟩))
          go_wp2_with fail
          go_roundg (n - (j + 1))
          case measure => omega
          case rel => exact ⟨j + 1, by omega, rfl, rfl, Lib.hid (by rw [HN2.out]; exact HO3.out), HB2⟩
        · have HN2 := Lib.hid (HNX.out.trans (if_neg (fun e => h256 e.2)))
          go_wp2_with fail
          go_roundg (n - (j + 1))
          case measure => omega
          case rel => exact ⟨j + 1, by omega, rfl, rfl, Lib.hid (by rw [HN2.out]; exact HO12.out), HB2⟩
      · have hk2 : ¬ (key.size : Int) ≤ 16 := by omega
        have hk3 : decide ((key.size : Int) ≤ 16) = false := decide_eq_false hk2
        have HN2 := Lib.hid (HNX.out.trans (if_neg (fun e => hk (of_decide_eq_true e.1))))
        go_wp2_with fail
        go_roundg (n - (j + 1))
        case measure => omega
        case rel => exact ⟨j + 1, by omega, rfl, rfl, Lib.hid (by rw [HN2.out]; exact HO12.out), HB2⟩
    · obtain rfl : j = n := by omega
      have hO := HO.out
      rw [List.take_of_length_le (by rw [HNL.out]; exact Nat.le_refl _)] at hO
      have HO2 := Lib.hid hO
      clear hO
      go_wp2
      exact ⟨_, rfl, HO2.out, HB.out⟩
end Go.Proofs.YticgnakjnhdfhaaDoor
end

section
set_option linter.unusedVariables false
set_option maxRecDepth 100000
namespace Go.Proofs.YticgnakjnhdfhaaDoor
open Go.Proofs.BL Go.Proofs.Peel Go.RowKit Go.Proofs.Ky

def runB : Nat → List Rw → List Opr → Except (Nat × Int) (List Rw × List Int) := fun i l os => runR tx Opr.key evO i l os
theorem runB_A {l : List Rw} (h : Fit tx l) (os : List Opr) : runB 0 l os = runA 0 l os := (run_same tx Opr.key evO os 0 l h).symm
/-- One step of the document's. -/
def stB (o : Opr) (l : List Rw) : List Rw × Int × Int :=
  match evO o (get o.key l) with
  | .error e => (l, 0, e)
  | .ok (v, t) => if 256 < (withR tx o.key v l).length then (l, 0, 5) else (withR tx o.key v l, t, 0)
theorem stB_ok {o : Opr} {l : List Rw} (h : (stB o l).2.2 = 0) (i : Nat) (os : List Opr) : runB i l (o :: os) = (runB (i + 1) (stB o l).1 os).map (fun x => (x.1, (stB o l).2.1 :: x.2)) := by
  unfold stB at *
  unfold runB
  simp only [runR]
  cases hev : evO o (get o.key l) with
  | error e =>
    rw [hev] at h
    have he : e ≠ 0 := by
      unfold evO at hev
      split at hev
      · rename_i h1; injection hev with hev; rw [← hev]; exact h1
      · cases hev
    exact absurd h he
  | ok vt =>
    obtain ⟨v, t⟩ := vt
    rw [hev] at h
    simp only at h ⊢
    by_cases hn : 256 < (withR tx o.key v l).length
    · rw [if_pos hn] at h; exact absurd (show (5 : Int) = 0 from h) (by decide)
    · rw [if_neg hn, if_neg hn]
theorem stB_bad {o : Opr} {l : List Rw} (h : (stB o l).2.2 ≠ 0) (i : Nat) (os : List Opr) : runB i l (o :: os) = .error (i, (stB o l).2.2) := by
  unfold stB at *
  unfold runB
  simp only [runR]
  cases hev : evO o (get o.key l) with
  | error e => rfl
  | ok vt =>
    obtain ⟨v, t⟩ := vt
    rw [hev] at h
    simp only at h ⊢
    by_cases hn : 256 < (withR tx o.key v l).length
    · rw [if_pos hn, if_pos hn]
    · rw [if_neg hn] at h; exact absurd rfl h
theorem fit_stB {o : Opr} {l : List Rw} (h : Fit tx l) : Fit tx (stB o l).1 := by
  unfold stB
  split
  · exact h
  · rename_i v t _
    split
    · exact h
    · refine ⟨?_, by show (withR tx o.key v l).length ≤ 256; omega⟩
      cases v with
      | none => exact up_with_none tx h.1
      | some n => exact up_with_some tx n h.1
theorem r64_stB {o : Opr} {l : List Rw} (h : R64 l) (ho : in64 o.n) : R64 (stB o l).1 := by
  unfold stB
  cases hev : evO o (get o.key l) with
  | error e => exact h
  | ok vt =>
    obtain ⟨v, t⟩ := vt
    simp only []
    split
    · exact h
    · refine r64_with h _ v (fun n hn => ?_)
      subst hn
      unfold evO at hev
      split at hev
      · cases hev
      · injection hev with hev
        injection hev with hev _
        split at hev
        · injection hev with hev
          rw [← hev]
          exact ev_in _ _ _ _ _ _ ho (get64 h _)
        · cases hev
theorem runB_ok_go {l : List Rw} {os : List Opr} {j : Nat} {o : Opr} {l1 : List Rw} {ts : List Int} (hx : os[j]? = some o)
    (h : ∀ r, runB j l1 (os.drop j) = r → runB 0 l os = r.map (fun x => (x.1, ts ++ x.2))) (hd : (stB o l1).2.2 = 0) :
    ∀ r, runB (j + 1) (stB o l1).1 (os.drop (j + 1)) = r → runB 0 l os = r.map (fun x => (x.1, (ts ++ [(stB o l1).2.1]) ++ x.2)) := by
  intro r hr
  have hj := (List.getElem?_eq_some_iff.1 hx).1
  have e : os[j] = o := (List.getElem?_eq_some_iff.1 hx).2
  have hdr : os.drop j = o :: os.drop (j + 1) := by rw [List.drop_eq_getElem_cons hj, e]
  rw [h _ rfl, hdr, stB_ok hd, hr]
  cases r with
  | error x => rfl
  | ok x => simp [Except.map]
def runW (l : List Rw) (os : List Opr) : List Rw × List Int × Int × Int :=
  match runB 0 l os with
  | .ok (m, ts) => (m, ts, 0, 0)
  | .error (i, e) => (l, [], (i : Int), e)
theorem runW_V {l : List Rw} (h : Fit tx l) (os : List Opr) : runW l os = runV l os := by unfold runW runV; rw [runB_A h]; try rfl
theorem runB_end {l : List Rw} {os : List Opr} {l1 : List Rw} {ts : List Int} (h : ∀ r, runB os.length l1 (os.drop os.length) = r → runB 0 l os = r.map (fun x => (x.1, ts ++ x.2))) : runW l os = (l1, ts, 0, 0) := by
  have := h _ rfl
  rw [List.drop_length] at this
  unfold runW
  rw [this]
  simp [runB, runR, Except.map]
theorem runB_bad {l : List Rw} {os : List Opr} {j : Nat} {o : Opr} {l1 : List Rw} {ts : List Int} (hx : os[j]? = some o)
    (h : ∀ r, runB j l1 (os.drop j) = r → runB 0 l os = r.map (fun x => (x.1, ts ++ x.2))) (hd : (stB o l1).2.2 ≠ 0) : runW l os = (l, [], (j : Int), (stB o l1).2.2) := by
  have hj := (List.getElem?_eq_some_iff.1 hx).1
  have e : os[j] = o := (List.getElem?_eq_some_iff.1 hx).2
  have := h _ rfl
  rw [List.drop_eq_getElem_cons hj, e, stB_bad hd] at this
  unfold runW
  rw [this]
  rfl
theorem stB_ev {o : Opr} {l : List Rw} : stB o l = if (evR o (get o.key l)).2.2.2 ≠ 0 then (l, 0, (evR o (get o.key l)).2.2.2) else
    if 256 < (withR tx o.key (if (evR o (get o.key l)).2.1 then some (evR o (get o.key l)).1 else none) l).length then (l, 0, 5) else (withR tx o.key (if (evR o (get o.key l)).2.1 then some (evR o (get o.key l)).1 else none) l, (evR o (get o.key l)).2.2.1, 0) := by
  unfold stB evO
  generalize evR o (get o.key l) = r
  obtain ⟨r1, r2, r3, r4⟩ := r
  simp only []
  by_cases h : r4 = 0
  · subst h; rfl
  · rw [if_pos h, if_pos h]
def RRunPost (ls : List Part) (r : List Rw × List Int × Int × Int) (e : Ending) (w' : World) : Prop :=
  ∃ v A' c', e = .returned (.tuple #[.slice A' r.1.length c', v, .int .i64 r.2.2.1, .int .i64 r.2.2.2]) ∧ r.1.length ≤ c' ∧ Sat (ownR v 2 1 (rwI r.2.1) :: roR 2 A' (rwR r.1) :: ls) w'
theorem results_tmp4 {fn : Func} {t u v x : Tmp} (h : fn.results = #[.tmp t, .tmp u, .tmp v, .tmp x]) (tmps : Array Value) (P : Program) (w : World) :
    (results fn tmps).run P w = .ok (.tuple #[tmps.getD t undef, tmps.getD u undef, tmps.getD v undef, tmps.getD x undef]) w := by
  simp [results, h]
set_option maxHeartbeats 8000000 in
theorem rRun (A B : Option Addr) (c d : Nat) (l : List Rw) (os : List Opr) (ls : List Part) (w : World) (h : Sat (roR 2 A (rwR l) :: roR 4 B (rwO os) :: ls) w) (hfit : Fit tx l) (h64 : R64 l) (ho : ∀ o ∈ os, in64 o.n) (hl : os.length ≤ 1000000) (hd : os.length ≤ d) (hc : l.length ≤ c) :
    Calls Tryd.prog 14 #[.slice A l.length c, .slice B os.length d] w (RRunPost (roR 2 A (rwR l) :: roR 4 B (rwO os) :: ls) (runW l os)) := by
  refine via fun Q hQ => ?_
  have HFit := Lib.hid hfit
  have H64 := Lib.hid h64
  have HOs := Lib.hid ho
  have HS := Lib.hid (h.two.nilR 2 1)
  have HV : Hid (∀ r, runB 0 l (os.drop 0) = r → runB 0 l os = r.map (fun x => (x.1, ([] : List Int) ++ x.2))) := Lib.hid (fun r hr => by rw [← hr]; simp [Except.map]; cases runB 0 l os <;> rfl)
  have HCl := Lib.hid hc
  clear h hfit h64 ho hc
  generalize hn : os.length = n at *
  have HNL := Lib.hid hn
  clear hn
  go_enter Tryd.func14, Tryd.ntmps14
  go_wp2_with fail
  go_loopg [8, 9, 21] n (fun g x8 x9 x21 wr => ∃ (j : Nat) (l1 : List Rw) (ts : List Int) (A1 : Option Addr) (c1 : Nat), j ≤ n ∧ g = n - j ∧ x21 = .int .i64 j ∧ x8 = .slice A1 l1.length c1 ∧ Hid (l1.length ≤ c1) ∧ Hid (ts.length = j) ∧ Hid (Fit tx l1) ∧ Hid (R64 l1) ∧ Hid (∀ r, runB j l1 (os.drop j) = r → runB 0 l os = r.map (fun x => (x.1, ts ++ x.2))) ∧ Hid (Sat (ownR x9 2 1 (rwI ts) :: roR 2 A1 (rwR l1) :: roR 2 A (rwR l) :: roR 4 B (rwO os) :: ls) wr))
  case atStart => exact ⟨0, l, [], A, c, Nat.zero_le _, rfl, rfl, rfl, HCl, Lib.hid rfl, HFit, H64, HV, HS⟩
  case round =>
    obtain ⟨j, l1, ts, A1, c1, hj, rfl, rfl, rfl, HC1, HTL, HF1, H641, HV1, HSr⟩ := hrel
    by_cases hlt : j < n
    · have hx : os[j]? = some (os[j]'(by rw [HNL.out]; exact hlt)) := List.getElem?_eq_getElem _
      generalize os[j]'(by rw [HNL.out]; exact hlt) = r at hx
      have ho1 := HOs.out r (List.mem_of_getElem? hx)
      obtain ⟨b, o, hA, e1, e2, e3, e4⟩ := opAt HSr.out.s3.rows_ hx
      subst hA
      have HFd := Lib.hid (fit_stB (o := r) HF1.out)
      have H6d := Lib.hid (r64_stB (o := r) H641.out ho1)
      have HBad := Lib.hid (@runB_bad l os j r l1 ts hx HV1.out)
      have HGood := Lib.hid (@runB_ok_go l os j r l1 ts hx HV1.out)
      have hal : Below wr.heap.size wr (wr.alloc (.cells #[.int .i64 r.kind, .string r.key, .int .i64 r.n, .int .i64 r.lo] 42)) := (Below.refl _ _).alloc (Nat.le_refl _) _
      have hb0 : Blk (wr.alloc (.cells #[.int .i64 r.kind, .string r.key, .int .i64 r.n, .int .i64 r.lo] 42)) wr.heap.size _ _ := Blk.new _ _ _
      have hS1 := HSr.out.below hal
      have HGt := Lib.hid (rget A1 c1 l1 r.key _ hS1.s1.rows_ (by have := HF1.out.2; omega) HC1.out)
      have hev := reval_some r.kind r.key r.n r.lo ((get r.key l1).getD 0) (get r.key l1).isSome 40 (by omega) ho1 (get64 H641.out r.key)
      have hst : stB r l1 = if (evR r (get r.key l1)).2.2.2 ≠ 0 then (l1, 0, (evR r (get r.key l1)).2.2.2) else
        if 256 < (withR tx r.key (if (evR r (get r.key l1)).2.1 then some (evR r (get r.key l1)).1 else none) l1).length then (l1, 0, 5) else (withR tx r.key (if (evR r (get r.key l1)).2.1 then some (evR r (get r.key l1)).1 else none) l1, (evR r (get r.key l1)).2.2.1, 0) := stB_ev
      have hee : evalV (mayB r.kind r.key r.n r.lo) r.kind r.n r.lo ((get r.key l1).getD 0) (get r.key l1).isSome = evR r (get r.key l1) := rfl
      rw [hee] at hev
      obtain ⟨rk, key, rn, rlo⟩ := r
      simp only at e1 e2 e3 e4 hst hev HGt hS1 hb0 hal
      generalize evR ⟨rk, key, rn, rlo⟩ (get key l1) = rr at hev hst
      obtain ⟨r1, r2, r3, r4⟩ := rr
      simp only at hst
      generalize get key l1 = g at HGt hev
      have HEv := Lib.hid hev
      have HSt := Lib.hid hst
      have HB0 := Lib.hid hb0
      have HS1 := Lib.hid hS1
      have HX := Lib.hid hx
      have hlw := fit_with_len HF1.out key (if r2 = true then some r1 else none)
      have HLw := Lib.hid hlw
      clear hev hst hb0 hS1 hx hee hal ho1 hlw
      go_wp2_with fail
      refine HGt.out.mono ?_
      rintro e w2 ⟨rfl, hb2⟩
      have HB2 := Lib.hid (HB0.out.below hb2)
      have HS2 := Lib.hid (HS1.out.below hb2)
      have d0 := HB2.out.at_ 0 rfl
      have d1 := HB2.out.at_ 1 rfl
      have d2 := HB2.out.at_ 2 rfl
      have d3 := HB2.out.at_ 3 rfl
      clear hb2 HGt e1 e2 e3 e4
      go_wp2_with fail
      refine (G.byroadref06_Eval.calls 40 rk key rn rlo (g.getD 0) g.isSome r1 r2 r3 r4 w2 HEv.out).mono ?_
      rintro e w3 ⟨rfl, hb3⟩
      have HB3 := Lib.hid (HB2.out.below hb3)
      have HS3 := Lib.hid (HS2.out.below hb3)
      clear hb3 d0 d1 d2 d3
      have d1 := HB3.out.at_ 1 rfl
      by_cases hr4 : r4 = 0
      · subst hr4
        have hs2 := HSt.out
        rw [if_neg (by simp)] at hs2
        have hWi := with_calls A1 c1 l1 key r1 r2 w3 HS3.out.s1.rows_ (by have := HF1.out.2; omega) HC1.out
        rw [withX_eq] at hWi
        generalize withR tx key (if r2 = true then some r1 else none) l1 = l2 at hWi hs2 HLw
        have HWi := Lib.hid hWi
        have HS2' := Lib.hid hs2
        clear hWi hs2
        go_wp2_with fail
        refine HWi.out.mono ?_
        rintro e w4 ⟨v4, rfl, ho4, hb4⟩
        have hS4 := (HS3.out.made hb4 ho4)
        obtain ⟨A4, c4, hv4, hc4, _, hS4b⟩ := hS4.still
        rw [rwR_len] at hv4 hc4
        subst hv4
        have HS4 := Lib.hid hS4b
        have HC4 := Lib.hid hc4
        clear hb4 ho4 hS4 hS4b HWi hc4
        have hl2 := HLw.out
        by_cases h256 : 256 < l2.length
        · have HE := Lib.hid (HS2'.out.trans (if_pos h256))
          go_wp2_with fail
          refine bodyPost_ret (results_tmp4 rfl _ _ _) rfl ?_
          have hB := HBad.out (by rw [HE.out]; exact (by decide : (5 : Int) ≠ 0))
          rw [HE.out] at hB
          exact hQ _ _ ⟨_, A, c, by rw [hB]; rfl, by rw [hB]; exact HCl.out, by rw [hB]; exact (HS4.out.drop.drop.drop.two.nilR _ _)⟩
        · have HE := Lib.hid (HS2'.out.trans (if_neg h256))
          have hG := HGood.out (by rw [HE.out])
          rw [HE.out] at hG
          have HG := Lib.hid hG
          have hfd := HFd.out
          rw [HE.out] at hfd
          have HFd2 := Lib.hid hfd
          have h6d := H6d.out
          rw [HE.out] at h6d
          have H6d2 := Lib.hid h6d
          have HS5 := Lib.hid (HS4.out.s1)
          clear hG hfd h6d
          go_wp2_with (at_builtin; (refine satApp (W := w4) 2 1 8 (.int .i64 0) rfl (.tmp 59) (.tmp 61) 29 rfl Tryd.underlying29 (by kernel_rfl) rfl (by decide) (by decide) _ (rwI ts) [.int .i64 r3] rfl _ rfl rfl rfl (by simp [Value.oneCell']) HS5.out rfl (by rw [rwI_len, HTL.out]; omega) ?_); intro v6 w6 hS6; have HS6 := Lib.hid hS6; clear hS6)
          go_roundg (n - (j + 1))
          case measure => omega
          case rel => exact ⟨j + 1, l2, ts ++ [r3], A4, c4, by omega, rfl, rfl, rfl, HC4, Lib.hid (by rw [List.length_append, HTL.out]; rfl), HFd2, H6d2, HG, Lib.hid (by have h9 := HS6.out; rw [show rwI ts ++ [[.int .i64 r3]] = rwI (ts ++ [r3]) from by simp [rwI]] at h9; exact h9.s2.drop)⟩
      · have hs2 := HSt.out
        rw [if_pos hr4] at hs2
        have hB := HBad.out (by rw [hs2]; exact hr4)
        rw [hs2] at hB
        have HB := Lib.hid hB
        have hr4b : (r4 != 0) = true := bne_iff_ne.2 hr4
        clear hs2 hB hr4
        go_wp2_with fail
        refine bodyPost_ret (results_tmp4 rfl _ _ _) rfl ?_
        exact hQ _ _ ⟨_, A, c, by rw [HB.out]; rfl, by rw [HB.out]; exact HCl.out, by rw [HB.out]; exact (HS3.out.drop.drop.two.nilR _ _)⟩
    · obtain rfl : j = n := by omega
      have HE := Lib.hid (@runB_end l os l1 ts (by rw [HNL.out]; exact HV1.out))
      go_wp2_with fail
      refine bodyPost_ret (results_tmp4 rfl _ _ _) rfl ?_
      exact hQ _ _ ⟨_, A1, c1, by rw [HE.out]; rfl, by rw [HE.out]; exact HC1.out, by rw [HE.out]; exact HSr.out⟩
end Go.Proofs.YticgnakjnhdfhaaDoor
end
