/- slices.Clone at rows. DERIVED: THE SHELF's CONTRACTS AT THIS DUMP, IN PLAIN WORDS (tools/lay-plain.mjs out of 'TryzShelf.lean', which tools/lay-shelf.mjs wrote): THE SAME DECLARATIONS UNDER THE SAME NAMES: 'import', 'namespace', 'open', 'def', 'theorem' AND NOTHING ELSE: no command of the shelf's: FOR A HAND-IN. Each laying: the table of numbers ('.._ren') and one theorem, a field a fact of the dump's own or the kernel's comparison; each contract: ONE APPLICATION. Rows by rising keys: where a key stands, what With, Get, set and drop do. Plain, over any strict total order of keys. The order of texts, byte by byte, is a strict total order (the model's: Op.bytesLess x y = decide (x < y), the kit's bytesLess_eq of Derived.Sort.Walk0). Plain. -/
import Derived.Test.YtlekfpeonehggaaGreatDoorJ13
import Derived.Test.YtlekfpeonehggaaGreatDoorJ09
import Derived.Shelf.Small.Strs
import Derived.Test.YtlekfpeonehggaaGreatDoorProg
section
set_option linter.unusedVariables false
set_option maxRecDepth 100000
namespace Go.Proofs.YtlekfpeonehggaaGreatDoor
open Go.Proofs.BL Go.Proofs.Peel Go.RowKit
/-- slices.Clone of a row of one's own: a new row. -/
def ClRPost (rows : List (List Value)) (w : World) (e : Ending) (w' : World) : Prop := ∃ v', e = .returned v' ∧ Own w' w.heap.size 29 2 v' rows ∧ Below w.heap.size w w'
set_option maxHeartbeats 1000000 in
theorem clR_ro (A : Option Addr) (c : Nat) (rows : List (List Value)) (w : World) (hc : rows.length ≤ c) (hA : A = none → c = 0) (hr : RowsAt w 2 A rows) (hf : ∀ a, A = some a → a.spot = none) (hs : ∀ r ∈ rows, r.length = 2) (h1 : ∀ r ∈ rows, ∀ u ∈ r, u.oneCell' = true) (hbig : rows.length * 24 ≤ 140737488355328) :
    Calls Tryz.prog 52 #[.slice A rows.length c] w (ClRPost rows w) := by
  cases A with
  | none =>
    obtain rfl := hA rfl
    obtain rfl := List.eq_nil_of_length_eq_zero (show rows.length = 0 by omega)
    clear hr hs h1 hbig hf
    have hne := fun W (a : Option Addr) n c => Lib.run_eql_slice_nil (P := Tryz.prog) W 27 29 a n c 0 0 Tryz.underlying27
    refine via fun Q hQ => ?_
    go_enter Tryz.func52, Tryz.ntmps52
    go_wp2
    exact ⟨_, rfl, Own.nil _ _ _ _, Below.refl _ _⟩
  | some ad =>
    obtain ⟨b, o, fl⟩ := ad
    obtain rfl : fl = none := hf _ rfl
    have hal : Below w.heap.size w (w.alloc (.cells #[] 29)) := (Below.refl _ _).alloc (Nat.le_refl _) _
    have HRr := Lib.hid (hr.below hal)
    have HO2 := Lib.hid (Own.lit w 29 2 0 [] #[] w.heap.size (Nat.le_refl _) rfl (Nat.zero_le _) rfl (fun r h => by cases h) (by simp))
    have H5 := Lib.hid hs
    have H1 := Lib.hid h1
    have hb1 : w.heap.size ≤ (w.alloc (.cells #[] 29)).heap.size := hal.size
    have HBs := Lib.hid hb1
    have HA := Lib.hid hal
    have HBig := Lib.hid (show (([] : List (List Value)).length + rows.length) * 24 ≤ 140737488355328 from by simpa using hbig)
    have Hsn := Lib.hid (show (some ⟨b, o, none⟩ : Option Addr) = none → c = 0 from fun h => by cases h)
    have HInfo := Lib.hid (show (Tryz.prog.info? 29).map (fun i => (i.zero, i.size, i.bytes)) = some (some (.agg #[.string ByteArray.empty, .int .i64 0] : Value), 2, 24) from by kernel_rfl)
    have HZc := Lib.hid (show ((.agg #[.string ByteArray.empty, .int .i64 0] : Value)).cells.size = 2 from by kernel_rfl)
    clear hr h1 hal hbig hb1 hs hA hf
    have hne := fun W (a : Option Addr) n c => Lib.run_eql_slice_nil (P := Tryz.prog) W 27 29 a n c 0 0 Tryz.underlying27
    refine via fun Q hQ => ?_
    go_enter Tryz.func52, Tryz.ntmps52
    go_wp2_with (at_builtin; go_loud (refine appendNL (W := w.alloc (.cells #[] 29)) w.heap.size 29 2 24 (.agg #[.string ByteArray.empty, .int .i64 0] : Value) rfl (.tmp 5) (.tmp 6) 27 rfl Tryz.underlying27 HInfo.out HZc.out (by decide) (by decide) (.slice (some ⟨w.heap.size, 0, none⟩) 0 0) [] rows rfl (some ⟨b, o, none⟩) rows.length c rfl rfl Hsn.out HRr.out H5.out H1.out HO2.out HBs.out HBig.out ?_); intro v1 w1 ho1 hf1 hl1)
    have hbf : Below w.heap.size w w1 := ((Fr.of_below (S := none_) HA.out).trans hf1 (fun i hi h => by
      simp only [Value.ownBlock, Option.some.injEq] at h
      omega)).below
    have HO1 := Lib.hid ho1
    have HB1 := Lib.hid hbf
    clear ho1 hf1 hl1 hbf
    exact ⟨v1, rfl, HO1.out, HB1.out⟩

end Go.Proofs.YtlekfpeonehggaaGreatDoor
end

section
namespace Go.Proofs
open Go.Shelf
def Tryz.lays213_ren : Go.Shelf.Ren := ⟨fun | 213 => 80 | 265 => 89 | n => n, fun | 9 => 9 | 3 => 3 | n => n, fun | n => n⟩
theorem Tryz.lays213 : Go.Proofs.Lays.n213 Tryz.prog Tryz.lays213_ren := {
  mixed := by kernel_rfl
  f213 := Tryz.func80.trans (congrArg some (by kernel_rfl))
  f265 := Tryz.func89.trans (congrArg some (by kernel_rfl))
  t3 := Tryz.underlying3
  a3 := Tryz.isAgg3
  z3 := Tryz.sizeOf3
  v3 := Tryz.zeroValue3
  t9 := Tryz.underlying9
  a9 := Tryz.isAgg9
  z9 := Tryz.sizeOf9
  v9 := Tryz.zeroValue9 }
open Go.RowKit in
/-- internal/bytealg.CompareString (what strings.Compare calls): IT RETURNS 'Lib.compareBytes a b'; the world is as it was. (LAID: no walk: one application.) -/
theorem Tryz.bytealg_CompareString (a b : ByteArray) (w : World) :
    Calls Tryz.prog 80 #[.string a, .string b] w fun e w' => e = .returned (.int .i64 (Lib.compareBytes a.data.toList b.data.toList)) ∧ w' = w := Any.bytealg_CompareString Tryz.lays213 a b w
def Tryz.lays106_ren : Go.Shelf.Ren := ⟨fun | 106 => 72 | 213 => 80 | 265 => 89 | n => n, fun | 9 => 9 | 3 => 3 | n => n, fun | n => n⟩
theorem Tryz.lays106 : Go.Proofs.Lays.n106 Tryz.prog Tryz.lays106_ren := {
  mixed := by kernel_rfl
  f106 := Tryz.func72.trans (congrArg some (by kernel_rfl))
  f213 := Tryz.func80.trans (congrArg some (by kernel_rfl))
  f265 := Tryz.func89.trans (congrArg some (by kernel_rfl))
  t3 := Tryz.underlying3
  a3 := Tryz.isAgg3
  z3 := Tryz.sizeOf3
  v3 := Tryz.zeroValue3
  t9 := Tryz.underlying9
  a9 := Tryz.isAgg9
  z9 := Tryz.sizeOf9
  v9 := Tryz.zeroValue9 }
open Go.RowKit in
/-- strings.Compare: "Compare returns an integer comparing two strings lexicographically. The result will be 0 if a == b, -1 if a < b, and +1 if a > b.": IT RETURNS 'Lib.compareBytes a b'; the world is as it was. (LAID: no walk: one application.) -/
theorem Tryz.strings_Compare (a b : ByteArray) (w : World) :
    Calls Tryz.prog 72 #[.string a, .string b] w fun e w' => e = .returned (.int .i64 (Lib.compareBytes a.data.toList b.data.toList)) ∧ w' = w := Any.strings_Compare Tryz.lays106 a b w
end Go.Proofs
end

section
namespace Go.Proofs.Ky
set_option linter.unusedVariables false
set_option linter.unusedSectionVars false
set_option linter.unusedSimpArgs false
structure Ord (K : Type) where
  lt : K → K → Bool
  irr : ∀ a, lt a a = false
  tr : ∀ a b c, lt a b = true → lt b c = true → lt a c = true
  tot : ∀ a b, lt a b = false → lt b a = false → a = b
variable {K : Type} [DecidableEq K] (O : Ord K)
abbrev Row (K : Type) := K × Int
theorem Ord.asym {a b : K} (h : O.lt a b = true) : O.lt b a = false := by
  cases e : O.lt b a with
  | false => rfl
  | true => have := O.tr _ _ _ h e; rw [O.irr] at this; cases this
theorem Ord.ne {a b : K} (h : O.lt a b = true) : a ≠ b := by rintro rfl; rw [O.irr] at h; cases h
def Up (l : List (Row K)) : Prop := l.Pairwise (fun a b => O.lt a.1 b.1 = true)
/-- How many stand below a key. -/
def low (k : K) (l : List (Row K)) : Nat := l.countP (fun r => O.lt r.1 k)
def get (k : K) (l : List (Row K)) : Option Int := (l.find? (fun r => r.1 == k)).map (·.2)
/-- The document's With: in: it stands already. -/
def withGo (k : K) (n : Int) : Bool → List (Row K) → List (Row K)
  | i, [] => if i then [] else [(k, n)]
  | i, r :: t =>
    let here := !i && !(O.lt r.1 k)
    let rest := withGo k n (i || here) t
    (if here then [(k, n)] else []) ++ (if r.1 = k then [] else [r]) ++ rest
def withR (k : K) (v : Option Int) (l : List (Row K)) : List (Row K) := match v with | some n => withGo O k n false l | none => withGo O k 0 true l
theorem low_le (k : K) (l : List (Row K)) : low O k l ≤ l.length := List.countP_le_length
theorem low_cons (k : K) (r : Row K) (l : List (Row K)) : low O k (r :: l) = low O k l + if O.lt r.1 k = true then 1 else 0 := by
  unfold low
  rw [List.countP_cons]
theorem low_zero {k : K} {r : Row K} {l : List (Row K)} (h : Up O (r :: l)) (hr : O.lt r.1 k = false) : low O k (r :: l) = 0 := by
  unfold low
  rw [List.countP_eq_zero]
  intro x hx
  rcases List.mem_cons.1 hx with rfl | hx
  · simp [hr]
  · have := (List.pairwise_cons.1 h).1 x hx
    cases e : O.lt x.1 k with
    | false => simp
    | true => have := O.tr _ _ _ this e; rw [hr] at this; cases this
theorem low_succ {k : K} {r : Row K} {l : List (Row K)} (hr : O.lt r.1 k = true) : low O k (r :: l) = low O k l + 1 := by rw [low_cons, if_pos hr]
/-- Of rising ones those below a key are the first. -/
theorem low_lt {k : K} : ∀ {l : List (Row K)}, Up O l → ∀ {i : Nat} {r : Row K}, l[i]? = some r → (O.lt r.1 k = true ↔ i < low O k l)
  | [], _, i, r, h => by simp at h
  | x :: l, hu, i, r, hi => by
    cases hx : O.lt x.1 k with
    | false =>
      rw [low_zero O hu hx]
      constructor
      · intro hr
        exfalso
        cases i with
        | zero => simp at hi; subst hi; rw [hx] at hr; cases hr
        | succ i =>
          have := (List.pairwise_cons.1 hu).1 r (List.mem_of_getElem? (by simpa using hi))
          have := O.tr _ _ _ this hr
          rw [hx] at this
          cases this
      · intro h; omega
    | true =>
      rw [low_succ O hx]
      cases i with
      | zero => simp at hi; subst hi; simp [hx]
      | succ i =>
        have := low_lt (List.pairwise_cons.1 hu).2 (k := k) (i := i) (r := r) (by simpa using hi)
        rw [this]
        omega
/-- Where a key stands, and whether it does. -/
def there (k : K) (l : List (Row K)) : Bool := match l[low O k l]? with | some r => r.1 == k | none => false
theorem there_nil (k : K) : there O k [] = false := rfl
theorem there_here {k : K} {r : Row K} {l : List (Row K)} (h : Up O (r :: l)) (hr : O.lt r.1 k = false) : there O k (r :: l) = (r.1 == k) := by
  unfold there
  rw [low_zero O h hr]
  rfl
theorem there_next {k : K} {r : Row K} {l : List (Row K)} (hr : O.lt r.1 k = true) : there O k (r :: l) = there O k l := by
  unfold there
  rw [low_succ O hr, List.getElem?_cons_succ]
theorem up_ne {k : K} {r : Row K} {l : List (Row K)} (h : Up O (r :: l)) (hr : O.lt r.1 k = false) : ∀ x ∈ l, x.1 ≠ k := by
  intro x hx e
  have := (List.pairwise_cons.1 h).1 x hx
  rw [e, hr] at this
  cases this
theorem get_none {k : K} {l : List (Row K)} (h : ∀ x ∈ l, x.1 ≠ k) : get k l = none := by
  unfold get
  rw [List.find?_eq_none.2 (fun x hx => by simpa using h x hx)]
  rfl
theorem get_there {k : K} : ∀ {l : List (Row K)}, Up O l → get k l = if there O k l then (l[low O k l]?).map (·.2) else none
  | [], _ => rfl
  | r :: l, h => by
    cases hr : O.lt r.1 k with
    | true =>
      have ih := get_there (k := k) (List.pairwise_cons.1 h).2
      rw [there_next O hr, low_succ O hr, List.getElem?_cons_succ, ← ih]
      unfold get
      rw [List.find?_cons]
      have : (r.1 == k) = false := by simpa using O.ne hr
      rw [this]
    | false =>
      rw [there_here O h hr, low_zero O h hr]
      by_cases e : r.1 = k
      · unfold get; simp [e]
      · rw [get_none (l := r :: l) (fun x hx => by
          rcases List.mem_cons.1 hx with rfl | hx
          · exact e
          · exact up_ne O h hr x hx)]
        simp [e]
theorem go_in {k : K} (n : Int) : ∀ {l : List (Row K)}, withGo O k n true l = l.filter (fun r => r.1 != k)
  | [] => rfl
  | r :: l => by
    have ih := go_in n (k := k) (l := l)
    simp only [withGo, Bool.not_true, Bool.false_and, Bool.or_false, Bool.true_or, ih, List.filter_cons]
    by_cases e : r.1 = k <;> simp [e]
theorem filter_ne {k : K} {l : List (Row K)} (h : ∀ x ∈ l, x.1 ≠ k) : l.filter (fun r => r.1 != k) = l := List.filter_eq_self.2 (fun x hx => by simpa using h x hx)
/-- With a key that holds something: put in its place. -/
theorem with_some {k : K} (n : Int) : ∀ {l : List (Row K)}, Up O l → withR O k (some n) l = if there O k l then l.set (low O k l) (k, n) else l.take (low O k l) ++ (k, n) :: l.drop (low O k l)
  | [], _ => rfl
  | r :: l, h => by
    show withGo O k n false (r :: l) = _
    cases hr : O.lt r.1 k with
    | true =>
      have ih : withGo O k n false l = _ := with_some n (k := k) (List.pairwise_cons.1 h).2
      have hne := O.ne hr
      simp only [withGo, hr, Bool.not_true, Bool.and_false, Bool.or_false, ih, there_next O hr, low_succ O hr]
      simp only [hne, if_false, Bool.false_eq_true, List.nil_append]
      split <;> simp
    | false =>
      rw [there_here O h hr, low_zero O h hr]
      have hl := filter_ne (up_ne O h hr)
      simp only [withGo, hr, Bool.not_false, Bool.and_self, Bool.or_true, go_in, hl]
      by_cases e : r.1 = k <;> simp [e]
theorem with_none {k : K} : ∀ {l : List (Row K)}, Up O l → withR O k none l = if there O k l then l.eraseIdx (low O k l) else l
  | [], _ => rfl
  | r :: l, h => by
    show withGo O k 0 true (r :: l) = _
    rw [go_in]
    cases hr : O.lt r.1 k with
    | true =>
      have ih : withGo O k 0 true l = _ := with_none (k := k) (List.pairwise_cons.1 h).2
      rw [go_in] at ih
      have hne : (r.1 != k) = true := bne_iff_ne.2 (O.ne hr)
      rw [there_next O hr, low_succ O hr, List.filter_cons, hne, if_pos rfl, ih]
      split <;> simp
    | false =>
      rw [there_here O h hr, low_zero O h hr, List.filter_cons, filter_ne (up_ne O h hr)]
      by_cases e : r.1 = k <;> simp [e]
theorem up_with_some {k : K} (n : Int) {l : List (Row K)} (h : Up O l) : Up O (withR O k (some n) l) := by
  rw [with_some O n h]
  have hk := low_le O k l
  split
  · rename_i ht
    unfold there at ht
    cases hg : l[low O k l]? with
    | none => rw [hg] at ht; cases ht
    | some r =>
      rw [hg] at ht
      have hrk : r.1 = k := by simpa using ht
      have hlt := (List.getElem?_eq_some_iff.1 hg).1
      have hlv := (List.getElem?_eq_some_iff.1 hg).2
      unfold Up at *
      rw [List.pairwise_iff_getElem] at h ⊢
      intro i j hi hj hij
      simp only [List.length_set] at hi hj
      have hb := h i j hi hj hij
      rw [List.getElem_set, List.getElem_set]
      split
      · rename_i e
        rw [if_neg (by omega)]
        subst e
        rw [hlv, hrk] at hb
        exact hb
      · split
        · rename_i e
          subst e
          rw [hlv, hrk] at hb
          exact hb
        · exact hb
  · rename_i ht
    unfold Up at *
    have hp := h
    rw [← List.take_append_drop (low O k l) l, List.pairwise_append] at hp
    rw [List.pairwise_append, List.pairwise_cons]
    have hlow : ∀ x ∈ l.take (low O k l), O.lt x.1 k = true := by
      intro x hx
      obtain ⟨i, hi, rfl⟩ := List.mem_iff_getElem.1 hx
      rw [List.length_take] at hi
      rw [List.getElem_take]
      exact (low_lt O h (List.getElem?_eq_getElem (by omega))).2 (by omega)
    have hhigh : ∀ x ∈ l.drop (low O k l), O.lt k x.1 = true := by
      intro x hx
      obtain ⟨i, hi, rfl⟩ := List.mem_iff_getElem.1 hx
      rw [List.length_drop] at hi
      rw [List.getElem_drop]
      have h1 := low_lt O (k := k) h (List.getElem?_eq_getElem (show low O k l + i < l.length by omega))
      cases e : O.lt k l[low O k l + i].1 with
      | true => rfl
      | false =>
        exfalso
        have e2 : O.lt l[low O k l + i].1 k = false := by
          cases e3 : O.lt l[low O k l + i].1 k with
          | false => rfl
          | true => have := h1.1 e3; omega
        have he := O.tot _ _ e e2
        cases i with
        | zero =>
          apply ht
          unfold there
          rw [List.getElem?_eq_getElem (show low O k l < l.length by omega)]
          simpa using he.symm
        | succ i =>
          have h3 := (List.pairwise_iff_getElem.1 h) (low O k l) (low O k l + (i + 1)) (by omega) (by omega) (by omega)
          rw [← he] at h3
          have := (low_lt O h (List.getElem?_eq_getElem (show low O k l < l.length by omega))).1 h3
          omega
    refine ⟨hp.1, ⟨hhigh, hp.2.1⟩, fun a ha b hb => ?_⟩
    rcases List.mem_cons.1 hb with rfl | hb
    · exact hlow a ha
    · exact hp.2.2 a ha b hb
theorem up_with_none {k : K} {l : List (Row K)} (h : Up O l) : Up O (withR O k none l) := by
  show Up O (withGo O k 0 true l)
  rw [go_in]
  exact List.Pairwise.sublist (List.filter_sublist) h
end Go.Proofs.Ky
end

section
namespace Go.Proofs.Ky
theorem u8_tot (a b : UInt8) (h1 : ¬ a < b) (h2 : ¬ b < a) : a = b := by
  apply UInt8.toNat_inj.1
  rw [UInt8.lt_iff_toNat_lt] at h1 h2
  omega
theorem u8_irr (a : UInt8) : ¬ a < a := by rw [UInt8.lt_iff_toNat_lt]; omega
theorem u8_tr (a b c : UInt8) (h1 : a < b) (h2 : b < c) : a < c := by
  rw [UInt8.lt_iff_toNat_lt] at *
  omega
theorem bl_irr : ∀ a : List UInt8, ¬ a < a
  | [] => by simp
  | x :: a => by
    rw [List.cons_lt_cons_iff]
    rintro (h | ⟨_, h⟩)
    · exact u8_irr x h
    · exact bl_irr a h
theorem bl_tr : ∀ a b c : List UInt8, a < b → b < c → a < c
  | _, [], _, h, _ => by simp at h
  | _, _ :: _, [], _, h => by simp at h
  | [], _ :: _, _ :: _, _, _ => by simp
  | x :: a, y :: b, z :: c, h1, h2 => by
    rw [List.cons_lt_cons_iff] at *
    rcases h1 with h1 | ⟨rfl, h1⟩
    · rcases h2 with h2 | ⟨rfl, h2⟩
      · exact .inl (u8_tr x y z h1 h2)
      · exact .inl h1
    · rcases h2 with h2 | ⟨rfl, h2⟩
      · exact .inl h2
      · exact .inr ⟨rfl, bl_tr a b c h1 h2⟩
theorem bl_tot : ∀ a b : List UInt8, ¬ a < b → ¬ b < a → a = b
  | [], [], _, _ => rfl
  | [], y :: b, h, _ => absurd (by simp) h
  | x :: a, [], _, h => absurd (by simp) h
  | x :: a, y :: b, h1, h2 => by
    rw [List.cons_lt_cons_iff] at h1 h2
    have e := u8_tot x y (fun h => h1 (.inl h)) (fun h => h2 (.inl h))
    subst e
    rw [bl_tot a b (fun h => h1 (.inr ⟨rfl, h⟩)) (fun h => h2 (.inr ⟨rfl, h⟩))]
/-- Texts by their bytes. -/
def txt : Ord (List UInt8) where
  lt a b := decide (a < b)
  irr a := decide_eq_false (bl_irr a)
  tr a b c h1 h2 := decide_eq_true (bl_tr a b c (of_decide_eq_true h1) (of_decide_eq_true h2))
  tot a b h1 h2 := bl_tot a b (of_decide_eq_false h1) (of_decide_eq_false h2)
end Go.Proofs.Ky
end
