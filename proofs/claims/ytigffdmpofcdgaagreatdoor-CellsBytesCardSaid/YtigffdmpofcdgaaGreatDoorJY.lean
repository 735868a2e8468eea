/- A region that draws its order: what is asked of the worlds (S) is asked only till one operation (z) has come up. Changes as bytes: the plain law. Package cells: Encode. The document's Encode of changes. Package cells: Decode. The document's Decode of changes. -/
import Derived.OrdersHeld
import Derived.RegionTactic
import Derived.Deep.RegionHeld
import Derived.Test.YtigffdmpofcdgaaGreatDoorJO
import Derived.Test.YtigffdmpofcdgaaGreatDoorJX
import Derived.Test.YtigffdmpofcdgaaGreatDoorJK
section
namespace Go.Proofs.Rg

section
variable {P : Program} {ops : Array Oper} {Q : Exit → Act → World → Prop} {md : Region.Mode} {S : World → Prop} {z : Nat}

/-- In whatever order; S holds behind each operation as long as number z has not come up. -/
def wpL (P : Program) (md : Region.Mode) (ops : Array Oper) (Q : Exit → Act → World → Prop) (S : World → Prop) (z : Nat) : Nat → Array Bool → Act → World → Prop
  | 0, l, a, w => Region.ready md ops l = [] ∧ Q .normal a w
  | n + 1, l, a, w => (Region.ready md ops l = [] → Q .normal a w) ∧
    ∀ i ∈ Region.ready md ops l, wpOp P ops Q i (fun a' w' => ((l.setIfInBounds i true).getD z true = false → S w') ∧ wpL P md ops Q S z n (l.setIfInBounds i true) a' w') a w
theorem any_of : ∀ (n : Nat) (l : Array Bool) (a : Act) (w : World), wpL P md ops Q S z n l a w → wpAny P md ops Q n l a w
  | 0, _, _, _, h => h
  | n + 1, _, _, _, h => ⟨h.1, fun i hi => wpOp_mono (fun a' w' h' => any_of n _ a' w' h'.2) (h.2 i hi)⟩
/-- Does z wait for i? -/
def waits (md : Region.Mode) (ops : Array Oper) (z i : Nat) : Bool := match ops[z]? with
  | some o => o.after.any fun e => Region.binds md e && e.on == i
  | none => false
theorem first_ {i : Nat} {oi : Oper} {v : Value} (hi : ops[i]? = some oi) (hsel : Region.noSelect ops = true) (hQ : ∀ c a w, Q (.panic c) (a.put oi.dst v) w → Q (.panic c) a w) (hw : waits md ops z i = true) :
    ∀ (n : Nat) (l : Array Bool) (a : Act) (w : World), Region.free md ops l i = true → i ∈ Region.ready md ops l → l.getD z true = false → YieldsIf P ops S oi v a → S w →
      wpL P md ops Q S z n (l.setIfInBounds i true) (a.put oi.dst v) w → wpL P md ops Q S z (n + 1) l a w
  | n, l, a, w, hf, hr, hz, hy, hS, H => by
    refine ⟨fun h => (by rw [h] at hr; cases hr), fun j hj => ?_⟩
    by_cases e : j = i
    · subst e
      exact hy.wpOp hi hS ⟨fun _ => hS, H⟩
    have hji := ready_mono hj e
    cases n with
    | zero => rw [H.1] at hji; cases hji
    | succ n =>
      obtain ⟨hun, oj, hoj, hall⟩ := mem_ready.1 hj
      have hni : l.getD i false = false := by
        have h0 := (mem_ready.1 hr).1
        rw [Array.getD_eq_getD_getElem?] at h0 ⊢
        cases hg : l[i]? with
        | none => rfl
        | some b => rw [hg] at h0; exact h0
      have hno : ∀ x ∈ oj.after, Region.binds md x = true → x.on ≠ i := fun x hx hb he => by
        have h1 := hall x hx hb
        rw [he, hni] at h1
        cases h1
      have hjz : j ≠ z := fun e2 => by
        subst e2
        unfold waits at hw
        rw [hoj] at hw
        simp only [Array.any_eq_true', Bool.and_eq_true, beq_iff_eq] at hw
        obtain ⟨x, hx, hb, he⟩ := hw
        exact hno x hx hb he
      have hs := Region.noSelect_spec hsel
      have step := wpOp_putIf hoj (Region.free_spec hi hf j oj hoj e hun hno) (fun cs b => hs i oi cs b hi) (fun cs b => hs j oj cs b hoj) hQ hy (H.2 j hji)
      have hf2 : Region.free md ops (l.setIfInBounds j true) i = true := by
        have hf' := hf
        simp only [Region.free, hi, List.all_eq_true, List.mem_range] at hf' ⊢
        intro k hk
        have h3 := hf' k hk
        simp only [Bool.or_eq_true] at h3 ⊢
        rcases h3 with (h3 | h3) | h3
        · exact .inl (.inl h3)
        · refine .inl (.inr ?_)
          by_cases hjk : j = k
          · subst hjk; rw [hun] at h3; cases h3
          · rw [getD_set_ne true hjk]; exact h3
        · exact .inr h3
      have hzi : i ≠ z := fun e2 => by
        subst e2
        have := hjz
        unfold waits at hw
        rw [hi] at hw
        simp only [Array.any_eq_true', Bool.and_eq_true, beq_iff_eq] at hw
        obtain ⟨x, hx, hb, he⟩ := hw
        obtain ⟨_, o2, ho2, hall2⟩ := mem_ready.1 hr
        rw [hi] at ho2
        injection ho2 with ho2
        subst ho2
        have := hall2 x hx hb
        rw [he, hni] at this
        cases this
      have hz2 : (l.setIfInBounds j true).getD z true = false := by rw [getD_set_ne true hjz]; exact hz
      have hz3 : ((l.setIfInBounds i true).setIfInBounds j true).getD z true = false := by rw [getD_set_ne true hjz, getD_set_ne true hzi]; exact hz
      refine wpOp_mono (fun a' w' h3 => ?_) step
      have hS2 : S w' := h3.2.1 hz3
      refine ⟨fun _ => hS2, first_ hi hsel hQ hw n (l.setIfInBounds j true) a' w' hf2 (ready_mono hr (Ne.symm e)) hz2 h3.1 hS2 ?_⟩
      rw [Array.setIfInBounds_comm _ _ e]
      exact h3.2.2
theorem take {i : Nat} {oi : Oper} {v : Value} {n : Nat} {l : Array Bool} {a : Act} {w : World} (hi : ops.toList[i]? = some oi)
    (hk : (Region.noSelect ops && waits md ops z i && Region.free md ops l i && (Region.ready md ops l).contains i && !(l.getD z true)) = true)
    (hQ : ∀ c a w, Q (.panic c) (a.put oi.dst v) w → Q (.panic c) a w) (hS : S w) (hy : YieldsIf P ops S oi v a)
    (h : wpL P md ops Q S z n (l.setIfInBounds i true) (a.put oi.dst v) w) : wpL P md ops Q S z (n + 1) l a w := by
  simp only [Bool.and_eq_true, Bool.not_eq_true'] at hk
  obtain ⟨⟨⟨⟨k1, k2⟩, k3⟩, k4⟩, k5⟩ := hk
  exact first_ (by rw [← Array.getElem?_toList]; exact hi) k1 hQ k2 n l a w k3 (by simpa using k4) k5 hy hS h
/-- Only number i may come up. -/
theorem one {i : Nat} {o : Oper} {n : Nat} {l : Array Bool} {a : Act} {w : World} (hi : ops.toList[i]? = some o) (hr : Region.ready md ops l = [i])
    (h : ∀ K : Act → World → Prop, Shut (∀ a' w', ((l.setIfInBounds i true).getD z true = false → S w') → wpL P md ops Q S z n (l.setIfInBounds i true) a' w' → K a' w') →
      if Region.wanted o (yielded ops a.tmps) = true then Oper.wp P o a w K Q else K (a.put o.dst undef) w) : wpL P md ops Q S z (n + 1) l a w := by
  refine ⟨fun h0 => (by rw [hr] at h0; cases h0), fun j hj => ?_⟩
  rw [hr, List.mem_singleton] at hj
  subst hj
  exact wpOp_step (by rw [← Array.getElem?_toList]; exact hi) (fun K' hK => h K' (fun a' w' h1 h2 => hK a' w' ⟨h1, h2⟩))
theorem done {l : Array Bool} {a : Act} {w : World} (hr : Region.ready md ops l = []) (h : Q .normal a w) : ∀ n, wpL P md ops Q S z n l a w
  | 0 => ⟨hr, h⟩
  | _ + 1 => ⟨fun _ => h, by rw [hr]; simp⟩
/-- Where S holds to the end. -/
theorem takeH {i : Nat} {oi : Oper} {v : Value} {n : Nat} {l : Array Bool} {a : Act} {w : World} (hi : ops.toList[i]? = some oi)
    (hk : (Region.noSelect ops && Region.free md ops l i && (Region.ready md ops l).contains i) = true)
    (hQ : ∀ c a w, Q (.panic c) (a.put oi.dst v) w → Q (.panic c) a w) (hS : S w) (hy : YieldsIf P ops S oi v a)
    (h : wpAnyH P md ops Q S n (l.setIfInBounds i true) (a.put oi.dst v) w) : wpAnyH P md ops Q S (n + 1) l a w := by
  simp only [Bool.and_eq_true] at hk
  exact wpAnyH_take (by rw [← Array.getElem?_toList]; exact hi) hk.1.1 hk.1.2 hk.2 hQ hy hS h
theorem oneH {i : Nat} {o : Oper} {n : Nat} {l : Array Bool} {a : Act} {w : World} (hi : ops.toList[i]? = some o) (hr : Region.ready md ops l = [i])
    (h : ∀ K : Act → World → Prop, Shut (∀ a' w', S w' → wpAnyH P md ops Q S n (l.setIfInBounds i true) a' w' → K a' w') →
      if Region.wanted o (yielded ops a.tmps) = true then Oper.wp P o a w K Q else K (a.put o.dst undef) w) : wpAnyH P md ops Q S (n + 1) l a w := by
  refine ⟨fun h0 => (by rw [hr] at h0; cases h0), fun j hj => ?_⟩
  rw [hr, List.mem_singleton] at hj
  subst hj
  exact wpOp_step (by rw [← Array.getElem?_toList]; exact hi) (fun K' hK => h K' (fun a' w' h1 h2 => hK a' w' ⟨h1, h2⟩))
theorem beginH {id : Nat} {a : Act} {w : World} (S : World → Prop) (hm : P.follows .mixedOrders = true) (h : wpAnyH P .any ops Q S ops.size (Array.replicate ops.size false) a w.drew) : (Code.region id ops true).wp P Q a w :=
  wp_region_held hm h
/-- The beginning. -/
theorem begin_ {id : Nat} {a : Act} {w : World} (S : World → Prop) (z : Nat) (hm : P.follows .mixedOrders = true) (h : wpL P .any ops Q S z ops.size (Array.replicate ops.size false) a w.drew) : (Code.region id ops true).wp P Q a w :=
  wp_region_any hm (any_of _ _ _ _ h)
end
end Go.Proofs.Rg
end

section
set_option linter.unusedVariables false
namespace Go.Proofs.YtigffdmpofcdgaaGreatDoor
open Go.Proofs.BL Go.Proofs.Peel Go.RowKit Go.Proofs.Ky

theorem tells_yes (bs : List UInt8) (a : Nat) {c : List Lk} (h : Tells c) : Tells (rdYes bs a c).2.2 := by
  unfold rdYes
  split
  · split
    · split
      · exact tells_bad6 a
      · exact .inl rfl
    · exact tells_bad6 a
  · exact h
def cgN (x : Cg) : List UInt8 := if x.2.2 then natB (zig x.2.1) else []
def cgB (x : Cg) : List UInt8 := strB x.1 ++ yesB x.2.2 ++ cgN x
def chB (l : List Cg) : List UInt8 := natB l.length ++ (l.map cgB).flatten
def chUp (l : List Cg) (j : Nat) : List UInt8 := natB l.length ++ ((l.take j).map cgB).flatten
theorem chUp_zero (l : List Cg) : chUp l 0 = natB l.length := by simp [chUp]
theorem chUp_end (l : List Cg) : chUp l l.length = chB l := by rw [chUp, List.take_length]; rfl
theorem chUp_next {l : List Cg} {j : Nat} {x : Cg} (h : l[j]? = some x) : chUp l (j + 1) = chUp l j ++ cgB x := by
  rw [chUp, chUp, List.take_add_one, h]
  simp
theorem chUp_len (l : List Cg) (j : Nat) : (chUp l j).length ≤ (chB l).length := by
  rw [chUp, chB, List.length_append, List.length_append]
  have := flat_take (l.map cgB) j
  rw [← List.map_take] at this
  omega
/-- One change read: what it is, where the reader stands, what is wrong. -/
def stepC (bs : List UInt8) (a : Nat) (c : List Lk) : Cg × Nat × List Lk :=
  if (rdYes bs (rdStr bs a c 16).2.1 (rdStr bs a c 16).2.2).1 then
    (((rdStr bs a c 16).1, (rdNum bs (rdYes bs (rdStr bs a c 16).2.1 (rdStr bs a c 16).2.2).2.1 (rdYes bs (rdStr bs a c 16).2.1 (rdStr bs a c 16).2.2).2.2).1, true),
      (rdNum bs (rdYes bs (rdStr bs a c 16).2.1 (rdStr bs a c 16).2.2).2.1 (rdYes bs (rdStr bs a c 16).2.1 (rdStr bs a c 16).2.2).2.2).2)
  else (((rdStr bs a c 16).1, 0, false), (rdYes bs (rdStr bs a c 16).2.1 (rdStr bs a c 16).2.2).2)
theorem tells_step (bs : List UInt8) (a : Nat) {c : List Lk} (h : Tells c) : Tells (stepC bs a c).2.2 := by
  have h1 := tells_yes bs (rdStr bs a c 16).2.1 (tells_str bs a 16 h)
  unfold stepC
  split
  · exact tells_num bs _ h1
  · exact h1
/-- So many changes, from a place on. -/
def goC (bs : List UInt8) : Nat → Nat → Option (List Cg × Nat)
  | 0, a => some ([], a)
  | k + 1, a => if (stepC bs a []).2.2 = [] then (goC bs k (stepC bs a []).2.1).map (fun x => ((stepC bs a []).1 :: x.1, x.2)) else none
theorem goC_yes {bs : List UInt8} {k a : Nat} (h : (stepC bs a []).2.2 = []) : goC bs (k + 1) a = (goC bs k (stepC bs a []).2.1).map (fun x => ((stepC bs a []).1 :: x.1, x.2)) := by rw [goC, if_pos h]
theorem goC_no {bs : List UInt8} {k a : Nat} (h : ¬ (stepC bs a []).2.2 = []) : goC bs (k + 1) a = none := by rw [goC, if_neg h]
/-- The changes of bytes. -/
def decC (bs : List UInt8) : Option (List Cg) :=
  if (rdNat bs 0 []).2.2 = [] ∧ (rdNat bs 0 []).1 ≤ 4096 then (goC bs (rdNat bs 0 []).1 (rdNat bs 0 []).2.1).bind (fun x => if bs.length ≤ x.2 then some x.1 else none) else none
/-- How far the loop has come: R is what it comes to. -/
def Mid (bs : List UInt8) (R : Option (List Cg × Nat)) (n : Nat) (l : List Cg) (a : Nat) (c : List Lk) : Prop :=
  l.length ≤ n ∧ Tells c ∧ (c = [] → R = (goC bs (n - l.length) a).map (fun x => (l ++ x.1, x.2))) ∧ (¬ c = [] → R = none)
theorem Mid.start (bs : List UInt8) (n a : Nat) : Mid bs (goC bs n a) n [] a [] := ⟨Nat.zero_le _, .inl rfl, fun _ => by simp, fun h => absurd rfl h⟩
theorem Mid.next {bs : List UInt8} {R : Option (List Cg × Nat)} {n : Nat} {l : List Cg} {a : Nat} (h : Mid bs R n l a []) (hl : l.length < n) : Mid bs R n (l ++ [(stepC bs a []).1]) (stepC bs a []).2.1 (stepC bs a []).2.2 := by
  obtain ⟨h1, h2, h3, h4⟩ := h
  have h5 := h3 rfl
  rw [show n - l.length = (n - (l.length + 1)) + 1 from by omega] at h5
  refine ⟨by simp; omega, tells_step bs a h2, fun hc => ?_, fun hc => ?_⟩
  · rw [goC_yes hc] at h5
    rw [h5, List.length_append, List.length_singleton, Option.map_map]
    congr 1
    funext x
    simp
  · rw [goC_no hc] at h5
    rw [h5]; rfl
theorem Mid.done {bs : List UInt8} {R : Option (List Cg × Nat)} {n : Nat} {l : List Cg} {a : Nat} (h : Mid bs R n l a []) (hl : ¬ l.length < n) : R = some (l, a) := by
  obtain ⟨h1, h2, h3, h4⟩ := h
  have h5 := h3 rfl
  rw [show n - l.length = 0 from by omega, goC] at h5
  rw [h5]; simp
theorem Mid.bad {bs : List UInt8} {R : Option (List Cg × Nat)} {n : Nat} {l : List Cg} {a : Nat} {c : List Lk} (h : Mid bs R n l a c) (hc : ¬ c = []) : R = none := h.2.2.2 hc
theorem rdYes_inv {bs : List UInt8} {a a' : Nat} {b : Bool} (h : rdYes bs a [] = (b, a', [])) : bs.drop a = yesB b ++ bs.drop a' := by
  rw [rdYes, if_pos rfl] at h
  cases hd : bs.drop a with
  | nil => rw [hd] at h; simp [bad6] at h
  | cons x r =>
    rw [hd] at h
    simp only at h
    split at h
    · simp [bad6] at h
    · rename_i hx
      simp only [Prod.mk.injEq, and_true] at h
      obtain ⟨rfl, rfl⟩ := h
      have hr : bs.drop (a + 1) = r := by rw [← List.drop_drop, hd]; rfl
      rw [hr]
      rcases Nat.lt_or_ge x.toNat 1 with h0 | h0
      · have e : x = 0 := UInt8.toNat_inj.1 (by simp; omega)
        subst e; rfl
      · have e : x = 1 := UInt8.toNat_inj.1 (by simp; omega)
        subst e; rfl
theorem rdStr_bad (bs : List UInt8) (a : Nat) {c : List Lk} (most : Int) (h : ¬ c = []) : (rdStr bs a c most).2 = (a, c) := by rw [rdStr, if_neg h]
theorem rdYes_bad (bs : List UInt8) (a : Nat) {c : List Lk} (h : ¬ c = []) : (rdYes bs a c) = (false, a, c) := by rw [rdYes, if_neg h]
theorem rdNum_bad (bs : List UInt8) (a : Nat) {c : List Lk} (h : ¬ c = []) : (rdNum bs a c).2 = (a, c) := by rw [rdNum, rdNat, if_neg h]
theorem zag_in (n : Nat) (h : n < 2 ^ 64) : -9223372036854775808 ≤ zag n ∧ zag n ≤ 9223372036854775807 := by
  unfold zag
  split <;> omega
/-- What may be put into bytes. -/
def CgOk (x : Cg) : Prop := x.1.size ≤ 1000 ∧ -9223372036854775808 ≤ x.2.1 ∧ x.2.1 ≤ 9223372036854775807
theorem rdStr_size {bs : List UInt8} {a a' : Nat} {s : ByteArray} (h : rdStr bs a [] 16 = (s, a', [])) : s.size ≤ 16 := by
  rw [rdStr, if_pos rfl] at h
  cases hp : pstr bs a 16 with
  | mk o e =>
    rw [hp] at h
    cases o with
    | none => simp at h
    | some sa =>
      obtain ⟨s1, a1⟩ := sa
      simp only [Prod.mk.injEq, and_true] at h
      obtain ⟨rfl, rfl⟩ := h
      rw [pstr] at hp
      split at hp
      · simp at hp
      · split at hp
        · simp at hp
        · split at hp
          · simp at hp
          · rename_i n k _ h1 h2
            simp only [Prod.mk.injEq, Option.some.injEq] at hp
            obtain ⟨⟨rfl, _⟩, _⟩ := hp
            have : (⟨((bs.drop (a + k)).take n).toArray⟩ : ByteArray).size ≤ n := by
              show ((bs.drop (a + k)).take n).length ≤ n
              rw [List.length_take]; exact Nat.min_le_left _ _
            omega
theorem step_inv {bs : List UInt8} {a : Nat} (h : (stepC bs a []).2.2 = []) : bs.drop a = cgB (stepC bs a []).1 ++ bs.drop (stepC bs a []).2.1 ∧ CgOk (stepC bs a []).1 := by
  cases hs : rdStr bs a [] 16 with
  | mk s st =>
    obtain ⟨a1, c1⟩ := st
    have e1 : stepC bs a [] = if (rdYes bs a1 c1).1 then ((s, (rdNum bs (rdYes bs a1 c1).2.1 (rdYes bs a1 c1).2.2).1, true), (rdNum bs (rdYes bs a1 c1).2.1 (rdYes bs a1 c1).2.2).2) else ((s, 0, false), (rdYes bs a1 c1).2) := by rw [stepC, hs]
    rw [e1] at h ⊢
    by_cases hc1 : c1 = []
    · subst hc1
      have i1 := rdStr_inv hs
      have z1 := rdStr_size hs
      cases hy : rdYes bs a1 [] with
      | mk b st =>
        obtain ⟨a2, c2⟩ := st
        rw [hy] at h
        simp only at h ⊢
        by_cases hc2 : c2 = []
        · subst hc2
          have i2 := rdYes_inv hy
          cases b with
          | false =>
            simp only [Bool.false_eq_true, if_false] at h ⊢
            refine ⟨?_, by show s.size ≤ 1000; omega, by show (-9223372036854775808 : Int) ≤ 0; decide, by show (0 : Int) ≤ 9223372036854775807; decide⟩
            rw [i1, i2]; simp [cgB, cgN]
          | true =>
            simp only [if_true] at h ⊢
            cases hn : rdNat bs a2 [] with
            | mk n st =>
              obtain ⟨a3, c3⟩ := st
              have hm : rdNum bs a2 [] = (zag n, a3, c3) := by rw [rdNum, hn]
              rw [hm] at h ⊢
              simp only at h ⊢
              subst h
              obtain ⟨i3, z3⟩ := rdNat_inv hn
              have z4 := zag_in n z3
              refine ⟨?_, by show s.size ≤ 1000; omega, z4.1, z4.2⟩
              rw [i1, i2, i3]; simp [cgB, cgN, zig_zag]
        · exfalso
          cases b with
          | false => simp only [Bool.false_eq_true, if_false] at h; exact hc2 h
          | true => simp only [if_true] at h; rw [rdNum_bad _ _ hc2] at h; exact hc2 h
    · exfalso
      rw [rdYes_bad _ _ hc1] at h
      simp only [Bool.false_eq_true, if_false] at h
      exact hc1 h
theorem goC_inv {bs : List UInt8} : ∀ {k a : Nat} {l : List Cg} {a' : Nat}, goC bs k a = some (l, a') → l.length = k ∧ bs.drop a = (l.map cgB).flatten ++ bs.drop a' ∧ ∀ x ∈ l, CgOk x
  | 0, a, l, a', h => by
    rw [goC] at h
    injection h with h
    injection h with h1 h2
    subst h1 h2
    exact ⟨rfl, rfl, fun x hx => by cases hx⟩
  | k + 1, a, l, a', h => by
    by_cases hc : (stepC bs a []).2.2 = []
    · rw [goC_yes hc] at h
      obtain ⟨⟨l1, a1⟩, h1, h2⟩ := Option.map_eq_some_iff.1 h
      injection h2 with h2 h3
      subst h2
      obtain ⟨e1, e2, e3⟩ := goC_inv h1
      obtain ⟨s1, s2⟩ := step_inv hc
      simp only at h3
      subst h3
      refine ⟨by simp [e1], ?_, fun x hx => ?_⟩
      · rw [s1, e2]; simp
      · rcases List.mem_cons.1 hx with rfl | hx
        · exact s2
        · exact e3 x hx
    · rw [goC_no hc] at h; cases h
/-- Bytes that are changes' are just their bytes. -/
theorem dec_one {bs : List UInt8} {l : List Cg} (h : decC bs = some l) : chB l = bs ∧ l.length ≤ 4096 ∧ ∀ x ∈ l, CgOk x := by
  unfold decC at h
  split at h
  · rename_i h0
    cases hn : rdNat bs 0 [] with
    | mk n st =>
      obtain ⟨a1, c1⟩ := st
      rw [hn] at h h0
      simp only at h h0
      obtain ⟨rfl, hle⟩ := h0
      obtain ⟨⟨l1, a2⟩, h1, h2⟩ := Option.bind_eq_some_iff.1 h
      simp only at h2
      split at h2
      · rename_i hlen
        injection h2 with h2
        subst h2
        obtain ⟨e1, e2, e3⟩ := goC_inv h1
        have e4 := (rdNat_inv hn).1
        rw [List.drop_zero, e2, List.drop_eq_nil_of_le hlen, List.append_nil] at e4
        exact ⟨by rw [chB, e1, ← e4], by omega, e3⟩
      · cases h2
  · cases h
end Go.Proofs.YtigffdmpofcdgaaGreatDoor
end

section
set_option linter.unusedVariables false
set_option linter.unusedSimpArgs false
set_option maxRecDepth 100000
namespace Go.Proofs.YtigffdmpofcdgaaGreatDoor
open Go.Proofs.BL Go.Proofs.Peel Go.RowKit Go.Proofs.Ky

set_option maxHeartbeats 8000000 in
theorem cEncode (A : Option Addr) (c : Nat) (l : List Cg) (w : World) (hr : RowsAt w 3 A (rwC l)) (hl : l.length ≤ 1000000) (hc : l.length ≤ c) (hok : ∀ x ∈ l, CgOk x) (hb : (chB l).length ≤ 1000000000) :
    Calls Tryz.prog 5 #[.slice A l.length c] w (ByAns w (chB l)) := by
  refine via fun Q hQ => ?_
  have HR := Lib.hid hr
  have HOK := Lib.hid hok
  have HIL := Lib.hid (fun q => Nat.le_trans (chUp_len l q) hb)
  have HZ := Lib.hid (chUp_zero l)
  clear hr hok hb
  generalize hN : l.length = N at *
  have HN := Lib.hid hN
  clear hN
  go_enter Tryz.func5, Tryz.ntmps5
  go_wp2_with fail
  (with_reducible refine (onat N w (by omega)).mono ?_)
  rintro e w9 ⟨v9, rfl, ho9, hb9⟩
  have HO9 := Lib.hid (show Own w9 w.heap.size 5 1 v9 (bys (chUp l 0)) from by rw [HZ.out]; exact ho9)
  have HB9 := Lib.hid hb9
  clear ho9 hb9
  go_wp2_with fail
  go_loopg [3, 12] N (fun g u3 x12 wr => ∃ j : Nat, j ≤ N ∧ g = N - j ∧ x12 = .int .i64 j ∧ Hid (Own wr w.heap.size 5 1 u3 (bys (chUp l j))) ∧ Hid (Below w.heap.size w wr))
  case atStart => exact ⟨0, Nat.zero_le _, rfl, rfl, HO9, HB9⟩
  case round =>
    obtain ⟨j, hj, rfl, rfl, HO2, HB2⟩ := hrel
    by_cases hlt : j < N
    · have hxq : l[j]? = some (l[j]'(by rw [HN.out]; exact hlt)) := List.getElem?_eq_getElem _
      generalize l[j]'(by rw [HN.out]; exact hlt) = x at hxq
      have hokx := HOK.out x (List.mem_of_getElem? hxq)
      obtain ⟨kk, nn, tt⟩ := x
      have HK := Lib.hid hokx.1
      have HN1 := Lib.hid hokx.2
      obtain ⟨b3, o3, hA3, e1, e2, e3⟩ := chAt (HR.out.below HB2.out) hxq
      subst hA3
      simp only at e1 e2 e3
      have HNX := Lib.hid (show chUp l (j + 1) = chUp l j ++ (strB kk ++ yesB tt) ++ cgN (kk, nn, tt) from by rw [chUp_next hxq, cgB]; simp)
      have HOw := Lib.hid HO2.out
      have hal2 : Below wr.heap.size wr (wr.alloc (.cells #[.string kk, .int .i64 nn, .bool tt] 43)) := (Below.refl _ _).alloc (Nat.le_refl _) _
      have HO9 := Lib.hid (HO2.out.below hal2)
      have HB9 := Lib.hid (below_then HB2.out hal2)
      have d0 : World.cell? (wr.alloc (.cells #[.string kk, .int .i64 nn, .bool tt] 43)).drew ⟨wr.heap.size, 0, none⟩ = some (.string kk) := (Blk.new wr _ _).at_ 0 rfl
      have d1 : World.cell? (wr.alloc (.cells #[.string kk, .int .i64 nn, .bool tt] 43)).drew ⟨wr.heap.size, 1, none⟩ = some (.int .i64 nn) := (Blk.new wr _ _).at_ 1 rfl
      have d2 : World.cell? (wr.alloc (.cells #[.string kk, .int .i64 nn, .bool tt] 43)).drew ⟨wr.heap.size, 2, none⟩ = some (.bool tt) := (Blk.new wr _ _).at_ 2 rfl
      have HLx := Lib.hid (HIL.out (j + 1))
      have HLn := Lib.hid (show ((bys (chUp l j)).length + (bys [strB kk, yesB tt].flatten).length) * 1 ≤ 140737488355328 from by
        have h1 := HLx.out
        rw [HNX.out, List.length_append, List.length_append] at h1
        rw [seq2_flat]
        simp only [bys_len]
        omega)
      clear hokx hxq hal2 HO2 HB2
      generalize hWW : wr.alloc (.cells #[.string kk, .int .i64 nn, .bool tt] 43) = WW at *
      go_wp2_with fail
      refine Rg.begin_ (fun x => x.cell? ⟨wr.heap.size, 0, none⟩ = some (.string kk) ∧ x.cell? ⟨wr.heap.size, 1, none⟩ = some (.int .i64 nn) ∧ x.cell? ⟨wr.heap.size, 2, none⟩ = some (.bool tt)) 10 (by kernel_rfl) ?_
      have hS0 : (fun x => x.cell? ⟨wr.heap.size, 0, none⟩ = some (.string kk) ∧ x.cell? ⟨wr.heap.size, 1, none⟩ = some (.int .i64 nn) ∧ x.cell? ⟨wr.heap.size, 2, none⟩ = some (.bool tt)) (World.drew WW) := ⟨d0, d1, d2⟩
      refine Rg.take (i := 0) (v := ?_) rfl (by kernel_rfl) (fun _ _ _ h => h) hS0 (Or.inl ⟨by rfl, ?_⟩) ?_
      rotate_left
      · ((intro w hSw; (try dsimp only at hSw); go_simp) <;> (with_reducible rfl))
      try simp only [Act.put, List.setIfInBounds_toArray, List.set_cons_zero, List.set_cons_succ]
      refine Rg.take (i := 1) (v := ?_) rfl (by kernel_rfl) (fun _ _ _ h => h) hS0 (Or.inl ⟨by rfl, ?_⟩) ?_
      rotate_left
      · ((intro w hSw; (try dsimp only at hSw); go_simp) <;> (with_reducible rfl))
      try simp only [Act.put, List.setIfInBounds_toArray, List.set_cons_zero, List.set_cons_succ]
      refine Rg.take (i := 2) (v := ?_) rfl (by kernel_rfl) (fun _ _ _ h => h) hS0 (Or.inl ⟨by rfl, ?_⟩) ?_
      rotate_left
      · ((intro w hSw; (try dsimp only at hSw); go_simp) <;> (with_reducible rfl))
      try simp only [Act.put, List.setIfInBounds_toArray, List.set_cons_zero, List.set_cons_succ]
      refine Rg.take (i := 4) (v := ?_) rfl (by kernel_rfl) (fun _ _ _ h => h) hS0 (Or.inl ⟨by rfl, ?_⟩) ?_
      rotate_left
      · ((intro w hSw; (try dsimp only at hSw); go_simp) <;> (with_reducible rfl))
      try simp only [Act.put, List.setIfInBounds_toArray, List.set_cons_zero, List.set_cons_succ]
      refine Rg.take (i := 5) (v := ?_) rfl (by kernel_rfl) (fun _ _ _ h => h) hS0 (Or.inl ⟨by rfl, ?_⟩) ?_
      rotate_left
      · ((intro w hSw; (try dsimp only at hSw); go_simp) <;> (with_reducible rfl))
      try simp only [Act.put, List.setIfInBounds_toArray, List.set_cons_zero, List.set_cons_succ]
      refine Rg.one (i := 3) rfl (by kernel_rfl) (fun K hK => ?_)
      go_simp
      (with_reducible refine (ostr kk WW.drew (by have := HK.out; omega)).mono ?_)
      rintro e w1 ⟨v1, rfl, ho1, hb1⟩
      obtain ⟨A1, c1', e8, _, _, _⟩ := ho1.slv'
      rw [bys_len] at e8
      subst e8
      have HL1 := Lib.hid hb1
      have HO1 := Lib.hid ho1
      clear ho1 hb1
      have hS1' := (show World.cell? w1 ⟨wr.heap.size, 0, none⟩ = some (.string kk) ∧ World.cell? w1 ⟨wr.heap.size, 1, none⟩ = some (.int .i64 nn) ∧ World.cell? w1 ⟨wr.heap.size, 2, none⟩ = some (.bool tt) from ⟨(HL1.out.cell (World.block_lt_of_cell? _ _ hS0.1)).trans hS0.1, (HL1.out.cell (World.block_lt_of_cell? _ _ hS0.2.1)).trans hS0.2.1, (HL1.out.cell (World.block_lt_of_cell? _ _ hS0.2.2)).trans hS0.2.2⟩)
      change K _ _
      have hS1 : (fun x => x.cell? ⟨wr.heap.size, 0, none⟩ = some (.string kk) ∧ x.cell? ⟨wr.heap.size, 1, none⟩ = some (.int .i64 nn) ∧ x.cell? ⟨wr.heap.size, 2, none⟩ = some (.bool tt)) w1 := hS1'
      refine hK.out _ _ (fun _ => hS1) ?_
      clear hK K
      try simp only [Act.put, List.setIfInBounds_toArray, List.set_cons_zero, List.set_cons_succ]
      refine Rg.one (i := 6) rfl (by kernel_rfl) (fun K hK => ?_)
      go_simp
      (with_reducible refine (oyes tt w1).mono ?_)
      rintro e w2 ⟨v2, rfl, ho2, hb2⟩
      obtain ⟨A2, c2', e8, _, _, _⟩ := ho2.slv'
      rw [bys_len] at e8
      subst e8
      have HL2 := Lib.hid hb2
      have HO2 := Lib.hid ho2
      clear ho2 hb2
      have hS2' := (show World.cell? w2 ⟨wr.heap.size, 0, none⟩ = some (.string kk) ∧ World.cell? w2 ⟨wr.heap.size, 1, none⟩ = some (.int .i64 nn) ∧ World.cell? w2 ⟨wr.heap.size, 2, none⟩ = some (.bool tt) from ⟨(HL2.out.cell (World.block_lt_of_cell? _ _ hS1'.1)).trans hS1'.1, (HL2.out.cell (World.block_lt_of_cell? _ _ hS1'.2.1)).trans hS1'.2.1, (HL2.out.cell (World.block_lt_of_cell? _ _ hS1'.2.2)).trans hS1'.2.2⟩)
      change K _ _
      have hS2 : (fun x => x.cell? ⟨wr.heap.size, 0, none⟩ = some (.string kk) ∧ x.cell? ⟨wr.heap.size, 1, none⟩ = some (.int .i64 nn) ∧ x.cell? ⟨wr.heap.size, 2, none⟩ = some (.bool tt)) w2 := hS2'
      refine hK.out _ _ (fun _ => hS2) ?_
      clear hK K
      try simp only [Act.put, List.setIfInBounds_toArray, List.set_cons_zero, List.set_cons_succ]
      refine Rg.one (i := 7) rfl (by kernel_rfl) (fun K hK => ?_)
      go_simp
      have HSQ := Lib.hid (seq2 w2 (.slice A1 (strB kk).length c1') (.slice A2 (yesB tt).length c2') (strB kk) (yesB tt) WW.drew.heap.size w1.heap.size (HO1.out.below HL2.out) HO2.out (by have := HK.out; have h1 := strB_len kk (by omega); simp only [yesB, List.length_singleton]; omega))
      have HL3 := Lib.hid ((Below.refl w2.heap.size w2).alloc (Nat.le_refl _) (.cells #[(.slice A1 (strB kk).length c1'), (.slice A2 (yesB tt).length c2')] 23))
      have hS3 : (fun x => x.cell? ⟨wr.heap.size, 0, none⟩ = some (.string kk) ∧ x.cell? ⟨wr.heap.size, 1, none⟩ = some (.int .i64 nn) ∧ x.cell? ⟨wr.heap.size, 2, none⟩ = some (.bool tt)) (w2.alloc (.cells #[(.slice A1 (strB kk).length c1'), (.slice A2 (yesB tt).length c2')] 23)) := ⟨upA hS2'.1 _, upA hS2'.2.1 _, upA hS2'.2.2 _⟩
      refine hK.out _ _ (fun _ => hS3) ?_
      clear hK K
      try simp only [Act.put, List.setIfInBounds_toArray, List.set_cons_zero, List.set_cons_succ]
      refine Rg.one (i := 8) rfl (by kernel_rfl) (fun K hK => ?_)
      go_simp
      (with_reducible refine HSQ.out.mono ?_)
      rintro e w4 ⟨v4, rfl, ho4, hb4⟩
      have HL4 := Lib.hid hb4
      have HO4 := Lib.hid ho4
      clear ho4 hb4
      have hS3' := hS3
      have hS4' := (show World.cell? w4 ⟨wr.heap.size, 0, none⟩ = some (.string kk) ∧ World.cell? w4 ⟨wr.heap.size, 1, none⟩ = some (.int .i64 nn) ∧ World.cell? w4 ⟨wr.heap.size, 2, none⟩ = some (.bool tt) from ⟨(HL4.out.cell (World.block_lt_of_cell? _ _ hS3'.1)).trans hS3'.1, (HL4.out.cell (World.block_lt_of_cell? _ _ hS3'.2.1)).trans hS3'.2.1, (HL4.out.cell (World.block_lt_of_cell? _ _ hS3'.2.2)).trans hS3'.2.2⟩)
      change K _ _
      have hS4 : (fun x => x.cell? ⟨wr.heap.size, 0, none⟩ = some (.string kk) ∧ x.cell? ⟨wr.heap.size, 1, none⟩ = some (.int .i64 nn) ∧ x.cell? ⟨wr.heap.size, 2, none⟩ = some (.bool tt)) w4 := hS4'
      refine hK.out _ _ (fun _ => hS4) ?_
      clear hK K
      try simp only [Act.put, List.setIfInBounds_toArray, List.set_cons_zero, List.set_cons_succ]
      refine Rg.one (i := 9) rfl (by kernel_rfl) (fun K hK => ?_)
      obtain ⟨g4, c4, e4, _, HR4⟩ := own_bys HO4.out (by rw [seq2_flat]; simp [strB, natB])
      subst e4
      have HB4 := Lib.hid (below_then (below_then (below_then (below_then (below_then HB9.out (drew_below WW 1)) HL1.out) HL2.out) HL3.out) HL4.out)
      have HX4 := Lib.hid (HO9.out.below (below_then (below_then (below_then (below_then (drew_below WW 1) HL1.out) HL2.out) HL3.out) HL4.out))
      refine stepN (W := w4) w.heap.size 5 1 1 (.int .u8 0) rfl (.tmp 16) (.tmp 24) 23 rfl Tryz.underlying23 (by kernel_rfl) rfl (by decide) (by decide) u3 (bys (chUp l j)) (bys [strB kk, yesB tt].flatten) rfl g4 _ c4 rfl (bys_len _).symm (by rw [seq2_flat]; simp [strB, natB]) HR4 (bys_one _) (bys_cell _) HX4.out HB4.out.size HLn.out ?_
      intro v5 w5 ho5 hf5
      obtain ⟨A5, c5, e5, _, _, _⟩ := ho5.slv'
      have HO5 := Lib.hid (show Own w5 w.heap.size 5 1 v5 (bys (chUp l j ++ (strB kk ++ yesB tt))) from by rw [← bys_app]; rw [seq2_flat] at ho5; exact ho5)
      have HB5 := Lib.hid (HX4.out.fr_below HB4.out HB4.out.size hf5)
      have hg5 : ∀ a : Addr, a.block = wr.heap.size → a.block < w4.heap.size → w5.cell? a = w4.cell? a := fun a ha hlt => World.cell?_of_block (hf5.block _ hlt (fun h => by have := (HOw.out.1.lt _ h).2; omega))
      have hS5' : World.cell? w5 ⟨wr.heap.size, 0, none⟩ = some (.string kk) ∧ World.cell? w5 ⟨wr.heap.size, 1, none⟩ = some (.int .i64 nn) ∧ World.cell? w5 ⟨wr.heap.size, 2, none⟩ = some (.bool tt) := ⟨(hg5 _ rfl (World.block_lt_of_cell? _ _ hS4.1)).trans hS4.1, (hg5 _ rfl (World.block_lt_of_cell? _ _ hS4.2.1)).trans hS4.2.1, (hg5 _ rfl (World.block_lt_of_cell? _ _ hS4.2.2)).trans hS4.2.2⟩
      clear ho5 hf5 hg5 e5
      change K _ _
      have hS5 : (fun x => x.cell? ⟨wr.heap.size, 0, none⟩ = some (.string kk) ∧ x.cell? ⟨wr.heap.size, 1, none⟩ = some (.int .i64 nn) ∧ x.cell? ⟨wr.heap.size, 2, none⟩ = some (.bool tt)) w5 := hS5'
      refine hK.out _ _ (fun _ => hS5) ?_
      clear hK K
      try simp only [Act.put, List.setIfInBounds_toArray, List.set_cons_zero, List.set_cons_succ]
      refine Rg.one (i := 10) rfl (by kernel_rfl) (fun K hK => ?_)
      go_simp
      refine hK.out _ _ (fun _ => hS5) ?_
      clear hK K
      try simp only [Act.put, List.setIfInBounds_toArray, List.set_cons_zero, List.set_cons_succ]
      refine Rg.done (by kernel_rfl) ?_ _
      have t1 := hS5.1
      have t2 := hS5.2.1
      have t3 := hS5.2.2
      clear hS5 hS4 hS3 hS2 hS1 hS0 hS5'
      cases tt with
      | false =>
        have HNY := Lib.hid (show chUp l (j + 1) = chUp l j ++ (strB kk ++ yesB false) from by rw [HNX.out]; simp [cgN])
        go_wp2_with fail
        go_roundg (N - (j + 1))
        case measure => omega
        case rel => exact ⟨j + 1, by omega, rfl, by go_num, Lib.hid (by rw [HNY.out]; exact HO5.out), HB5⟩
      | true =>
        have HNY := Lib.hid (show chUp l (j + 1) = chUp l j ++ (strB kk ++ yesB true) ++ natB (zig nn) from by rw [HNX.out]; simp [cgN])
        go_wp2_with fail
        (with_reducible refine (onum nn w5 HN1.out.1 HN1.out.2).mono ?_)
        rintro e w6 ⟨v6, rfl, ho6, hb6⟩
        obtain ⟨g6, c6, e6, _, hR6⟩ := own_bys ho6 (natB_ne _)
        subst e6
        have HR6 := Lib.hid hR6
        have HO6 := Lib.hid (HO5.out.below hb6)
        have HB6 := Lib.hid (below_then HB5.out hb6)
        have HLm := Lib.hid (show ((bys (chUp l j ++ (strB kk ++ yesB true))).length + (bys (natB (zig nn))).length) * 1 ≤ 140737488355328 from by
          have h1 := HLx.out
          rw [HNY.out, List.length_append] at h1
          simp only [bys_len]
          omega)
        clear ho6 hb6 hR6
        go_wp2_with (at_builtin; refine Classical.byContradiction fun hcontra => ?_)
        refine hcontra ?_
        clear hcontra
        refine appendN w.heap.size 5 1 1 (.int .u8 0) rfl (.tmp 28) (.tmp 31) 23 rfl Tryz.underlying23 (by kernel_rfl) rfl (by decide) (by decide) v5 (bys (chUp l j ++ (strB kk ++ yesB true))) (bys (natB (zig nn))) rfl (some ⟨g6, 0, none⟩) (natB (zig nn)).length c6 rfl (bys_len _).symm (fun h => by cases h) HR6.out (bys_one _) (bys_cell _) HO6.out HB6.out.size HLm.out ?_
        intro v7 w7 ho7 hf7
        have HO7 := Lib.hid (show Own w7 w.heap.size 5 1 v7 (bys (chUp l (j + 1))) from by rw [HNY.out, ← bys_app]; exact ho7)
        have HB7 := Lib.hid (HO6.out.fr_below HB6.out HB6.out.size hf7)
        clear ho7 hf7
        go_wp2_with fail
        go_roundg (N - (j + 1))
        case measure => omega
        case rel => exact ⟨j + 1, by omega, rfl, by go_num, HO7, HB7⟩
    · obtain rfl : j = N := by omega
      have hO := HO2.out
      rw [← HN.out, chUp_end] at hO
      have HO3 := Lib.hid hO
      clear hO
      go_wp2_with fail
      exact ⟨_, rfl, HO3.out, HB2.out⟩
end Go.Proofs.YtigffdmpofcdgaaGreatDoor
end

section
set_option linter.unusedVariables false
set_option linter.unusedSimpArgs false
set_option maxRecDepth 100000
namespace Go.Proofs.YtigffdmpofcdgaaGreatDoor
open Go.Proofs.BL Go.Proofs.Peel Go.RowKit Go.Proofs.Ky

theorem own_far {w : World} {base b : Nat} {E T : TypeId} {sz : Nat} {v : Value} {rows : List (List Value)} {cs : Array Value} (h : Own w base E sz v rows) (hB : Blk w b cs T) (hT : T ≠ E) : ∀ k, v.ownBlock = some k → k ≠ b := by
  intro k hk e
  rcases h.1.2 with ⟨h1, _⟩ | ⟨g, c', cur, h1, _, hh, _⟩
  · rw [h1] at hk; cases hk
  · rw [h1] at hk
    simp only [Value.ownBlock, Option.some.injEq] at hk
    subst hk e
    unfold Blk at hB
    rw [hh] at hB
    injection hB with hB
    injection hB with _ hB _
    exact hT hB.symm
set_option maxHeartbeats 8000000 in
theorem rEncode (A : Option Addr) (c : Nat) (l : List Cg) (w : World) (hr : RowsAt w 3 A (rwC l)) (hl : l.length ≤ 1000000) (hc : l.length ≤ c) (hok : ∀ x ∈ l, CgOk x) (hb : (chB l).length ≤ 1000000000) :
    Calls Tryz.prog 7 #[.slice A l.length c] w (ByAns w (chB l)) := by
  refine via fun Q hQ => ?_
  have HR := Lib.hid hr
  have HOK := Lib.hid hok
  have HIL := Lib.hid (fun q => Nat.le_trans (chUp_len l q) hb)
  have HZ := Lib.hid (chUp_zero l)
  clear hr hok hb
  generalize hN : l.length = N at *
  have HN := Lib.hid hN
  clear hN
  go_enter Tryz.func7, Tryz.ntmps7
  go_wp2_with fail
  (with_reducible refine (rnat N w (by omega)).mono ?_)
  rintro e w9 ⟨v9, rfl, ho9, hb9⟩
  have HO9 := Lib.hid (show Own w9 w.heap.size 5 1 v9 (bys (chUp l 0)) from by rw [HZ.out]; exact ho9)
  have HB9 := Lib.hid hb9
  clear ho9 hb9
  go_wp2_with fail
  go_loopg [3, 12] N (fun g u3 x12 wr => ∃ j : Nat, j ≤ N ∧ g = N - j ∧ x12 = .int .i64 j ∧ Hid (Own wr w.heap.size 5 1 u3 (bys (chUp l j))) ∧ Hid (Below w.heap.size w wr))
  case atStart => exact ⟨0, Nat.zero_le _, rfl, rfl, HO9, HB9⟩
  case round =>
    obtain ⟨j, hj, rfl, rfl, HO2, HB2⟩ := hrel
    by_cases hlt : j < N
    · have hxq : l[j]? = some (l[j]'(by rw [HN.out]; exact hlt)) := List.getElem?_eq_getElem _
      generalize l[j]'(by rw [HN.out]; exact hlt) = x at hxq
      have hokx := HOK.out x (List.mem_of_getElem? hxq)
      obtain ⟨kk, nn, tt⟩ := x
      have HK := Lib.hid hokx.1
      have HN1 := Lib.hid hokx.2
      obtain ⟨b3, o3, hA3, e1, e2, e3⟩ := chAt (HR.out.below HB2.out) hxq
      subst hA3
      simp only at e1 e2 e3
      have HNX := Lib.hid (show chUp l (j + 1) = chUp l j ++ strB kk ++ yesB tt ++ cgN (kk, nn, tt) from by rw [chUp_next hxq, cgB]; simp)
      have hal2 : Below wr.heap.size wr (wr.alloc (.cells #[.string kk, .int .i64 nn, .bool tt] 40)) := (Below.refl _ _).alloc (Nat.le_refl _) _
      have HO9 := Lib.hid (HO2.out.below hal2)
      have HB9 := Lib.hid (below_then HB2.out hal2)
      have hD0 : Blk (wr.alloc (.cells #[.string kk, .int .i64 nn, .bool tt] 40)) wr.heap.size #[.string kk, .int .i64 nn, .bool tt] 40 := Blk.new wr _ _
      have d0 := hD0.at_ 0 rfl
      simp only [List.getElem_toArray, List.getElem_cons_succ, List.getElem_cons_zero] at d0
      have HD0 := Lib.hid hD0
      have HLx := Lib.hid (show (chUp l j ++ strB kk ++ yesB tt ++ cgN (kk, nn, tt)).length ≤ 1000000000 from by rw [← HNX.out]; exact HIL.out (j + 1))
      have HL1 := Lib.hid (show ((bys (chUp l j)).length + (bys (strB kk)).length) * 1 ≤ 140737488355328 from by have h1 := HLx.out; simp only [List.length_append] at h1; simp only [bys_len]; omega)
      have HL2 := Lib.hid (show ((bys (chUp l j ++ strB kk)).length + (bys (yesB tt)).length) * 1 ≤ 140737488355328 from by have h1 := HLx.out; simp only [List.length_append] at h1; simp only [bys_len, List.length_append]; omega)
      have HL3 := Lib.hid (show ((bys (chUp l j ++ strB kk ++ yesB tt)).length + (bys (cgN (kk, nn, tt))).length) * 1 ≤ 140737488355328 from by have h1 := HLx.out; simp only [List.length_append] at h1; simp only [bys_len, List.length_append]; omega)
      clear hokx hxq hal2 HO2 HB2 hD0
      generalize hWW : wr.alloc (.cells #[.string kk, .int .i64 nn, .bool tt] 40) = WW at *
      go_wp2_with fail
      generalize wr.heap.size = t5 at *
      (with_reducible refine (rstr kk WW (by have := HK.out; omega)).mono ?_)
      rintro e w1 ⟨v1, rfl, ho1, hb1⟩
      obtain ⟨g1, c1, e1, _, hR1⟩ := own_bys ho1 (by simp [strB, natB])
      subst e1
      have HR1 := Lib.hid hR1
      have HO1 := Lib.hid (HO9.out.below hb1)
      have HB1 := Lib.hid (below_then HB9.out hb1)
      have hD1 := HD0.out.fr (Fr.of_below (S := none_) hb1) (fun h => h.elim)
      clear d0
      have d0 := hD1.at_ 0 rfl
      have d1 := hD1.at_ 1 rfl
      have d2 := hD1.at_ 2 rfl
      simp only [List.getElem_toArray, List.getElem_cons_succ, List.getElem_cons_zero] at d0 d1 d2
      have HD1 := Lib.hid hD1
      clear ho1 hb1 hR1 hD1 d1 d2
      go_wp2_with (at_builtin; refine Classical.byContradiction fun hcontra => ?_)
      refine hcontra ?_
      clear hcontra
      refine appendN w.heap.size 5 1 1 (.int .u8 0) rfl (.tmp 16) (.tmp 19) 23 rfl Tryz.underlying23 (by kernel_rfl) rfl (by decide) (by decide) u3 (bys (chUp l j)) (bys (strB kk)) rfl (some ⟨g1, 0, none⟩) (strB kk).length c1 rfl (bys_len _).symm (fun h => by cases h) HR1.out (bys_one _) (bys_cell _) HO1.out HB1.out.size HL1.out ?_
      intro v2 w2 ho2 hf2
      have HO2 := Lib.hid (show Own w2 w.heap.size 5 1 v2 (bys (chUp l j ++ strB kk)) from by rw [← bys_app]; exact ho2)
      have HB2 := Lib.hid (HO1.out.fr_below HB1.out HB1.out.size hf2)
      clear d0
      have hD2 := HD1.out.fr hf2 (fun h => own_far HO1.out HD1.out (by decide) _ h rfl)
      have d0 := hD2.at_ 0 rfl
      have d1 := hD2.at_ 1 rfl
      have d2 := hD2.at_ 2 rfl
      simp only [List.getElem_toArray, List.getElem_cons_succ, List.getElem_cons_zero] at d0 d1 d2
      have HD2 := Lib.hid hD2
      clear ho2 hf2 hD2
      go_wp2_with fail
      (with_reducible refine (ryes tt w2).mono ?_)
      rintro e w3 ⟨v3, rfl, ho3, hb3⟩
      obtain ⟨g3, c3, e3, _, hR3⟩ := own_bys ho3 (by simp [yesB])
      subst e3
      have HR3 := Lib.hid hR3
      have HO3 := Lib.hid (HO2.out.below hb3)
      have HB3 := Lib.hid (below_then HB2.out hb3)
      clear d0 d1 d2
      have hD3 := HD2.out.fr (Fr.of_below (S := none_) hb3) (fun h => h.elim)
      have d0 := hD3.at_ 0 rfl
      have d1 := hD3.at_ 1 rfl
      have d2 := hD3.at_ 2 rfl
      simp only [List.getElem_toArray, List.getElem_cons_succ, List.getElem_cons_zero] at d0 d1 d2
      have HD3 := Lib.hid hD3
      clear ho3 hb3 hR3 hD3 d0 d1 d2
      go_wp2_with (at_builtin; refine Classical.byContradiction fun hcontra => ?_)
      refine hcontra ?_
      clear hcontra
      refine appendN w.heap.size 5 1 1 (.int .u8 0) rfl (.tmp 21) (.tmp 24) 23 rfl Tryz.underlying23 (by kernel_rfl) rfl (by decide) (by decide) v2 (bys (chUp l j ++ strB kk)) (bys (yesB tt)) rfl (some ⟨g3, 0, none⟩) (yesB tt).length c3 rfl (bys_len _).symm (fun h => by cases h) HR3.out (bys_one _) (bys_cell _) HO3.out HB3.out.size HL2.out ?_
      intro v4 w4 ho4 hf4
      have HO4 := Lib.hid (show Own w4 w.heap.size 5 1 v4 (bys (chUp l j ++ strB kk ++ yesB tt)) from by rw [← bys_app]; exact ho4)
      have HB4 := Lib.hid (HO3.out.fr_below HB3.out HB3.out.size hf4)
      have hD4 := HD3.out.fr hf4 (fun h => own_far HO3.out HD3.out (by decide) _ h rfl)
      have d0 := hD4.at_ 0 rfl
      have d1 := hD4.at_ 1 rfl
      have d2 := hD4.at_ 2 rfl
      simp only [List.getElem_toArray, List.getElem_cons_succ, List.getElem_cons_zero] at d0 d1 d2
      have HD4 := Lib.hid hD4
      clear ho4 hf4 hD4
      cases tt with
      | false =>
        have HNY := Lib.hid (show chUp l (j + 1) = chUp l j ++ strB kk ++ yesB false from by rw [HNX.out]; simp [cgN])
        go_wp2_with fail
        go_roundg (N - (j + 1))
        case measure => omega
        case rel => exact ⟨j + 1, by omega, rfl, by go_num, Lib.hid (by rw [HNY.out]; exact HO4.out), HB4⟩
      | true =>
        have HNY := Lib.hid (show chUp l (j + 1) = chUp l j ++ strB kk ++ yesB true ++ natB (zig nn) from by rw [HNX.out]; simp [cgN])
        go_wp2_with fail
        (with_reducible refine (rnum nn w4 HN1.out.1 HN1.out.2).mono ?_)
        rintro e w5 ⟨v5, rfl, ho5, hb5⟩
        obtain ⟨g5, c5, e5, _, hR5⟩ := own_bys ho5 (natB_ne _)
        subst e5
        have HR5 := Lib.hid hR5
        have HO5 := Lib.hid (HO4.out.below hb5)
        have HB5 := Lib.hid (below_then HB4.out hb5)
        clear ho5 hb5 hR5
        go_wp2_with (at_builtin; refine Classical.byContradiction fun hcontra => ?_)
        refine hcontra ?_
        clear hcontra
        refine appendN w.heap.size 5 1 1 (.int .u8 0) rfl (.tmp 28) (.tmp 31) 23 rfl Tryz.underlying23 (by kernel_rfl) rfl (by decide) (by decide) v4 (bys (chUp l j ++ strB kk ++ yesB true)) (bys (natB (zig nn))) rfl (some ⟨g5, 0, none⟩) (natB (zig nn)).length c5 rfl (bys_len _).symm (fun h => by cases h) HR5.out (bys_one _) (bys_cell _) HO5.out HB5.out.size HL3.out ?_
        intro v6 w6 ho6 hf6
        have HO6 := Lib.hid (show Own w6 w.heap.size 5 1 v6 (bys (chUp l j ++ strB kk ++ yesB true ++ natB (zig nn))) from by rw [← bys_app]; exact ho6)
        have HB6 := Lib.hid (HO5.out.fr_below HB5.out HB5.out.size hf6)
        clear ho6 hf6
        go_wp2_with fail
        go_roundg (N - (j + 1))
        case measure => omega
        case rel => exact ⟨j + 1, by omega, rfl, by go_num, Lib.hid (by rw [HNY.out]; exact HO6.out), HB6⟩
    · obtain rfl : j = N := by omega
      have hO := HO2.out
      rw [← HN.out, chUp_end] at hO
      have HO3 := Lib.hid hO
      clear hO
      go_wp2_with fail
      exact ⟨_, rfl, HO3.out, HB2.out⟩
end Go.Proofs.YtigffdmpofcdgaaGreatDoor
end

section
set_option linter.unusedVariables false
set_option linter.unusedSimpArgs false
set_option maxRecDepth 100000
namespace Go.Proofs.YtigffdmpofcdgaaGreatDoor
open Go.Proofs.BL Go.Proofs.Peel Go.RowKit Go.Proofs.Ky

theorem below_fr {w a b : World} {p : Nat} (h : Below w.heap.size w a) (hp : w.heap.size ≤ p) (hf : Fr (only p) a b) : Below w.heap.size w b :=
  ⟨hf.os.trans h.os, hf.tape.trans h.tape, hf.output.trans h.output, Nat.le_trans h.size hf.size, fun k hk => (hf.block k (Nat.lt_of_lt_of_le hk h.size) (fun e => by have e : k = p := e; omega)).trans (h.block k hk)⟩
theorem below_own {w a b : World} {base : Nat} {E : TypeId} {sz : Nat} {v : Value} {rows : List (List Value)} (h : Below w.heap.size w a) (ho : Own a base E sz v rows) (hp : w.heap.size ≤ base) (hf : Fr (fun k => v.ownBlock = some k) a b) : Below w.heap.size w b :=
  ⟨hf.os.trans h.os, hf.tape.trans h.tape, hf.output.trans h.output, Nat.le_trans h.size hf.size, fun k hk => (hf.block k (Nat.lt_of_lt_of_le hk h.size) (fun e => by have := (ho.1.lt k e).1; omega)).trans (h.block k hk)⟩
theorem own_only {w w' : World} {base p : Nat} {E : TypeId} {sz : Nat} {v : Value} {rows : List (List Value)} (h : Own w base E sz v rows) (hp : p < base) (hf : Fr (only p) w w') : Own w' base E sz v rows :=
  h.fr hf (fun k hk e => by have e : k = p := e; have := (h.1.lt k hk).1; omega)
theorem own_rows {w : World} {base n c : Nat} {A : Option Addr} {E : TypeId} {sz : Nat} {rows : List (List Value)} (h : Own w base E sz (.slice A n c) rows) : RowsAt w sz A rows := by
  obtain ⟨A', c', e, _, _, hr⟩ := h.slv'
  injection e with e1 _ _
  rw [e1]; exact hr
theorem rd_far {S : Nat → Prop} {w w' : World} {p : Nat} {bs : List UInt8} {a : Nat} {c : List Lk} (h : Rd w p bs a c) (hf : Fr S w w') (hS : ∀ k, S k → p < k) (ht : ∀ k cs t f, S k → w.heap[k]? = some (.cells cs t f) → isErrT t = false) : Rd w' p bs a c := by
  obtain ⟨A, cp, ve, hB, h1, h2, hr, hp, hc⟩ := h
  refine ⟨A, cp, ve, hB.fr hf (fun h => Nat.lt_irrefl _ (hS _ h)), h1, h2, ?_, hp, hc.fr hf ht⟩
  by_cases hb : bs = []
  · subst hb; exact RowsAt.nil _ _ _
  · exact hr.fr hf (fun x hx h => by have := hp hb x hx; have := hS _ h; omega)
theorem rd_own {w w' : World} {p base : Nat} {bs : List UInt8} {a : Nat} {c : List Lk} {E : TypeId} {sz : Nat} {v : Value} {rows : List (List Value)} (h : Rd w p bs a c) (ho : Own w base E sz v rows) (hp : p < base) (hf : Fr (fun k => v.ownBlock = some k) w w') (hE : isErrT E = false := by rfl) : Rd w' p bs a c :=
  rd_far h hf (fun k hk => Nat.lt_of_lt_of_le hp (ho.1.lt k hk).1) (fun k cs t f hk hh => by rw [ho.own_type k hk hh]; exact hE)
theorem rd_blk {w w' : World} {p b : Nat} {bs : List UInt8} {a : Nat} {c : List Lk} {T : TypeId} {cs : Array Value} (h : Rd w p bs a c) (hB : Blk w b cs T) (hp : p < b) (hf : Fr (only b) w w') (hT : isErrT T = false := by rfl) : Rd w' p bs a c :=
  rd_far h hf (fun k hk => by have hk : k = b := hk; omega) (fun k cs' t f hk hh => by
    have hk : k = b := hk
    subst hk
    unfold Blk at hB
    rw [hB] at hh
    injection hh with hh
    injection hh with _ e _
    rw [← e]; exact hT)
theorem fr_set (w : World) (b i : Nat) (u : Value) : Fr (only b) w (w.setCell ⟨b, i, none⟩ u) := Fr.setCell (S := only b) (a := w) (p := ⟨b, i, none⟩) (Fr.refl (only b) w) (.inr (show b = b from rfl)) u
/-- What the loop of a decode comes to. -/
def runC (bs : List UInt8) : Option (List Cg × Nat) := if (rdNat bs 0 []).2.2 = [] then goC bs (rdNat bs 0 []).1 (rdNat bs 0 []).2.1 else none
theorem dec_run {bs : List UInt8} (h : (rdNat bs 0 []).1 ≤ 4096) : decC bs = (runC bs).bind (fun x => if bs.length ≤ x.2 then some x.1 else none) := by
  unfold decC runC
  by_cases hc : (rdNat bs 0 []).2.2 = []
  · rw [if_pos ⟨hc, h⟩, if_pos hc]
  · rw [if_neg (fun h => hc h.1), if_neg hc]; rfl
theorem mid_start (bs : List UInt8) : Mid bs (runC bs) (rdNat bs 0 []).1 [] (rdNat bs 0 []).2.1 (rdNat bs 0 []).2.2 := by
  refine ⟨Nat.zero_le _, tells_nat bs 0 (.inl rfl), fun h => ?_, fun h => if_neg h⟩
  rw [runC, if_pos h]; simp
theorem dec_many {bs : List UInt8} (h : ¬ (rdNat bs 0 []).1 ≤ 4096) : decC bs = none := if_neg (fun h1 => h h1.2)
theorem dec_bad {bs : List UInt8} (h : (rdNat bs 0 []).1 ≤ 4096) (hr : runC bs = none) : decC bs = none := by rw [dec_run h, hr]; rfl
theorem dec_tail {bs : List UInt8} {l : List Cg} {a : Nat} (h : (rdNat bs 0 []).1 ≤ 4096) (hr : runC bs = some (l, a)) (ha : a < bs.length) : decC bs = none := by rw [dec_run h, hr]; exact if_neg (by simp; omega)
theorem dec_ok {bs : List UInt8} {l : List Cg} {a : Nat} (h : (rdNat bs 0 []).1 ≤ 4096) (hr : runC bs = some (l, a)) (ha : bs.length ≤ a) : decC bs = some l := by rw [dec_run h, hr]; exact if_pos ha
def DecPost (r : Option (List Cg)) (w : World) (e : Ending) (w' : World) : Prop :=
  ∃ A c, e = .returned (.tuple #[.slice A (r.getD []).length c, .int .i64 (if r.isSome then 0 else 6)]) ∧ (r.getD []).length ≤ c ∧ RowsAt w' 3 A (rwC (r.getD [])) ∧ Below w.heap.size w w'
theorem DecPost.no {w w' : World} {r : Option (List Cg)} (h : r = none) (hb : Below w.heap.size w w') : DecPost r w (.returned (.tuple #[.slice none 0 0, .int .i64 6])) w' := by
  subst h
  exact ⟨none, 0, rfl, Nat.le_refl _, RowsAt.nil _ _ _, hb⟩
theorem DecPost.yes {w w' : World} {r : Option (List Cg)} {l : List Cg} {A : Option Addr} {c : Nat} (h : r = some l) (hb : Below w.heap.size w w') (hc : l.length ≤ c) (hr : RowsAt w' 3 A (rwC l)) : DecPost r w (.returned (.tuple #[.slice A l.length c, .int .i64 0])) w' := by
  subst h
  exact ⟨A, c, rfl, hc, hr, hb⟩
theorem stepC_t {bs : List UInt8} {a : Nat} {c : List Lk} (h : (rdYes bs (rdStr bs a c 16).2.1 (rdStr bs a c 16).2.2).1 = true) : stepC bs a c = (((rdStr bs a c 16).1, (rdNum bs (rdYes bs (rdStr bs a c 16).2.1 (rdStr bs a c 16).2.2).2.1 (rdYes bs (rdStr bs a c 16).2.1 (rdStr bs a c 16).2.2).2.2).1, true),
      (rdNum bs (rdYes bs (rdStr bs a c 16).2.1 (rdStr bs a c 16).2.2).2.1 (rdYes bs (rdStr bs a c 16).2.1 (rdStr bs a c 16).2.2).2.2).2) := by rw [stepC, if_pos h]
theorem stepC_f {bs : List UInt8} {a : Nat} {c : List Lk} (h : (rdYes bs (rdStr bs a c 16).2.1 (rdStr bs a c 16).2.2).1 = false) : stepC bs a c = (((rdStr bs a c 16).1, 0, false), (rdYes bs (rdStr bs a c 16).2.1 (rdStr bs a c 16).2.2).2) := by rw [stepC, h, if_neg (by simp)]
set_option maxHeartbeats 8000000 in
theorem cDecode (A : Option Addr) (cp : Nat) (bs : List UInt8) (w : World) (hcp : bs.length ≤ cp) (hr : RowsAt w 1 A (bys bs)) (hE : ErrT w) (hl : bs.length ≤ 1000000) :
    Calls Tryz.prog 8 #[.slice A bs.length cp] w (DecPost (decC bs) w) := by
  refine via fun Q hQ => ?_
  have HOf := Lib.hid (oof A cp bs w hcp hr)
  have hlt := rdNat_lt bs 0 []
  have HT := Lib.hid (fun h => dec_many (bs := bs) h)
  have HM := Lib.hid (mid_start bs)
  have HBd := Lib.hid (fun (h : (rdNat bs 0 []).1 ≤ 4096) => dec_bad h)
  have HTl := Lib.hid (fun (h : (rdNat bs 0 []).1 ≤ 4096) => fun l a => dec_tail (l := l) (a := a) h)
  have HOk := Lib.hid (fun (h : (rdNat bs 0 []).1 ≤ 4096) => fun l a => dec_ok (l := l) (a := a) h)
  have hN := fun (w' : World) (p : Nat) (h : Rd w' p bs 0 []) => mNat w' (by omega) h
  have HN := Lib.hid hN
  have HE := Lib.hid hE
  have HQ := Lib.hid hQ
  clear hr hN hE hQ
  generalize rdNat bs 0 [] = st at *
  obtain ⟨n, a0, c0⟩ := st
  simp only at hlt
  go_enter Tryz.func8, Tryz.ntmps8
  go_wp2_with fail
  (with_reducible refine HOf.out.mono ?_)
  rintro e w1 ⟨rfl, hR1, hb1⟩
  have HR1 := Lib.hid hR1
  have HB1 := Lib.hid hb1
  have hp1 := (show w.heap.size < w1.heap.size from by obtain ⟨_, _, _, hB, _⟩ := hR1; exact hB.lt)
  have HP1 := Lib.hid (Nat.le_refl w.heap.size)
  clear hR1 hb1
  generalize hp : w.heap.size = p at *
  go_wp2_with fail
  (with_reducible refine (HN.out w1 p HR1.out).mono ?_)
  rintro e w2 ⟨rfl, hR2, hf2⟩
  have HR2 := Lib.hid hR2
  have HB2 := Lib.hid (show Below w.heap.size w w2 from below_fr (by rw [hp]; exact HB1.out) (by omega) hf2)
  have HE2 := Lib.hid (HR1.out.errT (HE.out.below (by rw [hp]; exact HB1.out)) hf2)
  have hp2 : p < w2.heap.size := Nat.lt_of_lt_of_le hp1 hf2.size
  clear hR2 hf2 hp1
  simp only at *
  by_cases hn : n ≤ 4096
  · have hn2 : ¬ (4096 : Int) < (n : Int) := by omega
    go_wp2_with fail
    have HM2 := Lib.hid (show Mid bs (runC bs) n [] a0 c0 from HM.out)
    have HBd2 := Lib.hid (HBd.out hn)
    have HTl2 := Lib.hid (fun l a => HTl.out hn l a)
    have HOk2 := Lib.hid (fun l a => HOk.out hn l a)
    have HCD := Lib.hid (fun (n : Nat) (h : n ≤ 4096) => (show (n + 1) * 32 ≤ 140737488355328 from by omega))
    clear HT HM HBd HTl HOk HN HOf HR1 HB1 hlt
    generalize runC bs = R at *
    generalize decC bs = D at *
    go_loopg [6, 7] n (fun g x6 x7 wr => ∃ (l : List Cg) (a : Nat) (c : List Lk), l.length ≤ n ∧ g = n - l.length ∧ x7 = .int .u64 (l.length : Nat) ∧ Hid (Mid bs R n l a c) ∧ Hid (Own wr w2.heap.size 43 3 x6 (rwC l)) ∧ Hid (Rd wr p bs a c) ∧ Hid (ErrT wr) ∧ Hid (Below w.heap.size w wr) ∧ Hid (w2.heap.size ≤ wr.heap.size))
    case atStart => exact ⟨[], a0, c0, Nat.zero_le _, rfl, rfl, HM2, Lib.hid (Own.nil _ _ _ _), HR2, HE2, HB2, Lib.hid (Nat.le_refl _)⟩
    case round =>
      obtain ⟨l, a, c, hll, rfl, rfl, HMi, HO, HR, HEr, HB, HS⟩ := hrel
      clear HM2 HR2 HE2 HB2
      have HEn := Lib.hid (mEnd wr HEr.out (by omega) HR.out)
      have HAf := Lib.hid (fun (w' : World) (h : Fr (only p) wr w') => below_fr HB.out (by omega) h)
      have HOf := Lib.hid (fun (w' : World) (h : Fr (only p) wr w') => own_only HO.out hp2 h)
      by_cases hlt : l.length < n
      · have hlt2 : (l.length : Int) < (n : Int) := by omega
        go_wp2_with fail
        (with_reducible refine (mErr wr HEr.out HR.out).mono ?_)
        rintro e w3 ⟨rfl, hb3⟩
        have HR3 := Lib.hid (HR.out.below hb3)
        have HO3 := Lib.hid (HO.out.below hb3)
        have HE3 := Lib.hid (HEr.out.below hb3)
        have HB3 := Lib.hid (below_then HB.out hb3)
        have HS3 := Lib.hid (Nat.le_trans HS.out hb3.size)
        clear hb3
        by_cases hc : c = []
        · subst hc
          have HNx := Lib.hid (HMi.out.next hlt)
          have HT := Lib.hid (stepC_t (bs := bs) (a := a) (c := []))
          have HF := Lib.hid (stepC_f (bs := bs) (a := a) (c := []))
          have hM := mStr w3 16 (by omega) (by decide) (by decide) HR3.out
          have HLl := Lib.hid (show ((rwC l).length + 1) * 32 ≤ 140737488355328 from by rw [rwC_len]; omega)
          clear HEn HAf HOf
          generalize rdStr bs a [] 16 = st1 at *
          obtain ⟨s, a1, c1⟩ := st1
          have HMs := Lib.hid hM
          clear hM
          go_wp2_with fail
          (with_reducible refine HMs.out.mono ?_)
          rintro e w4 ⟨rfl, hR4, hf4⟩
          have HR4 := Lib.hid (show Rd w4 p bs a1 c1 from hR4)
          have HO4 := Lib.hid (own_only HO3.out hp2 hf4)
          have HE4 := Lib.hid (HR3.out.errT HE3.out hf4)
          have HB4 := Lib.hid (below_fr HB3.out (by omega) hf4)
          have HS4 := Lib.hid (Nat.le_trans HS3.out hf4.size)
          have hM := mYes w4 (by omega) HR4.out
          have HT := Lib.hid (show (rdYes bs a1 c1).1 = true → stepC bs a [] = ((s, (rdNum bs (rdYes bs a1 c1).2.1 (rdYes bs a1 c1).2.2).1, true), (rdNum bs (rdYes bs a1 c1).2.1 (rdYes bs a1 c1).2.2).2) from HT.out)
          have HF := Lib.hid (show (rdYes bs a1 c1).1 = false → stepC bs a [] = ((s, 0, false), (rdYes bs a1 c1).2) from HF.out)
          clear hR4 hf4 HR3 HO3 HE3 HB3 HS3 HR HO HEr HB HS HMs
          generalize rdYes bs a1 c1 = st2 at *
          obtain ⟨y, a2, c2⟩ := st2
          have HMy := Lib.hid hM
          clear hM
          go_wp2_with fail
          (with_reducible refine HMy.out.mono ?_)
          rintro e w5 ⟨rfl, hR5, hf5⟩
          have HR5 := Lib.hid (show Rd w5 p bs a2 c2 from hR5)
          have HO5 := Lib.hid (own_only HO4.out hp2 hf5)
          have HE5 := Lib.hid (HR4.out.errT HE4.out hf5)
          have HB5 := Lib.hid (below_fr HB4.out (by omega) hf5)
          have HS5 := Lib.hid (Nat.le_trans HS4.out hf5.size)
          have HT := Lib.hid (show y = true → stepC bs a [] = ((s, (rdNum bs a2 c2).1, true), (rdNum bs a2 c2).2) from HT.out)
          have HF := Lib.hid (show y = false → stepC bs a [] = ((s, 0, false), a2, c2) from HF.out)
          clear hR5 hf5 HR4 HO4 HE4 HB4 HS4 HMy
          have hal5 := (Below.refl w5.heap.size w5).alloc (Nat.le_refl _) (.cells #[.string s, .int .i64 0, .bool y] 43)
          have HD6 := Lib.hid (Blk.new w5 #[.string s, .int .i64 0, .bool y] 43)
          have HR6 := Lib.hid (HR5.out.below hal5)
          have HO6 := Lib.hid (HO5.out.below hal5)
          have HE6 := Lib.hid (HE5.out.below hal5)
          have HB6 := Lib.hid (below_then HB5.out hal5)
          have HS6 := Lib.hid (Nat.le_trans HS5.out hal5.size)
          have hp5 : p < w5.heap.size := by have := HS5.out; omega
          have HOl := Lib.hid (fun k hk => (HO5.out.1.lt k hk).2)
          clear HR5 HO5 HE5 HB5 HS5 hal5
          cases y with
          | false =>
            have HT := HF.out rfl
            have HNX := Lib.hid (show Mid bs R n (l ++ [(s, 0, false)]) a2 c2 from by have := HNx.out; rw [HT] at this; exact this)
            go_wp2_with (at_builtin; refine Classical.byContradiction fun hcontra => ?_)
            refine hcontra ?_
            clear hcontra
            refine append1 (W := w5.alloc (.cells #[.string s, .int .i64 0, .bool false] 43)) w2.heap.size 43 3 32 (.agg #[.string ⟨#[]⟩, .int .i64 0, .bool false]) rfl (.tmp 35) (.tmp 37) 26 rfl Tryz.underlying26 (by kernel_rfl) rfl (by decide) (by decide) u6 (rwC l) (enC (s, 0, false)) rfl _ rfl (by simp) rfl (enC_one _) HO6.out HS6.out HLl.out ?_
            intro v9 w9 ho9 hf9
            have HO9 := Lib.hid (show Own w9 w2.heap.size 43 3 v9 (rwC (l ++ [(s, 0, false)])) from by rw [rwC, List.map_append]; exact ho9)
            have HB9 := Lib.hid (below_own HB6.out HO6.out (by have := hp2; omega) hf9)
            have HS9 := Lib.hid (Nat.le_trans HS6.out hf9.size)
            have HR9 := Lib.hid (rd_own HR6.out HO6.out hp2 hf9)
            have HE9 := Lib.hid (HE.out.below HB9.out)
            clear ho9 hf9
            go_wp2_with fail
            go_roundg (n - (l.length + 1))
            case measure => omega
            case rel => exact ⟨l ++ [(s, 0, false)], _, _, by simp; omega, by simp, by simp, HNX, HO9, HR9, HE9, HB9, HS9⟩
          | true =>
            have hM := mNum _ (by omega) HR6.out
            have HTt := Lib.hid (HT.out rfl)
            generalize rdNum bs a2 c2 = st3 at *
            obtain ⟨nn, a3, c3⟩ := st3
            have HMn := Lib.hid hM
            clear hM
            go_wp2_with fail
            (with_reducible refine HMn.out.mono ?_)
            rintro e w7 ⟨rfl, hR7, hf7⟩
            have hD7 := HD6.out.fr hf7 (fun e => by have e : w5.heap.size = p := e; omega)
            have hR7 : Rd w7 p bs a3 c3 := hR7
            have hO7 := own_only HO6.out hp2 hf7
            have hB7 := below_fr HB6.out (by omega) hf7
            have hS7 := Nat.le_trans HS6.out hf7.size
            have m1 := hD7.free 1
            have g0 := hD7.at_ 0 rfl
            have g1 := hD7.at_ 1 rfl
            have g2 := hD7.at_ 2 rfl
            simp only [List.getElem_toArray, List.getElem_cons_succ, List.getElem_cons_zero] at g0 g1 g2
            have hf8 : Fr (only w5.heap.size) w7 (w7.setCell ⟨w5.heap.size, 1, none⟩ (.int .i64 nn)) := fr_set _ _ _ _
            have hD8 : Blk (w7.setCell ⟨w5.heap.size, 1, none⟩ (.int .i64 nn)) w5.heap.size #[.string s, .int .i64 nn, .bool true] 43 := hD7.set 1 (.int .i64 nn)
            have k0 := hD8.at_ 0 rfl
            have k1 := hD8.at_ 1 rfl
            have k2 := hD8.at_ 2 rfl
            simp only [List.getElem_toArray, List.getElem_cons_succ, List.getElem_cons_zero] at k0 k1 k2
            have HR8 := Lib.hid (rd_blk hR7 hD7 hp5 hf8)
            have HO8 := Lib.hid (hO7.fr hf8 (fun k hk e => by have e : k = w5.heap.size := e; have := HOl.out k hk; omega))
            have HB8 := Lib.hid (below_fr hB7 (by omega) hf8)
            have HS8 := Lib.hid (Nat.le_trans hS7 hf8.size)
            have HT := HTt.out
            clear hD7 hR7 hO7 hB7 hS7 hf7 hf8 hD8 HD6 HR6 HO6 HE6 HB6 HS6
            have HNX := Lib.hid (show Mid bs R n (l ++ [(s, nn, true)]) a3 c3 from by have := HNx.out; rw [HT] at this; exact this)
            go_wp2_with (at_builtin; refine Classical.byContradiction fun hcontra => ?_)
            refine hcontra ?_
            clear hcontra
            refine append1 (W := w7.setCell ⟨w5.heap.size, 1, none⟩ (.int .i64 nn)) w2.heap.size 43 3 32 (.agg #[.string ⟨#[]⟩, .int .i64 0, .bool false]) rfl (.tmp 35) (.tmp 37) 26 rfl Tryz.underlying26 (by kernel_rfl) rfl (by decide) (by decide) u6 (rwC l) (enC (s, nn, true)) rfl _ rfl (by simp [World.setCell]) rfl (enC_one _) HO8.out HS8.out HLl.out ?_
            intro v9 w9 ho9 hf9
            have HO9 := Lib.hid (show Own w9 w2.heap.size 43 3 v9 (rwC (l ++ [(s, nn, true)])) from by rw [rwC, List.map_append]; exact ho9)
            have HB9 := Lib.hid (below_own HB8.out HO8.out (by have := hp2; omega) hf9)
            have HS9 := Lib.hid (Nat.le_trans HS8.out hf9.size)
            have HR9 := Lib.hid (rd_own HR8.out HO8.out hp2 hf9)
            have HE9 := Lib.hid (HE.out.below HB9.out)
            clear ho9 hf9
            go_wp2_with fail
            go_roundg (n - (l.length + 1))
            case measure => omega
            case rel => exact ⟨l ++ [(s, nn, true)], _, _, by simp; omega, by simp, by simp, HNX, HO9, HR9, HE9, HB9, HS9⟩
        · have hne : ¬ codeOf c = 0 := fun h => hc (tells_nil HMi.out.2.1 h)
          have hnb : (codeOf c == 0) = false := int_diff hne
          have HRn := Lib.hid (HMi.out.bad hc)
          have HEn3 := Lib.hid (mEnd w3 HE3.out (by omega) HR3.out)
          have HCe := Lib.hid (show rdEnd bs a c = c from by rw [rdEnd, if_neg (fun h => hc h.1)])
          rw [HCe.out] at HEn3
          clear HEn HAf HOf hne
          generalize codeOf c = k at *
          go_wp2_with fail
          (with_reducible refine HEn3.out.mono ?_)
          rintro e w4 ⟨rfl, hR4, hf4⟩
          have HB4 := Lib.hid (below_fr HB3.out (by omega) hf4)
          clear hR4 hf4
          go_wp2_with fail
          exact HQ.out _ _ (DecPost.no (HBd2.out HRn.out) HB4.out)
      · have hlt2 : ¬ (l.length : Int) < (n : Int) := by omega
        obtain ⟨A5, c5, e5, h5, _, hr5⟩ := HO.out.slv'
        subst e5
        rw [rwC_len] at *
        by_cases hc : c = []
        · subst hc
          have HRn := Lib.hid (HMi.out.done hlt)
          by_cases ha : a < bs.length
          · have HCe := Lib.hid (show rdEnd bs a [] = bad6 a from by rw [rdEnd, if_pos ⟨rfl, ha⟩])
            have HEn3 := Lib.hid (show Calls Tryz.prog 28 #[.pointer (some ⟨p, 0, none⟩)] wr (AnsFr p bs wr (.int .i64 6) a (bad6 a)) from by have := HEn.out; rw [HCe.out] at this; exact this)
            clear HEn HOf
            go_wp2_with fail
            (with_reducible refine HEn3.out.mono ?_)
            rintro e w4 ⟨rfl, hR4, hf4⟩
            have HB4 := Lib.hid (HAf.out _ hf4)
            clear hR4 hf4
            go_wp2_with fail
            exact HQ.out _ _ (DecPost.no (HTl2.out l a HRn.out ha) HB4.out)
          · have HCe := Lib.hid (show rdEnd bs a [] = [] from by rw [rdEnd, if_neg (fun h => ha h.2)])
            have HEn3 := Lib.hid (show Calls Tryz.prog 28 #[.pointer (some ⟨p, 0, none⟩)] wr (AnsFr p bs wr (.int .i64 0) a []) from by have := HEn.out; rw [HCe.out] at this; exact this)
            clear HEn
            go_wp2_with fail
            (with_reducible refine HEn3.out.mono ?_)
            rintro e w4 ⟨rfl, hR4, hf4⟩
            have HB4 := Lib.hid (HAf.out _ hf4)
            have HO4 := Lib.hid (own_rows (HOf.out _ hf4))
            clear hR4 hf4
            go_wp2_with fail
            exact HQ.out _ _ (DecPost.yes (HOk2.out l a HRn.out (by omega)) HB4.out h5 HO4.out)
        · have hne : ¬ codeOf c = 0 := fun h => hc (tells_nil HMi.out.2.1 h)
          have hnb : (codeOf c == 0) = false := int_diff hne
          have HRn := Lib.hid (HMi.out.bad hc)
          have HEn3 := Lib.hid HEn.out
          have HCe := Lib.hid (show rdEnd bs a c = c from by rw [rdEnd, if_neg (fun h => hc h.1)])
          rw [HCe.out] at HEn3
          clear HEn HOf hne
          generalize codeOf c = k at *
          go_wp2_with fail
          (with_reducible refine HEn3.out.mono ?_)
          rintro e w4 ⟨rfl, hR4, hf4⟩
          have HB4 := Lib.hid (HAf.out _ hf4)
          clear hR4 hf4
          go_wp2_with fail
          exact HQ.out _ _ (DecPost.no (HBd2.out HRn.out) HB4.out)
  · have hn2 : (4096 : Int) < (n : Int) := by omega
    have HD := Lib.hid (HT.out hn)
    clear hn
    go_wp2_with fail
    exact HQ.out _ _ (DecPost.no HD.out HB2.out)
end Go.Proofs.YtigffdmpofcdgaaGreatDoor
end

section
set_option linter.unusedVariables false
set_option linter.unusedSimpArgs false
set_option maxRecDepth 100000
namespace Go.Proofs.YtigffdmpofcdgaaGreatDoor
open Go.Proofs.BL Go.Proofs.Peel Go.RowKit Go.Proofs.Ky

theorem rel_nat {bs : List UInt8} {a : Nat} {c : List Lk} {e bad : Int} (h : c = [] ↔ e = 0) :
    (dNat bs a e bad).1 = (rdNat bs a c).1 ∧ (dNat bs a e bad).2.1 = (rdNat bs a c).2.1 ∧ ((rdNat bs a c).2.2 = [] ↔ (dNat bs a e bad).2.2.1 = 0) := by
  by_cases hc : c = []
  · have he := h.1 hc
    subst hc he
    unfold dNat rdNat
    rw [if_pos rfl, if_pos rfl]
    cases hp : pnat (bs.drop a) with
    | none =>
      have : pnD (bs.drop a) = (0, 0) := by rw [pnD, hp]
      rw [this]
      simp [bad6]
    | some nk =>
      obtain ⟨n, k⟩ := nk
      have : pnD (bs.drop a) = (n, k) := by rw [pnD, hp]
      have hk := (pnat_len hp).2.1
      rw [this]
      simp only
      rw [if_neg (by omega)]
      simp
  · have he : ¬ e = 0 := fun h1 => hc (h.2 h1)
    unfold dNat rdNat
    rw [if_neg he, if_neg hc]
    exact ⟨rfl, rfl, h⟩
theorem rel_num {bs : List UInt8} {a : Nat} {c : List Lk} {e bad : Int} (h : c = [] ↔ e = 0) :
    (dNum bs a e bad).1 = (rdNum bs a c).1 ∧ (dNum bs a e bad).2.1 = (rdNum bs a c).2.1 ∧ ((rdNum bs a c).2.2 = [] ↔ (dNum bs a e bad).2.2.1 = 0) := by
  obtain ⟨h1, h2, h3⟩ := rel_nat (bs := bs) (a := a) (bad := bad) h
  exact ⟨by show zag _ = zag _; rw [h1], h2, h3⟩
theorem rel_str {bs : List UInt8} {a : Nat} {c : List Lk} {e bad most : Int} (h : c = [] ↔ e = 0) :
    (dStr bs a e bad most).1 = (rdStr bs a c most).1 ∧ (dStr bs a e bad most).2.1 = (rdStr bs a c most).2.1 ∧ ((rdStr bs a c most).2.2 = [] ↔ (dStr bs a e bad most).2.2.1 = 0) := by
  by_cases hc : c = []
  · have he := h.1 hc
    subst hc he
    unfold dStr rdStr
    rw [if_pos rfl, if_pos rfl]
    cases hp : pstr bs a most with
    | mk o x =>
      cases o with
      | none => simp [pstr_num hp]
      | some sa => simp
  · have he : ¬ e = 0 := fun h1 => hc (h.2 h1)
    unfold dStr rdStr
    rw [if_neg he, if_neg hc]
    exact ⟨rfl, rfl, h⟩
theorem rel_yes {bs : List UInt8} {a : Nat} {c : List Lk} {e bad : Int} (h : c = [] ↔ e = 0) :
    (dYes bs a e bad).1 = (rdYes bs a c).1 ∧ (dYes bs a e bad).2.1 = (rdYes bs a c).2.1 ∧ ((rdYes bs a c).2.2 = [] ↔ (dYes bs a e bad).2.2.1 = 0) := by
  by_cases hc : c = []
  · have he := h.1 hc
    subst hc he
    unfold dYes rdYes
    rw [if_pos rfl, if_pos rfl]
    cases hd : bs.drop a with
    | nil => simp [bad6]
    | cons x r =>
      by_cases hx : 1 < x.toNat
      · simp [hx, bad6]
      · simp [hx]
  · have he : ¬ e = 0 := fun h1 => hc (h.2 h1)
    unfold dYes rdYes
    rw [if_neg he, if_neg hc]
    exact ⟨rfl, rfl, h⟩
theorem rel_end {bs : List UInt8} {a : Nat} {c : List Lk} {e bad : Int} (h : c = [] ↔ e = 0) : (rdEnd bs a c = [] ↔ (dEnd bs a e bad).2.1 = 0) := by
  unfold rdEnd dEnd
  by_cases hc : c = []
  · have he := h.1 hc
    by_cases ha : a < bs.length
    · rw [if_pos ⟨hc, ha⟩, if_pos ⟨he, ha⟩]; simp [bad6]
    · rw [if_neg (fun h => ha h.2), if_neg (fun h => ha h.2)]; exact h
  · rw [if_neg (fun h => hc h.1), if_neg (fun h1 => hc (h.2 h1.1))]; exact h
/-- One change read by the document. -/
def stepD (bs : List UInt8) (a : Nat) (e bad : Int) : Cg × Nat × Int × Int :=
  if (dYes bs (dStr bs a e bad 16).2.1 (dStr bs a e bad 16).2.2.1 (dStr bs a e bad 16).2.2.2).1 then
    (((dStr bs a e bad 16).1, (dNum bs (dYes bs (dStr bs a e bad 16).2.1 (dStr bs a e bad 16).2.2.1 (dStr bs a e bad 16).2.2.2).2.1 (dYes bs (dStr bs a e bad 16).2.1 (dStr bs a e bad 16).2.2.1 (dStr bs a e bad 16).2.2.2).2.2.1 (dYes bs (dStr bs a e bad 16).2.1 (dStr bs a e bad 16).2.2.1 (dStr bs a e bad 16).2.2.2).2.2.2).1, true),
      (dNum bs (dYes bs (dStr bs a e bad 16).2.1 (dStr bs a e bad 16).2.2.1 (dStr bs a e bad 16).2.2.2).2.1 (dYes bs (dStr bs a e bad 16).2.1 (dStr bs a e bad 16).2.2.1 (dStr bs a e bad 16).2.2.2).2.2.1 (dYes bs (dStr bs a e bad 16).2.1 (dStr bs a e bad 16).2.2.1 (dStr bs a e bad 16).2.2.2).2.2.2).2)
  else (((dStr bs a e bad 16).1, 0, false), (dYes bs (dStr bs a e bad 16).2.1 (dStr bs a e bad 16).2.2.1 (dStr bs a e bad 16).2.2.2).2)
theorem rel_step {bs : List UInt8} {a : Nat} {c : List Lk} {e bad : Int} (h : c = [] ↔ e = 0) :
    (stepD bs a e bad).1 = (stepC bs a c).1 ∧ (stepD bs a e bad).2.1 = (stepC bs a c).2.1 ∧ ((stepC bs a c).2.2 = [] ↔ (stepD bs a e bad).2.2.1 = 0) := by
  unfold stepD stepC
  obtain ⟨h1, h2, h3⟩ := rel_str (bs := bs) (a := a) (bad := bad) (most := 16) h
  generalize dStr bs a e bad 16 = s at *
  generalize rdStr bs a c 16 = r at *
  obtain ⟨s, a1, e1, b1⟩ := s
  obtain ⟨s', a1', c1⟩ := r
  simp only at h1 h2 h3
  subst h1 h2
  obtain ⟨h4, h5, h6⟩ := rel_yes (bs := bs) (a := a1) (bad := b1) h3
  simp only
  generalize dYes bs a1 e1 b1 = y at *
  generalize rdYes bs a1 c1 = z at *
  obtain ⟨y, a2, e2, b2⟩ := y
  obtain ⟨y', a2', c2⟩ := z
  simp only at h4 h5 h6
  subst h4 h5
  obtain ⟨h7, h8, h9⟩ := rel_num (bs := bs) (a := a2) (bad := b2) h6
  cases y with
  | false => exact ⟨rfl, rfl, h6⟩
  | true =>
    simp only [if_true]
    exact ⟨by rw [h7], h8, h9⟩
theorem stepD_t {bs : List UInt8} {a a1 a2 a3 : Nat} {e bad e1 b1 e2 b2 e3 b3 n : Int} {s : ByteArray} (h1 : dStr bs a e bad 16 = (s, a1, e1, b1)) (h2 : dYes bs a1 e1 b1 = (true, a2, e2, b2)) (h3 : dNum bs a2 e2 b2 = (n, a3, e3, b3)) : stepD bs a e bad = ((s, n, true), a3, e3, b3) := by
  rw [stepD, h1]; simp only; rw [h2]; simp only [if_true]; rw [h3]
theorem stepD_f {bs : List UInt8} {a a1 a2 : Nat} {e bad e1 b1 e2 b2 : Int} {s : ByteArray} (h1 : dStr bs a e bad 16 = (s, a1, e1, b1)) (h2 : dYes bs a1 e1 b1 = (false, a2, e2, b2)) : stepD bs a e bad = ((s, 0, false), a2, e2, b2) := by
  rw [stepD, h1]; simp only; rw [h2]; rfl
/-- How far the document's loop has come. -/
def MidD (bs : List UInt8) (R : Option (List Cg × Nat)) (n : Nat) (l : List Cg) (a : Nat) (e : Int) : Prop := ∃ c, (c = [] ↔ e = 0) ∧ Mid bs R n l a c
theorem midD_start (bs : List UInt8) : MidD bs (runC bs) (dNat bs 0 0 (-1)).1 [] (dNat bs 0 0 (-1)).2.1 (dNat bs 0 0 (-1)).2.2.1 := by
  obtain ⟨h1, h2, h3⟩ := rel_nat (bs := bs) (a := 0) (c := []) (e := 0) (bad := -1) (by simp)
  rw [h1, h2]
  exact ⟨_, h3, mid_start bs⟩
theorem MidD.next {bs : List UInt8} {R : Option (List Cg × Nat)} {n : Nat} {l : List Cg} {a : Nat} {bad : Int} (h : MidD bs R n l a 0) (hl : l.length < n) : MidD bs R n (l ++ [(stepD bs a 0 bad).1]) (stepD bs a 0 bad).2.1 (stepD bs a 0 bad).2.2.1 := by
  obtain ⟨c, h1, h2⟩ := h
  have hc := h1.2 rfl
  subst hc
  obtain ⟨h3, h4, h5⟩ := rel_step (bs := bs) (a := a) (bad := bad) h1
  rw [h3, h4]
  exact ⟨_, h5, h2.next hl⟩
theorem MidD.done {bs : List UInt8} {R : Option (List Cg × Nat)} {n : Nat} {l : List Cg} {a : Nat} (h : MidD bs R n l a 0) (hl : ¬ l.length < n) : R = some (l, a) := by
  obtain ⟨c, h1, h2⟩ := h
  have hc := h1.2 rfl
  subst hc
  exact h2.done hl
theorem MidD.bad {bs : List UInt8} {R : Option (List Cg × Nat)} {n : Nat} {l : List Cg} {a : Nat} {e : Int} (h : MidD bs R n l a e) (he : ¬ e = 0) : R = none := by
  obtain ⟨c, h1, h2⟩ := h
  exact h2.bad (fun hc => he (h1.1 hc))
theorem nat_same (bs : List UInt8) : (dNat bs 0 0 (-1)).1 = (rdNat bs 0 []).1 := (rel_nat (bs := bs) (a := 0) (c := []) (e := 0) (bad := -1) (by simp)).1
def RDecPost (r : Option (List Cg)) (w : World) (e : Ending) (w' : World) : Prop :=
  ∃ A c, e = .returned (.tuple #[.slice A (r.getD []).length c, .bool r.isSome]) ∧ (r.getD []).length ≤ c ∧ RowsAt w' 3 A (rwC (r.getD [])) ∧ Below w.heap.size w w'
theorem RDecPost.no {w w' : World} {r : Option (List Cg)} (h : r = none) (hb : Below w.heap.size w w') : RDecPost r w (.returned (.tuple #[.slice none 0 0, .bool false])) w' := by
  subst h
  exact ⟨none, 0, rfl, Nat.le_refl _, RowsAt.nil _ _ _, hb⟩
theorem RDecPost.yes {w w' : World} {r : Option (List Cg)} {l : List Cg} {A : Option Addr} {c : Nat} (h : r = some l) (hb : Below w.heap.size w w') (hc : l.length ≤ c) (hr : RowsAt w' 3 A (rwC l)) : RDecPost r w (.returned (.tuple #[.slice A l.length c, .bool true])) w' := by
  subst h
  exact ⟨A, c, rfl, hc, hr, hb⟩
theorem tailD {bs : List UInt8} {R : Option (List Cg × Nat)} {D : Option (List Cg)} {n : Nat} {l : List Cg} {a : Nat} {e b : Int} (hM : MidD bs R n l a e) (hT : ¬ n ≤ 4096 → D = none) (hB : n ≤ 4096 → R = none → D = none)
    (hTl : n ≤ 4096 → ∀ l a, R = some (l, a) → a < bs.length → D = none) (hOk : n ≤ 4096 → ∀ l a, R = some (l, a) → bs.length ≤ a → D = some l) (hx : e = 0 → n ≤ 4096 → ¬ l.length < n) :
    ∀ k, (dEnd bs a e b).2.1 = k → (¬ k = 0 → D = none) ∧ (k = 0 → ¬ n ≤ 4096 → D = none) ∧ (k = 0 → n ≤ 4096 → D = some l) := by
  intro k hk
  subst hk
  refine ⟨fun h => ?_, fun _ h => hT h, fun h hn => ?_⟩
  · by_cases hn : n ≤ 4096
    · by_cases he : e = 0
      · subst he
        unfold dEnd at h
        by_cases ha : a < bs.length
        · exact hTl hn l a (hM.done (hx rfl hn)) ha
        · rw [if_neg (fun h => ha h.2)] at h; exact absurd rfl h
      · exact hB hn (hM.bad he)
    · exact hT hn
  · by_cases he : e = 0
    · subst he
      unfold dEnd at h
      by_cases ha : a < bs.length
      · rw [if_pos ⟨rfl, ha⟩] at h; exact absurd (show (6 : Int) = 0 from h) (by decide)
      · exact hOk hn l a (hM.done (hx rfl hn)) (by omega)
    · unfold dEnd at h
      rw [if_neg (fun h => he h.1)] at h
      exact absurd h he
theorem dNum_le {bs : List UInt8} {a : Nat} {e bad : Int} (ha : a ≤ bs.length) : (dNum bs a e bad).2.1 ≤ bs.length := (dNat_le (e := e) (bad := bad) ha).1
set_option maxHeartbeats 8000000 in
theorem rDecode (A : Option Addr) (cp : Nat) (bs : List UInt8) (w : World) (hcp : bs.length ≤ cp) (hr : RowsAt w 1 A (bys bs)) (hl : bs.length ≤ 1000000) :
    Calls Tryz.prog 9 #[.slice A bs.length cp] w (RDecPost (decC bs) w) := by
  refine via fun Q hQ => ?_
  have hS0 := (Sat.start w).old_rows hr (by decide) (bys_one bs)
  have HOf := Lib.hid (dOf hS0 hcp)
  have hlt := (dNat_le (bs := bs) (e := 0) (bad := -1) (Nat.zero_le _))
  have hns := nat_same bs
  have HT := Lib.hid (fun (h : ¬ (dNat bs 0 0 (-1)).1 ≤ 4096) => dec_many (bs := bs) (by rw [← hns]; exact h))
  have HM := Lib.hid (midD_start bs)
  have HBd := Lib.hid (fun (h : (dNat bs 0 0 (-1)).1 ≤ 4096) => dec_bad (bs := bs) (by rw [← hns]; exact h))
  have HTl := Lib.hid (fun (h : (dNat bs 0 0 (-1)).1 ≤ 4096) => fun l a => dec_tail (bs := bs) (l := l) (a := a) (by rw [← hns]; exact h))
  have HOk := Lib.hid (fun (h : (dNat bs 0 0 (-1)).1 ≤ 4096) => fun l a => dec_ok (bs := bs) (l := l) (a := a) (by rw [← hns]; exact h))
  have HN := Lib.hid (fun (w' : World) (p : Nat) (l : List Part) (h : Sat (rI p bs 0 0 (-1) :: l) w') => mDNat (by omega) (Nat.zero_le _) h)
  have HQ := Lib.hid hQ
  clear hr hQ hS0 hns
  generalize runC bs = R at *
  generalize decC bs = D at *
  generalize dNat bs 0 0 (-1) = st at *
  obtain ⟨n, a0, e0, b0⟩ := st
  simp only at hlt
  obtain ⟨hle, hlt⟩ := hlt
  go_enter Tryz.func9, Tryz.ntmps9
  go_wp2_with fail
  (with_reducible refine HOf.out.mono ?_)
  rintro e w1 ⟨p, rfl, hS1⟩
  have HS1 := Lib.hid hS1
  clear hS1
  go_wp2_with fail
  (with_reducible refine (HN.out w1 p _ HS1.out).mono ?_)
  rintro e w2 ⟨rfl, hS2⟩
  have HS2 := Lib.hid ((show Sat (rI p bs a0 e0 b0 :: roR 1 A (bys bs) :: [old w]) w2 from hS2).s1.drop.nilR 40 3)
  have HM2 := Lib.hid (show MidD bs R n [] a0 e0 from HM.out)
  have HLe := Lib.hid (show a0 ≤ bs.length from hle)
  clear hS2 HS1 HM HOf HN hle
  go_wp2_with fail
  have hn64 : n < 18446744073709551616 := hlt
  go_loopg [6, 7] 4097 (fun g x6 x7 wr => ∃ (l : List Cg) (a : Nat) (e b : Int), l.length ≤ 4097 ∧ l.length ≤ n ∧ g = 4097 - l.length ∧ x7 = .int .u64 (l.length : Nat) ∧ Hid (MidD bs R n l a e) ∧ Hid (a ≤ bs.length) ∧ Hid (Sat (ownR x6 40 3 (rwC l) :: rI p bs a e b :: [old w]) wr))
  case atStart => exact ⟨[], a0, e0, b0, by simp, Nat.zero_le _, rfl, rfl, HM2, HLe, HS2⟩
  case round =>
    obtain ⟨l, a, e, b, hll, hln, rfl, rfl, HMi, HA, HS⟩ := hrel
    clear HM2 HLe HS2
    obtain ⟨A1, cc, hcc, h2⟩ := HS.out.s1.openRi
    have c2 := h2.blk_.at_ 2 rfl
    simp only [List.getElem_toArray, List.getElem_cons_succ, List.getElem_cons_zero] at c2
    clear h2 hcc
    by_cases hstep : l.length < n ∧ l.length < 4097 ∧ e = 0
    · obtain ⟨h1, h2, h3⟩ := hstep
      subst h3
      have h1i : (l.length : Int) < (n : Int) := by omega
      have h2i : (l.length : Int) < 4097 := by omega
      have HLl := Lib.hid (show ((rwC l).length + 1) * 32 ≤ 140737488355328 from by rw [rwC_len]; omega)
      have hM := mDStr 16 (by omega) HA.out (by decide) (by decide) HS.out.s1
      have hle1 := dStr_le (e := 0) (bad := b) (most := 16) HA.out
      have HNx := Lib.hid (HMi.out.next (bad := b) h1)
      clear HT HBd HTl HOk HMi HS
      cases hs : dStr bs a 0 b 16 with
      | mk s st =>
      obtain ⟨a1, e1, b1⟩ := st
      rw [hs] at hM hle1
      have Hs := Lib.hid hs
      have HMs := Lib.hid hM
      have HA1 := Lib.hid (show a1 ≤ bs.length from hle1)
      clear hM hs hle1
      go_wp2_with fail
      (with_reducible refine HMs.out.mono ?_)
      rintro e' w3 ⟨rfl, hS3⟩
      have HS3 := Lib.hid (hS3.alloc #[.string s, .int .i64 0, .bool false] 40).s1
      have hM := mDYes (by omega) HA1.out HS3.out
      have hle2 := dYes_le (e := e1) (bad := b1) HA1.out
      clear hS3 HMs
      cases hy : dYes bs a1 e1 b1 with
      | mk y st =>
      obtain ⟨a2, e2, b2⟩ := st
      rw [show dYes bs a1 (a1, e1, b1).2.1 (a1, e1, b1).2.2 = dYes bs a1 e1 b1 from rfl, hy] at hM
      rw [hy] at hle2
      have Hy := Lib.hid hy
      have HMy := Lib.hid hM
      have HA2 := Lib.hid (show a2 ≤ bs.length from hle2)
      clear hM hy hle2
      go_wp2_with fail
      (with_reducible refine HMy.out.mono ?_)
      rintro e'' w4 ⟨rfl, hS4⟩
      have hS4 : Sat (rI p bs a2 e2 b2 :: blk w3.heap.size #[.string s, .int .i64 0, .bool false] 40 :: ownR u6 40 3 (rwC l) :: [old w]) w4 := hS4
      clear HMy HS3
      generalize w3.heap.size = t8 at *
      have f2 := hS4.s1.blk_.free 2
      have g0 := hS4.s1.blk_.at_ 0 rfl
      have g1 := hS4.s1.blk_.at_ 1 rfl
      have g2 := hS4.s1.blk_.at_ 2 rfl
      simp only [List.getElem_toArray, List.getElem_cons_succ, List.getElem_cons_zero] at g0 g1 g2
      have hS5 : Sat (blk t8 #[.string s, .int .i64 0, .bool y] 40 :: rI p bs a2 e2 b2 :: ownR u6 40 3 (rwC l) :: [old w]) (w4.setCell ⟨t8, 2, none⟩ (.bool y)) := hS4.s1.set 2 (.bool y)
      have k0 := hS5.blk_.at_ 0 rfl
      have k1 := hS5.blk_.at_ 1 rfl
      have k2 := hS5.blk_.at_ 2 rfl
      simp only [List.getElem_toArray, List.getElem_cons_succ, List.getElem_cons_zero] at k0 k1 k2
      have HS5 := Lib.hid hS5
      clear hS4 hS5
      cases y with
      | false =>
        have HNX := Lib.hid (show MidD bs R n (l ++ [(s, 0, false)]) a2 e2 from by have := HNx.out; rw [stepD_f Hs.out Hy.out] at this; exact this)
        have HS8 := Lib.hid HS5.out.drop.s1
        go_wp2_with (at_builtin; refine Classical.byContradiction fun hcontra => ?_)
        refine hcontra ?_
        clear hcontra
        refine satApp (W := w4.setCell ⟨t8, 2, none⟩ (.bool false)) 40 3 32 (.agg #[.string ⟨#[]⟩, .int .i64 0, .bool false]) rfl (.tmp 40) (.tmp 42) 22 rfl Tryz.underlying22 (by kernel_rfl) rfl (by decide) (by decide) u6 (rwC l) (enC (s, 0, false)) rfl _ rfl (by simp [World.setCell]) rfl (enC_one _) HS8.out rfl HLl.out ?_
        intro v9 w9 hS9
        have HS9 := Lib.hid (show Sat (ownR v9 40 3 (rwC (l ++ [(s, 0, false)])) :: rI p bs a2 e2 b2 :: [old w]) w9 from by rw [rwC, List.map_append]; exact hS9)
        clear hS9
        go_wp2_with fail
        go_roundg (4097 - (l.length + 1))
        case measure => omega
        case rel => exact ⟨l ++ [(s, 0, false)], a2, e2, b2, by simp; omega, by simp; omega, by simp, by simp, HNX, HA2, HS9⟩
      | true =>
        have hM := mDNum (by omega) HA2.out HS5.out.s1
        have hle3 := dNum_le (e := e2) (bad := b2) HA2.out
        cases hn3 : dNum bs a2 e2 b2 with
        | mk nn st =>
        obtain ⟨a3, e3, b3⟩ := st
        rw [hn3] at hM hle3
        have Hn := Lib.hid hn3
        have HMn := Lib.hid hM
        have HA3 := Lib.hid (show a3 ≤ bs.length from hle3)
        clear hM hn3 hle3
        go_wp2_with fail
        (with_reducible refine HMn.out.mono ?_)
        rintro e6 w6 ⟨rfl, hS6⟩
        have hS6 : Sat (rI p bs a3 e3 b3 :: blk t8 #[.string s, .int .i64 0, .bool true] 40 :: ownR u6 40 3 (rwC l) :: [old w]) w6 := hS6
        have f1 := hS6.s1.blk_.free 1
        have q0 := hS6.s1.blk_.at_ 0 rfl
        have q1 := hS6.s1.blk_.at_ 1 rfl
        have q2 := hS6.s1.blk_.at_ 2 rfl
        simp only [List.getElem_toArray, List.getElem_cons_succ, List.getElem_cons_zero] at q0 q1 q2
        have hS7 : Sat (blk t8 #[.string s, .int .i64 nn, .bool true] 40 :: rI p bs a3 e3 b3 :: ownR u6 40 3 (rwC l) :: [old w]) (w6.setCell ⟨t8, 1, none⟩ (.int .i64 nn)) := hS6.s1.set 1 (.int .i64 nn)
        have j0 := hS7.blk_.at_ 0 rfl
        have j1 := hS7.blk_.at_ 1 rfl
        have j2 := hS7.blk_.at_ 2 rfl
        simp only [List.getElem_toArray, List.getElem_cons_succ, List.getElem_cons_zero] at j0 j1 j2
        have HS7 := Lib.hid hS7
        clear hS6 hS7 HS5 HMn k0 k1 k2 g0 g1 g2
        have HNX := Lib.hid (show MidD bs R n (l ++ [(s, nn, true)]) a3 e3 from by have := HNx.out; rw [stepD_t Hs.out Hy.out Hn.out] at this; exact this)
        have HS8 := Lib.hid HS7.out.drop.s1
        go_wp2_with (at_builtin; refine Classical.byContradiction fun hcontra => ?_)
        refine hcontra ?_
        clear hcontra
        refine satApp (W := w6.setCell ⟨t8, 1, none⟩ (.int .i64 nn)) 40 3 32 (.agg #[.string ⟨#[]⟩, .int .i64 0, .bool false]) rfl (.tmp 40) (.tmp 42) 22 rfl Tryz.underlying22 (by kernel_rfl) rfl (by decide) (by decide) u6 (rwC l) (enC (s, nn, true)) rfl _ rfl (by simp [World.setCell]) rfl (enC_one _) HS8.out rfl HLl.out ?_
        intro v9 w9 hS9
        have HS9 := Lib.hid (show Sat (ownR v9 40 3 (rwC (l ++ [(s, nn, true)])) :: rI p bs a3 e3 b3 :: [old w]) w9 from by rw [rwC, List.map_append]; exact hS9)
        clear hS9
        go_wp2_with fail
        go_roundg (4097 - (l.length + 1))
        case measure => omega
        case rel => exact ⟨l ++ [(s, nn, true)], a3, e3, b3, by simp; omega, by simp; omega, by simp, by simp, HNX, HA3, HS9⟩
    · have HTd := Lib.hid (tailD (b := b) HMi.out HT.out HBd.out HTl.out HOk.out (fun he hn hlt => hstep ⟨hlt, by omega, he⟩))
      have HEn := Lib.hid (mDEnd (by omega) HA.out HS.out.s1)
      obtain ⟨A5, c5, e5, h5, _, hr5⟩ := HS.out.own_.slv'
      subst e5
      rw [rwC_len] at *
      have hk := HTd.out _ rfl
      have HK := Lib.hid hk
      clear hk HTd HT HBd HTl HOk HS
      generalize dEnd bs a e b = st at *
      obtain ⟨a9, k, b9⟩ := st
      have HK2 := Lib.hid (show (¬ k = 0 → D = none) ∧ (k = 0 → ¬ n ≤ 4096 → D = none) ∧ (k = 0 → n ≤ 4096 → D = some l) from HK.out)
      clear HK
      have hre : (¬ (l.length : Int) < (n : Int)) ∨ ((l.length : Int) < (n : Int) ∧ ¬ (l.length : Int) < 4097) ∨ ((l.length : Int) < (n : Int) ∧ (l.length : Int) < 4097 ∧ (e == 0) = false) := by
        by_cases h1 : (l.length : Int) < (n : Int)
        · by_cases h2 : (l.length : Int) < 4097
          · exact .inr (.inr ⟨h1, h2, int_diff (fun h3 => hstep ⟨by omega, by omega, h3⟩)⟩)
          · exact .inr (.inl ⟨h1, h2⟩)
        · exact .inl h1
      clear hstep
      rcases hre with h1i | ⟨h1i, h2i⟩ | ⟨h1i, h2i, h3i⟩
      all_goals
        go_wp2_with fail
        (with_reducible refine HEn.out.mono ?_)
        rintro e' w4 ⟨rfl, hS4⟩
        have HB4 := Lib.hid hS4.drop.drop.old_
        have HR4 := Lib.hid (own_rows hS4.s1.own_)
        clear hS4 HEn
        by_cases hk : k = 0
        · by_cases hn : n ≤ 4096
          · have hn2 : ¬ (4096 : Int) < (n : Int) := by omega
            have HD := Lib.hid (HK2.out.2.2 hk hn)
            subst hk
            clear HK2
            go_wp2_with fail
            first | exact HQ.out _ _ (RDecPost.yes HD.out HB4.out h5 HR4.out) | trace_state
          · have hn2 : (4096 : Int) < (n : Int) := by omega
            have HD := Lib.hid (HK2.out.2.1 hk hn)
            subst hk
            clear HK2
            go_wp2_with fail
            first | exact HQ.out _ _ (RDecPost.no HD.out HB4.out) | trace_state
        · have hkb : (k != 0) = true := bne_iff_ne.2 hk
          have HD := Lib.hid (HK2.out.1 hk)
          clear hk HK2
          go_wp2_with fail
          first | exact HQ.out _ _ (RDecPost.no HD.out HB4.out) | trace_state
end Go.Proofs.YtigffdmpofcdgaaGreatDoor
end
