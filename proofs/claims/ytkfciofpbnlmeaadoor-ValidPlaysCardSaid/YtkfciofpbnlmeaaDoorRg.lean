/- A region that draws its order: what is asked of the worlds (S) is asked only till one operation (z) has come up. -/
import Derived.OrdersHeld
import Derived.RegionTactic
import Derived.Deep.RegionHeld
namespace Go.Proofs.Rg

section
variable {P : Program} {ops : Array Oper} {Q : Exit → Act → World → Prop} {md : Region.Mode} {S : World → Prop} {z : Nat}

/-- In whatever order; S holds behind each operation as long as number z has not come up. -/
def wpL (P : Program) (md : Region.Mode) (ops : Array Oper) (Q : Exit → Act → World → Prop) (S : World → Prop) (z : Nat) : Nat → Array Bool → Act → World → Prop
  | 0, l, a, w => Region.ready md ops l = [] ∧ Q .normal a w
  | n + 1, l, a, w => (Region.ready md ops l = [] → Q .normal a w) ∧
    ∀ i ∈ Region.ready md ops l, wpOp P ops Q i (fun a' w' => ((l.setIfInBounds i true).getD z true = false → S w') ∧ wpL P md ops Q S z n (l.setIfInBounds i true) a' w') a w
theorem any_of : ∀ (n : Nat) (l : Array Bool) (a : Act) (w : World), wpL P md ops Q S z n l a w → wpAny P md ops Q n l a w
  | 0, _, _, _, h => h
  | n + 1, _, _, _, h => ⟨h.1, fun i hi => wpOp_mono (fun a' w' h' => any_of n _ a' w' h'.2) (h.2 i hi)⟩
/-- Does z wait for i? -/
def waits (md : Region.Mode) (ops : Array Oper) (z i : Nat) : Bool := match ops[z]? with
  | some o => o.after.any fun e => Region.binds md e && e.on == i
  | none => false
theorem first_ {i : Nat} {oi : Oper} {v : Value} (hi : ops[i]? = some oi) (hsel : Region.noSelect ops = true) (hQ : ∀ c a w, Q (.panic c) (a.put oi.dst v) w → Q (.panic c) a w) (hw : waits md ops z i = true) :
    ∀ (n : Nat) (l : Array Bool) (a : Act) (w : World), Region.free md ops l i = true → i ∈ Region.ready md ops l → l.getD z true = false → YieldsIf P ops S oi v a → S w →
      wpL P md ops Q S z n (l.setIfInBounds i true) (a.put oi.dst v) w → wpL P md ops Q S z (n + 1) l a w
  | n, l, a, w, hf, hr, hz, hy, hS, H => by
    refine ⟨fun h => (by rw [h] at hr; cases hr), fun j hj => ?_⟩
    by_cases e : j = i
    · subst e
      exact hy.wpOp hi hS ⟨fun _ => hS, H⟩
    have hji := ready_mono hj e
    cases n with
    | zero => rw [H.1] at hji; cases hji
    | succ n =>
      obtain ⟨hun, oj, hoj, hall⟩ := mem_ready.1 hj
      have hni : l.getD i false = false := by
        have h0 := (mem_ready.1 hr).1
        rw [Array.getD_eq_getD_getElem?] at h0 ⊢
        cases hg : l[i]? with
        | none => rfl
        | some b => rw [hg] at h0; exact h0
      have hno : ∀ x ∈ oj.after, Region.binds md x = true → x.on ≠ i := fun x hx hb he => by
        have h1 := hall x hx hb
        rw [he, hni] at h1
        cases h1
      have hjz : j ≠ z := fun e2 => by
        subst e2
        unfold waits at hw
        rw [hoj] at hw
        simp only [Array.any_eq_true', Bool.and_eq_true, beq_iff_eq] at hw
        obtain ⟨x, hx, hb, he⟩ := hw
        exact hno x hx hb he
      have hs := Region.noSelect_spec hsel
      have step := wpOp_putIf hoj (Region.free_spec hi hf j oj hoj e hun hno) (fun cs b => hs i oi cs b hi) (fun cs b => hs j oj cs b hoj) hQ hy (H.2 j hji)
      have hf2 : Region.free md ops (l.setIfInBounds j true) i = true := by
        have hf' := hf
        simp only [Region.free, hi, List.all_eq_true, List.mem_range] at hf' ⊢
        intro k hk
        have h3 := hf' k hk
        simp only [Bool.or_eq_true] at h3 ⊢
        rcases h3 with (h3 | h3) | h3
        · exact .inl (.inl h3)
        · refine .inl (.inr ?_)
          by_cases hjk : j = k
          · subst hjk; rw [hun] at h3; cases h3
          · rw [getD_set_ne true hjk]; exact h3
        · exact .inr h3
      have hzi : i ≠ z := fun e2 => by
        subst e2
        have := hjz
        unfold waits at hw
        rw [hi] at hw
        simp only [Array.any_eq_true', Bool.and_eq_true, beq_iff_eq] at hw
        obtain ⟨x, hx, hb, he⟩ := hw
        obtain ⟨_, o2, ho2, hall2⟩ := mem_ready.1 hr
        rw [hi] at ho2
        injection ho2 with ho2
        subst ho2
        have := hall2 x hx hb
        rw [he, hni] at this
        cases this
      have hz2 : (l.setIfInBounds j true).getD z true = false := by rw [getD_set_ne true hjz]; exact hz
      have hz3 : ((l.setIfInBounds i true).setIfInBounds j true).getD z true = false := by rw [getD_set_ne true hjz, getD_set_ne true hzi]; exact hz
      refine wpOp_mono (fun a' w' h3 => ?_) step
      have hS2 : S w' := h3.2.1 hz3
      refine ⟨fun _ => hS2, first_ hi hsel hQ hw n (l.setIfInBounds j true) a' w' hf2 (ready_mono hr (Ne.symm e)) hz2 h3.1 hS2 ?_⟩
      rw [Array.setIfInBounds_comm _ _ e]
      exact h3.2.2
theorem take {i : Nat} {oi : Oper} {v : Value} {n : Nat} {l : Array Bool} {a : Act} {w : World} (hi : ops.toList[i]? = some oi)
    (hk : (Region.noSelect ops && waits md ops z i && Region.free md ops l i && (Region.ready md ops l).contains i && !(l.getD z true)) = true)
    (hQ : ∀ c a w, Q (.panic c) (a.put oi.dst v) w → Q (.panic c) a w) (hS : S w) (hy : YieldsIf P ops S oi v a)
    (h : wpL P md ops Q S z n (l.setIfInBounds i true) (a.put oi.dst v) w) : wpL P md ops Q S z (n + 1) l a w := by
  simp only [Bool.and_eq_true, Bool.not_eq_true'] at hk
  obtain ⟨⟨⟨⟨k1, k2⟩, k3⟩, k4⟩, k5⟩ := hk
  exact first_ (by rw [← Array.getElem?_toList]; exact hi) k1 hQ k2 n l a w k3 (by simpa using k4) k5 hy hS h
/-- Only number i may come up. -/
theorem one {i : Nat} {o : Oper} {n : Nat} {l : Array Bool} {a : Act} {w : World} (hi : ops.toList[i]? = some o) (hr : Region.ready md ops l = [i])
    (h : ∀ K : Act → World → Prop, Shut (∀ a' w', ((l.setIfInBounds i true).getD z true = false → S w') → wpL P md ops Q S z n (l.setIfInBounds i true) a' w' → K a' w') →
      if Region.wanted o (yielded ops a.tmps) = true then Oper.wp P o a w K Q else K (a.put o.dst undef) w) : wpL P md ops Q S z (n + 1) l a w := by
  refine ⟨fun h0 => (by rw [hr] at h0; cases h0), fun j hj => ?_⟩
  rw [hr, List.mem_singleton] at hj
  subst hj
  exact wpOp_step (by rw [← Array.getElem?_toList]; exact hi) (fun K' hK => h K' (fun a' w' h1 h2 => hK a' w' ⟨h1, h2⟩))
theorem done {l : Array Bool} {a : Act} {w : World} (hr : Region.ready md ops l = []) (h : Q .normal a w) : ∀ n, wpL P md ops Q S z n l a w
  | 0 => ⟨hr, h⟩
  | _ + 1 => ⟨fun _ => h, by rw [hr]; simp⟩
/-- Where S holds to the end. -/
theorem takeH {i : Nat} {oi : Oper} {v : Value} {n : Nat} {l : Array Bool} {a : Act} {w : World} (hi : ops.toList[i]? = some oi)
    (hk : (Region.noSelect ops && Region.free md ops l i && (Region.ready md ops l).contains i) = true)
    (hQ : ∀ c a w, Q (.panic c) (a.put oi.dst v) w → Q (.panic c) a w) (hS : S w) (hy : YieldsIf P ops S oi v a)
    (h : wpAnyH P md ops Q S n (l.setIfInBounds i true) (a.put oi.dst v) w) : wpAnyH P md ops Q S (n + 1) l a w := by
  simp only [Bool.and_eq_true] at hk
  exact wpAnyH_take (by rw [← Array.getElem?_toList]; exact hi) hk.1.1 hk.1.2 hk.2 hQ hy hS h
theorem oneH {i : Nat} {o : Oper} {n : Nat} {l : Array Bool} {a : Act} {w : World} (hi : ops.toList[i]? = some o) (hr : Region.ready md ops l = [i])
    (h : ∀ K : Act → World → Prop, Shut (∀ a' w', S w' → wpAnyH P md ops Q S n (l.setIfInBounds i true) a' w' → K a' w') →
      if Region.wanted o (yielded ops a.tmps) = true then Oper.wp P o a w K Q else K (a.put o.dst undef) w) : wpAnyH P md ops Q S (n + 1) l a w := by
  refine ⟨fun h0 => (by rw [hr] at h0; cases h0), fun j hj => ?_⟩
  rw [hr, List.mem_singleton] at hj
  subst hj
  exact wpOp_step (by rw [← Array.getElem?_toList]; exact hi) (fun K' hK => h K' (fun a' w' h1 h2 => hK a' w' ⟨h1, h2⟩))
theorem beginH {id : Nat} {a : Act} {w : World} (S : World → Prop) (hm : P.follows .mixedOrders = true) (h : wpAnyH P .any ops Q S ops.size (Array.replicate ops.size false) a w.drew) : (Code.region id ops true).wp P Q a w :=
  wp_region_held hm h
/-- The beginning. -/
theorem begin_ {id : Nat} {a : Act} {w : World} (S : World → Prop) (z : Nat) (hm : P.follows .mixedOrders = true) (h : wpL P .any ops Q S z ops.size (Array.replicate ops.size false) a w.drew) : (Code.region id ops true).wp P Q a w :=
  wp_region_any hm (any_of _ _ _ _ h)
end
end Go.Proofs.Rg
