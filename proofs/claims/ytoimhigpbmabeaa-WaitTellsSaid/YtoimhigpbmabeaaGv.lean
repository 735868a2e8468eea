/- The given functions of package wait, in the print's form. -/
import Derived.Test.YtoimhigpbmabeaaWp
set_option linter.unusedVariables false
namespace Go.Proofs.Ytoimhigpbmabeaa.Gv
open Go.RowKit Go.Proofs.Wm Go.Proofs.YtoimhigpbmabeaaW.PrintWords Go.Proofs.YtoimhigpbmabeaaW.PrintLast Go.Proofs.YtoimhigpbmabeaaW.PrintMore Go.Proofs.Ytoimhigpbmabeaa Go.Proofs.Ytoimhigpbmabeaa.G
def wfB (l : List S44) : Bool := decide (l.length ≤ 1000) && l.all fun e => (Lit.int .i64 e.f0).wf && (Lit.int .i64 e.f1).wf
theorem wfE_of {l : List S44} (h : wfB l = true) : wfE (pr l) := by
  simp only [wfB, Bool.and_eq_true, decide_eq_true_eq, List.all_eq_true] at h
  refine ⟨by simpa [pr] using h.1, fun e he => ?_⟩
  obtain ⟨x, hx, rfl⟩ := List.mem_map.1 he
  exact h.2 x hx
def wait_Circles (l : List S44) : Option (List Int) := if wfB l then some (circL (pr l)) else none
def wait_Reach (a : Int) (l : List S44) : Option (List Int) := if wfB l && (Lit.int .i64 a).wf then some (reachL (pr l) a) else none
def wait_Victim (l : List S44) : Option (Int × Bool) := if wfB l then some (vicL (pr l)) else none
def wait_Order (l : List S44) : Option (List Int × Bool) := if wfB l then some (ordL (pr l)) else none
theorem got {α : Type} {b : Bool} {x r : α} (h : (if b = true then some x else none) = some r) : b = true ∧ x = r := by
  cases b
  · cases h
  · exact ⟨rfl, Option.some.inj h⟩
theorem wait_Victim_calls (A0 : Option Addr) (c0 : Nat) (l0 : List (S44)) (r1 : Int) (r2 : Bool) (w : World) (hr0 : Kd.C k44 w A0 l0.length l0) (hc0 : l0.length ≤ c0) (h : wait_Victim l0 = some (r1, r2)) :
    Calls Try.prog 11 #[.slice A0 l0.length c0] w fun e w' => e = .returned (.tuple #[.int .i64 r1, .bool r2]) ∧ Below w.heap.size w w' := by
  obtain ⟨h1, h2⟩ := got h
  have := victim_calls A0 c0 l0 w hr0 hc0 (wfE_of h1)
  rw [h2] at this
  exact this
theorem wait_Order_calls (A0 : Option Addr) (c0 : Nat) (l0 : List (S44)) (r1 : List Int) (r2 : Bool) (w : World) (hr0 : Kd.C k44 w A0 l0.length l0) (hc0 : l0.length ≤ c0) (h : wait_Order l0 = some (r1, r2)) :
    Calls Try.prog 12 #[.slice A0 l0.length c0] w fun e w' => ∃ v0_ : Value, e = .returned (.tuple #[v0_, .bool r2]) ∧ Kd.R (Kd.int .i64) 3 w' w.heap.size (fun _ => True) v0_ r1 ∧ Below w.heap.size w w' := by
  obtain ⟨h1, h2⟩ := got h
  have := order_calls A0 c0 l0 w hr0 hc0 (wfE_of h1)
  rw [h2] at this
  exact this
theorem wait_Circles_calls (A0 : Option Addr) (c0 : Nat) (l0 : List (S44)) (r : List Int) (w : World) (hr0 : Kd.C k44 w A0 l0.length l0) (hc0 : l0.length ≤ c0) (h : wait_Circles l0 = some r) :
    Calls Try.prog 15 #[.slice A0 l0.length c0] w fun e w' => ∃ v0_ : Value, e = .returned (v0_) ∧ Kd.R (Kd.int .i64) 3 w' w.heap.size (fun _ => True) v0_ r ∧ Below w.heap.size w w' := by
  obtain ⟨h1, h2⟩ := got h
  have := circles_calls A0 c0 l0 w hr0 hc0 (wfE_of h1)
  rw [h2] at this
  exact this
theorem wait_Reach_calls (a0 : Int) (A1 : Option Addr) (c1 : Nat) (l1 : List (S44)) (r : List Int) (w : World) (hr1 : Kd.C k44 w A1 l1.length l1) (hc1 : l1.length ≤ c1) (h : wait_Reach a0 l1 = some r) :
    Calls Try.prog 16 #[.int .i64 a0, .slice A1 l1.length c1] w fun e w' => ∃ v0_ : Value, e = .returned (v0_) ∧ Kd.R (Kd.int .i64) 3 w' w.heap.size (fun _ => True) v0_ r ∧ Below w.heap.size w w' := by
  obtain ⟨h1, h2⟩ := got h
  rw [Bool.and_eq_true] at h1
  have := reachF_calls A1 c1 l1 a0 w hr1 hc1 (wfE_of h1.1) h1.2
  rw [h2] at this
  exact this
end Go.Proofs.Ytoimhigpbmabeaa.Gv
