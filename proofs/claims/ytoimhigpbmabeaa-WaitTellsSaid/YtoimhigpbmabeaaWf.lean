/- slices.Clone; graph.reach. -/
import Derived.Test.YtoimhigpbmabeaaWe
import Derived.WalkSpells
import Derived.Laws.AppendOwnNone
set_option linter.unusedVariables false
set_option maxRecDepth 100000
namespace Go.Proofs.Ytoimhigpbmabeaa
open Go.ChangeShapes Go.ChangeMaps Go.Proofs.BL Go.RowKit Go.Maps Go.Proofs.Wm Go.Proofs.YtoimhigpbmabeaaW.PrintWords Go.Proofs.Ytoimhigpbmabeaa.G

abbrev encI (x : Int) : List Value := [.int .i64 x]
abbrev rwI (l : List Int) : List (List Value) := l.map encI
theorem rwI_flat (l : List Int) : (rwI l).flatten = l.map (Value.int .i64) := by induction l <;> simp_all
theorem rwI_one (l : List Int) : ∀ r, r ∈ rwI l → r.length = 1 := fun r h => by obtain ⟨x, _, rfl⟩ := List.mem_map.1 h; rfl
theorem rwI_cell (l : List Int) : ∀ r, r ∈ rwI l → ∀ u ∈ r, u.oneCell' = true := fun r h u hu => by obtain ⟨x, _, rfl⟩ := List.mem_map.1 h; rw [List.mem_singleton.1 hu]; rfl
theorem own_ints {w : World} {base : Nat} {v : Value} {zs : List Int} (h : w.ownsInts base 3 .i64 v zs) : Own w base 3 1 v (rwI zs) := ⟨by rw [rwI_flat, List.length_map]; exact h.1, rwI_one zs⟩
theorem own_R {w : World} {base : Nat} {v : Value} {zs : List Int} (h : Own w base 3 1 v (rwI zs)) : Kd.R (Kd.int .i64) 3 w base (fun _ => True) v zs :=
  Kd.R_of_own (enc := Value.int .i64) (by have := h.1; rw [rwI_flat, List.length_map] at this; exact this) (fun _ _ => trivial)

set_option maxHeartbeats 1000000 in
theorem clone_calls (v : Value) (zs : List Int) (A : Option Addr) (c : Nat) (w : World) (hv : v = .slice A (rwI zs).length c) (hA : A = none → c = 0) (hc : (rwI zs).length ≤ c) (hr : RowsAt w 1 A (rwI zs)) (hlen : zs.length ≤ 1000000) :
    Calls Try.prog 37 #[v] w fun e w' => ∃ v', e = .returned v' ∧ Own w' w.heap.size 3 1 v' (rwI zs) ∧ Below w.heap.size w w' := by
  subst hv
  refine via fun Q hQ => ?_
  have HR := Lib.hid hr
  have HA := Lib.hid hA
  clear hr hA
  cases A with
  | none =>
    have hz : zs = [] := by
      cases zs with
      | nil => rfl
      | cons z zs => obtain ⟨_, _, e, _⟩ := HR.out 0 _ rfl; cases e
    subst hz
    have h1 : c = 0 := HA.out rfl
    subst h1
    have hne := fun W (a : Option Addr) n c => Lib.run_eql_slice_nil (P := Try.prog) W 26 3 a n c 0 0 Try.underlying26
    go_enter Try.func37, Try.ntmps37
    go_wp2
    exact ⟨Own.nil _ _ _ _, Below.refl _ _⟩
  | some a =>
    have hne := fun W (a : Option Addr) n c => Lib.run_eql_slice_nil (P := Try.prog) W 26 3 a n c 0 0 Try.underlying26
    have hO := Own.lit w 3 1 0 [] #[] w.heap.size (Nat.le_refl _) rfl (by decide) rfl (fun _ h => by cases h) rfl
    have hal : Below w.heap.size w (w.alloc (.cells #[] 3)) := (Below.refl _ _).alloc (Nat.le_refl _) _
    have hR := HR.out.below hal
    have hsz : w.heap.size ≤ (w.alloc (.cells #[] 3)).heap.size := hal.size
    have hln : (([] : List (List Value)).length + (rwI zs).length) * 8 ≤ 140737488355328 := by simp; omega
    have HR2 := Lib.hid hR
    have HO := Lib.hid hO
    have HL := Lib.hid hal
    clear hR hO hal
    go_enter Try.func37, Try.ntmps37
    go_wp2_with (at_builtin; go_must (refine appendN w.heap.size 3 1 8 (.int .i64 0) rfl (.tmp 5) (.tmp 6) 26 rfl Try.underlying26 info3 rfl (by decide) (by decide) (.slice (some ⟨w.heap.size, 0, none⟩) 0 0) [] (rwI zs) rfl (some a) (rwI zs).length c rfl rfl (by simp) HR2.out (rwI_one _) (rwI_cell _) HO.out hsz hln ?_); intro v1 w1 hown1 hfr1)
    exact ⟨_, rfl, hown1, (Fr.of_below (S := none_) HL.out |>.trans hfr1 (fun k hk hS => by have := (HO.out.1.lt k hS).1; omega)).below⟩
end Go.Proofs.Ytoimhigpbmabeaa
