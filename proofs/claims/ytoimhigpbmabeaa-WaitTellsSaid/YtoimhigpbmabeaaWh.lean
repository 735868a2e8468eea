/- slices.IndexFunc, ContainsFunc. -/
import Derived.Test.YtoimhigpbmabeaaWg
set_option linter.unusedVariables false
set_option maxRecDepth 100000
namespace Go.Proofs.Ytoimhigpbmabeaa
open Go.ChangeShapes Go.ChangeMaps Go.Proofs.BL Go.RowKit Go.Maps Go.Proofs.Wm Go.Proofs.YtoimhigpbmabeaaW.PrintWords Go.Proofs.Ytoimhigpbmabeaa.G

/-- Where the first one stands of which p holds; -1: nowhere. -/
def idx (p : Int → Bool) (l : List Int) : Int := match l.findIdx? p with | some i => i | none => -1
/-- A function value answers p. -/
def Gives (g : FuncId) (lb : Array Value) (p : Int → Bool) (l : List Int) (w : World) : Prop :=
  ∀ W, Below w.heap.size w W → ∀ x ∈ l, Calls Try.prog g (#[.int .i64 x] ++ lb) W fun e W' => e = .returned (.bool (p x)) ∧ Below W.heap.size W W'
theorem rows_cell {w : World} {A : Option Addr} {l : List Int} (h : RowsAt w 1 A (rwI l)) {j : Nat} (hj : j < l.length) : ∃ b o, A = some ⟨b, o, none⟩ ∧ w.cell? ⟨b, o + j, none⟩ = some (.int .i64 l[j]) := by
  obtain ⟨b, o, e, hc⟩ := h j (encI l[j]) (by simp [rwI, hj])
  have := hc 0 _ rfl
  rw [show o + j * 1 + 0 = o + j from by omega] at this
  exact ⟨b, o, e, this⟩
theorem idx_none {p : Int → Bool} {l : List Int} (h : ∀ j (hj : j < l.length), p l[j] = false) : idx p l = -1 := by
  unfold idx
  rw [List.findIdx?_eq_none_iff.2 (fun x hx => by obtain ⟨j, hj, rfl⟩ := List.mem_iff_getElem.1 hx; exact h j hj)]
theorem idx_some {p : Int → Bool} {l : List Int} {k : Nat} (hk : k < l.length) (h : ∀ j (hj : j < l.length), j < k → p l[j] = false) (ht : p l[k] = true) : idx p l = k := by
  unfold idx
  rw [List.findIdx?_eq_some_iff_getElem.2 ⟨hk, ht, fun j hj => by simpa using h j (by omega) hj⟩]

set_option maxHeartbeats 1000000 in
theorem indexFunc_calls (g : FuncId) (lb : Array Value) (eg : ∀ args w, (callFunc g args).run Try.prog w = .ok (.enter g args) w) (p : Int → Bool) (l : List Int) (A : Option Addr) (c : Nat) (w : World) (hr : RowsAt w 1 A (rwI l)) (hc : l.length ≤ c) (hp : Gives g lb p l w) (hlen : l.length ≤ 2000000) :
    Calls Try.prog 25 #[.slice A l.length c, .func (.func g) #[] lb] w fun e w' => e = .returned (.int .i64 (idx p l)) ∧ Below w.heap.size w w' := by
  refine via fun Q hQ => ?_
  have HR := Lib.hid hr
  have HP := Lib.hid hp
  clear hr hp
  go_enter Try.func25, Try.ntmps25
  go_wp2
  go_loopg [8] l.length (fun g i wr => ∃ j : Nat, j ≤ l.length ∧ g = l.length - j ∧ i = .int .i64 j ∧ (∀ k (hk : k < l.length), k < j → p l[k] = false) ∧ Below w.heap.size w wr)
  case atStart => exact ⟨0, Nat.zero_le _, rfl, rfl, fun k _ h => absurd h (Nat.not_lt_zero _), Below.refl _ _⟩
  case round =>
    obtain ⟨j, hj, rfl, rfl, hno, hb⟩ := hrel
    have HB := Lib.hid hb
    have HN := Lib.hid hno
    clear hb hno
    by_cases hlt : j < l.length
    · obtain ⟨b, o, rfl, c0⟩ := rows_cell (HR.out.below HB.out) hlt
      have hcall := HP.out wr HB.out l[j] (List.getElem_mem hlt)
      have HC := Lib.hid hcall
      clear hcall
      generalize hx : l[j] = x at c0 HC
      have HX := Lib.hid hx
      clear hx
      go_wp2_with fail
      refine HC.out.mono ?_
      rintro e w2 ⟨rfl, hb2⟩
      have HB2 := Lib.hid (below_then HB.out hb2)
      clear hb2 HC
      cases hpx : p x with
      | true =>
        have HI := Lib.hid (idx_some hlt (fun k hk h => HN.out k hk h) (by rw [HX.out]; exact hpx))
        clear hpx
        go_wp2
        exact ⟨by rw [HI.out]; rfl, HB2.out⟩
      | false =>
        have HPX := Lib.hid hpx
        clear hpx
        go_wp2
        go_roundg (l.length - (j + 1))
        case measure => omega
        case rel => exact ⟨j + 1, hlt, rfl, by go_num, fun k hk h => by
          rcases Nat.lt_or_ge k j with h1 | h1
          · exact HN.out k hk h1
          · obtain rfl : k = j := by omega
            rw [HX.out]; exact HPX.out, HB2.out⟩
    · obtain rfl : j = l.length := by omega
      have hi := idx_none (fun k hk => HN.out k hk hk)
      have HI := Lib.hid hi
      clear hi
      go_wp2
      exact ⟨by rw [HI.out]; rfl, HB.out⟩

set_option maxHeartbeats 1000000 in
theorem containsFunc_calls (g : FuncId) (lb : Array Value) (eg : ∀ args w, (callFunc g args).run Try.prog w = .ok (.enter g args) w) (p : Int → Bool) (l : List Int) (A : Option Addr) (c : Nat) (w : World) (hr : RowsAt w 1 A (rwI l)) (hc : l.length ≤ c) (hp : Gives g lb p l w) (hlen : l.length ≤ 2000000) :
    Calls Try.prog 27 #[.slice A l.length c, .func (.func g) #[] lb] w fun e w' => e = .returned (.bool (decide (0 ≤ idx p l))) ∧ Below w.heap.size w w' := by
  refine via fun Q hQ => ?_
  have HC := Lib.hid (indexFunc_calls g lb eg p l A c w hr hc hp hlen)
  clear hr hp
  go_enter Try.func27, Try.ntmps27
  go_wp2_with fail
  refine HC.out.mono ?_
  rintro e w2 ⟨rfl, hb2⟩
  have HB2 := Lib.hid hb2
  clear hb2 HC
  go_wp2
  exact ⟨by rfl, HB2.out⟩
end Go.Proofs.Ytoimhigpbmabeaa
