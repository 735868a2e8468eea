/- Chapter 13: own, without. -/
import Derived.Test.YtaaijjgaeppmkaaDoorCu
set_option linter.unusedVariables false
set_option maxRecDepth 100000
namespace Go.Proofs.YtaaijjgaeppmkaaDoor
open Go.Proofs.BL Go.Proofs.Peel Go.RowKit Go.Proofs.Cn

theorem results_cell_tmp {P : Program} {fn : Func} {p q : Tmp} {ty : TypeId} (h : fn.results = #[.cell p ty, .tmp q]) (tmps : Array Value) (w : World) (g : Nat) (t : TypeId) (cs : Array Value) (fr : Nat × Nat) (d : TypeDesc) (v : Value)
    (hp : tmps.getD p undef = .pointer (some ⟨g, 0, none⟩)) (hq : tmps.getD q undef = v) (hg : w.heap[g]? = some (.cells cs t fr))
    (hu : P.underlying ty = some d) (hd : (match d with | .struct _ | .array _ _ => true | _ => false) = true) (hi : (P.info? ty).map (·.size) = some cs.size) :
    (results fn tmps).run P w = .ok (.tuple #[.agg cs, v]) w := by
  have hp' : tmps[p]?.getD undef = .pointer (some ⟨g, 0, none⟩) := by simpa using hp
  have hq' : tmps[q]?.getD undef = v := by simpa using hq
  simp [results, h, hp', hq', asAddr, run_loadVar_row w g t ty cs fr d hg hu hd hi]

def enG (g : Gt) : List Value := [.int .i64 g.at_, .int .i64 g.n, .bool g.there]
abbrev rwG (gs : Gs) : List (List Value) := gs.map enG
theorem rwG_len (gs : Gs) : (rwG gs).length = gs.length := by simp
theorem enG_one (g : Gt) : ∀ u ∈ enG g, u.oneCell' = true := by intro u hu; simp [enG] at hu; rcases hu with rfl | rfl | rfl <;> rfl
theorem rows_got {w : World} {A : Option Addr} {gs : Gs} (h : RowsAt w 3 A (rwG gs)) {j : Nat} (hj : j < gs.length) : ∃ b o, A = some ⟨b, o, none⟩ ∧ w.cell? ⟨b, o + j * 3, none⟩ = some (.int .i64 gs[j].at_) ∧ w.cell? ⟨b, o + j * 3 + 1, none⟩ = some (.int .i64 gs[j].n) ∧ w.cell? ⟨b, o + j * 3 + 2, none⟩ = some (.bool gs[j].there) := by
  obtain ⟨b, o, e, hc⟩ := h j (enG gs[j]) (by simp [rwG, hj])
  exact ⟨b, o, e, hc 0 _ rfl, hc 1 _ rfl, hc 2 _ rfl⟩
/-- What own answers. -/
def ownA : Option Gt → Value
  | some g => .tuple #[.agg #[.int .i64 g.at_, .int .i64 g.n, .bool g.there], .bool true]
  | none => .tuple #[.agg #[.int .i64 0, .int .i64 0, .bool false], .bool false]
theorem own_at_ {gs : Gs} {a : Int} {j : Nat} (hj : j < gs.length) (h : ∀ i (hi : i < gs.length), i < j → gs[i].at_ ≠ a) (he : gs[j].at_ = a) : ownG gs a = some gs[j] := by
  unfold ownG
  rw [List.find?_eq_some_iff_getElem]
  exact ⟨by simpa using he, j, hj, rfl, fun i hi => by simpa using h i (by omega) hi⟩
theorem own_no {gs : Gs} {a : Int} (h : ∀ i (hi : i < gs.length), gs[i].at_ ≠ a) : ownG gs a = none := by
  unfold ownG
  rw [List.find?_eq_none]
  intro g hg
  obtain ⟨i, hi, rfl⟩ := List.mem_iff_getElem.1 hg
  simpa using h i hi
set_option maxHeartbeats 2000000 in
theorem lown (gs : Gs) (A : Option Addr) (c : Nat) (a : Int) (w : World) (hr : RowsAt w 3 A (rwG gs)) (hc : gs.length ≤ c) (hl : gs.length ≤ 1000000) :
    Calls Tryd.prog 9 #[.slice A gs.length c, .int .i64 a] w (Ans w (ownA (ownG gs a))) := by
  have hal : Below w.heap.size w (w.alloc (.cells #[.int .i64 0, .int .i64 0, .bool false] 32)) := (Below.refl _ _).alloc (Nat.le_refl _) _
  have HR := Lib.hid (hr.below hal)
  have HA := Lib.hid hal
  have HN0 := Lib.hid (Blk.new w #[.int .i64 0, .int .i64 0, .bool false] 32)
  clear hr hal
  refine via fun Q hQ => ?_
  go_enter Tryd.func9, Tryd.ntmps9
  go_wp2_with fail
  go_loopg [10] gs.length (fun g x10 ws => ∃ j : Nat, j ≤ gs.length ∧ g = gs.length - j ∧ x10 = .int .i64 j ∧ (∀ i (hi : i < gs.length), i < j → gs[i].at_ ≠ a) ∧ Hid (Below (w.alloc (.cells #[.int .i64 0, .int .i64 0, .bool false] 32)).heap.size (w.alloc (.cells #[.int .i64 0, .int .i64 0, .bool false] 32)) ws))
  case atStart => exact ⟨0, Nat.zero_le _, rfl, rfl, fun i _ h => absurd h (Nat.not_lt_zero _), Lib.hid (Below.refl _ _)⟩
  case round =>
    obtain ⟨j, hj, rfl, rfl, hno, HB⟩ := hrel
    have HN := Lib.hid hno
    have HF := Lib.hid (HN0.out.below HB.out)
    have HW := Lib.hid (below_then HA.out HB.out)
    clear hno
    by_cases hlt : j < gs.length
    · obtain ⟨bb, o, rfl, d1, d2, d3⟩ := rows_got (HR.out.below HB.out) hlt
      have hfa := own_at_ (a := a) hlt HN.out
      have hnx : gs[j].at_ ≠ a → ∀ i (hi : i < gs.length), i < j + 1 → gs[i].at_ ≠ a := fun hf i hi hij => by
        rcases Nat.lt_or_ge i j with h1 | h1
        · exact HN.out i hi h1
        · obtain rfl : i = j := by omega
          exact hf
      generalize gs[j] = x at d1 d2 d3 hfa hnx
      obtain ⟨xa, xn, xt⟩ := x
      by_cases ha : xa = a
      · have ho := hfa ha
        subst ha
        have HO := Lib.hid ho
        have hF2 := HF.out.alloc (.cells #[.int .i64 xa, .int .i64 xn, .bool xt] 32)
        have f0 := hF2.free 0
        have f1 := hF2.free 1
        have f2 := hF2.free 2
        have z0 := hF2.at_ 0 rfl
        have z1 := hF2.at_ 1 rfl
        have z2 := hF2.at_ 2 rfl
        have hF3 := ((hF2.set 0 (.int .i64 xa)).set 1 (.int .i64 xn)).set 2 (.bool xt)
        have HF3 := Lib.hid hF3
        have HW2 := Lib.hid (((((Fr.of_below (S := none_) HW.out).alloc (.cells #[.int .i64 xa, .int .i64 xn, .bool xt] 32)).setCell (p := ⟨w.heap.size, 0, none⟩) (.inl (Nat.le_refl _)) (.int .i64 xa)).setCell (p := ⟨w.heap.size, 1, none⟩) (.inl (Nat.le_refl _)) (.int .i64 xn)).setCell (p := ⟨w.heap.size, 2, none⟩) (.inl (Nat.le_refl _)) (.bool xt)).below
        clear hfa hnx ho hF2 hF3
        go_wp2_with fail
        exact bodyPost_ret (results_cell_tmp rfl _ _ w.heap.size 32 _ (0, 0) _ _ rfl rfl HF3.out Tryd.underlying32 rfl (by kernel_rfl)) rfl (hQ _ _ ⟨by rw [HO.out]; rfl, HW2.out⟩)
      · have hae : (xa == a) = false := by simpa using ha
        have HX := Lib.hid (hnx ha)
        clear hnx hfa ha
        go_wp2_with fail
        go_roundg (gs.length - (j + 1))
        case measure => omega
        case rel => exact ⟨j + 1, hlt, rfl, by go_num, HX.out, Lib.hid (HB.out.alloc HB.out.size _)⟩
    · obtain rfl : j = gs.length := by omega
      have ho := own_no (fun i hi => HN.out i hi hi)
      have HO := Lib.hid ho
      have hF2 := HF.out
      have f0 := hF2.free 0
      have f1 := hF2.free 1
      have f2 := hF2.free 2
      have z0 := hF2.at_ 0 rfl
      have z1 := hF2.at_ 1 rfl
      have z2 := hF2.at_ 2 rfl
      have HF3 := Lib.hid (((hF2.set 0 (.int .i64 0)).set 1 (.int .i64 0)).set 2 (.bool false))
      have HW2 := Lib.hid ((((Fr.of_below (S := none_) HW.out).setCell (p := ⟨w.heap.size, 0, none⟩) (.inl (Nat.le_refl _)) (.int .i64 0)).setCell (p := ⟨w.heap.size, 1, none⟩) (.inl (Nat.le_refl _)) (.int .i64 0)).setCell (p := ⟨w.heap.size, 2, none⟩) (.inl (Nat.le_refl _)) (.bool false)).below
      clear ho hF2
      go_wp2_with fail
      exact bodyPost_ret (results_cell_tmp rfl _ _ w.heap.size 32 _ (0, 0) _ _ rfl rfl HF3.out Tryd.underlying32 rfl (by kernel_rfl)) rfl (hQ _ _ ⟨by rw [HO.out]; rfl, HW2.out⟩)

theorem infoG : (Tryd.prog.info? 32).map (fun i => (i.zero, i.size, i.bytes)) = some (some (.agg #[.int .i64 0, .int .i64 0, .bool false]), 3, 24) := by kernel_rfl
theorem zeroG : ((.agg #[.int .i64 0, .int .i64 0, .bool false]) : Value).cells.size = 3 := by kernel_rfl
def OutPost (l : List Part) (gs : Gs) (e : Ending) (w' : World) : Prop := ∃ v : Value, e = .returned v ∧ Sat (ownR v 32 3 (rwG gs) :: l) w'
set_option maxHeartbeats 2000000 in
theorem lout (gs : Gs) (v : Value) (a : Int) (l : List Part) (w : World) (h : Sat (ownR v 32 3 (rwG gs) :: l) w) (hl : gs.length ≤ 1000) :
    Calls Tryd.prog 11 #[v, .int .i64 a] w (OutPost (ownR v 32 3 (rwG gs) :: l) (outG gs a)) := by
  obtain ⟨A, c, rfl, hc, hA, _⟩ := h.own_.slv'
  rw [rwG_len] at hc h ⊢
  have HS0 := Lib.hid (h.nilR 32 3)
  clear h hA
  refine via fun Q hQ => ?_
  go_enter Tryd.func11, Tryd.ntmps11
  go_wp2_with fail
  go_loopg [5, 10] gs.length (fun g x5 x10 ws => ∃ j : Nat, j ≤ gs.length ∧ g = gs.length - j ∧ x10 = .int .i64 j ∧ Hid (Sat (ownR x5 32 3 (rwG (outG (gs.take j) a)) :: ownR (.slice A gs.length c) 32 3 (rwG gs) :: l) ws))
  case atStart => exact ⟨0, Nat.zero_le _, rfl, rfl, HS0⟩
  case round =>
    clear HS0
    obtain ⟨j, hj, rfl, rfl, HS⟩ := hrel
    by_cases hlt : j < gs.length
    · have hrA : RowsAt wr 3 A (rwG gs) := by
        obtain ⟨A', c', e, _, _, hr⟩ := HS.out.s1.own_.slv'
        injection e with e _ _
        rw [e]
        exact hr
      obtain ⟨bb, o, rfl, d1, d2, d3⟩ := rows_got hrA hlt
      have hst : outG (gs.take (j + 1)) a = outG (gs.take j) a ++ (if gs[j].at_ ≠ a then [gs[j]] else []) := by
        rw [List.take_add_one, List.getElem?_eq_getElem hlt, Option.toList_some]
        unfold outG
        rw [List.filter_append]
        congr 1
        by_cases h : gs[j].at_ = a <;> simp [h]
      have hol : (outG (gs.take j) a).length ≤ j := Nat.le_trans (List.length_filter_le _ _) (by rw [List.length_take]; omega)
      generalize gs[j] = x at d1 d2 d3 hst
      obtain ⟨xa, xn, xt⟩ := x
      have HST := Lib.hid hst
      have HS1 := Lib.hid (HS.out.below ((Below.refl wr.heap.size wr).alloc (Nat.le_refl _) (.cells #[.int .i64 xa, .int .i64 xn, .bool xt] 32)))
      have HBig := Lib.hid (show ((rwG (outG (gs.take j) a)).length + 1) * 24 ≤ 140737488355328 from by rw [rwG_len]; omega)
      clear hst hol hrA
      by_cases ha : xa = a
      · have hst : outG (gs.take (j + 1)) a = outG (gs.take j) a := HST.out.trans (by rw [if_neg (fun h => h ha), List.append_nil])
        have hS2 := HS1.out
        rw [← hst] at hS2
        have HS2 := Lib.hid hS2
        clear hst hS2 HST HS1 HS
        subst ha
        go_wp2_with fail
        go_roundg (gs.length - (j + 1))
        case measure => omega
        case rel => exact ⟨j + 1, hlt, rfl, by go_num, HS2⟩
      · have hst : outG (gs.take (j + 1)) a = outG (gs.take j) a ++ [⟨xa, xn, xt⟩] := HST.out.trans (by rw [if_pos ha])
        have HST2 := Lib.hid hst
        have hnb : (xa != a) = true := bne_iff_ne.2 ha
        clear hst HST ha
        go_wp2_with (at_builtin; go_loud (refine append1L (W := wr.alloc (.cells #[.int .i64 xa, .int .i64 xn, .bool xt] 32)) 0 32 3 24 (.agg #[.int .i64 0, .int .i64 0, .bool false]) rfl (.tmp 18) (.tmp 20) 25 rfl Tryd.underlying25 infoG zeroG (by decide) (by decide) u5 (rwG (outG (gs.take j) a)) [.int .i64 xa, .int .i64 xn, .bool xt] rfl (wr.heap.size + 1) rfl (alloc_sz _ _) rfl (enG_one ⟨xa, xn, xt⟩) HS1.out.own_ (Nat.zero_le _) HBig.out ?_); intro v1 w1 ho1 hf1 hl1)
        have hS2 := HS1.out.grown ho1 hf1 hl1
        rw [show rwG (outG (gs.take j) a) ++ [[.int .i64 xa, .int .i64 xn, .bool xt]] = rwG (outG (gs.take j) a ++ [⟨xa, xn, xt⟩]) from by simp [rwG, enG], ← HST2.out] at hS2
        have HS2 := Lib.hid hS2
        clear hS2 ho1 hf1 hl1 HS1 HS
        go_wp2_with fail
        go_roundg (gs.length - (j + 1))
        case measure => omega
        case rel => exact ⟨j + 1, hlt, rfl, by go_num, HS2⟩
    · obtain rfl : j = gs.length := by omega
      rw [List.take_length] at HS
      go_wp2_with fail
      exact ⟨_, rfl, HS.out⟩
end Go.Proofs.YtaaijjgaeppmkaaDoor
