/- Sorted keys of a map; graph.all. -/
import Derived.Test.YtoimhigpbmabeaaWd
import Derived.Test.YtoimhigpbmabeaaShelf
set_option linter.unusedVariables false
set_option maxRecDepth 100000
namespace Go.Proofs.Ytoimhigpbmabeaa
open Go.ChangeShapes Go.ChangeMaps Go.Proofs.BL Go.RowKit Go.Maps Go.Sort Go.Shelf Go.Proofs.Wm Go.Proofs.YtoimhigpbmabeaaW.PrintWords Go.Proofs.Ytoimhigpbmabeaa.G

theorem keys_list {R : Value → Option (DataW Unit × List MemPlace)} {w : World} {b n : Nat} {D : DataW Unit} (hown : w.ownsMap Try.prog 3 R b n D) {L : List Int} (hnd : L.Nodup) (hw : ∀ x ∈ L, wfI x) (hm : ∀ x, wfI x → (x ∈ L ↔ Maps.has D (.int .i64 x) = true)) :
    L.Perm (intKeys D) := by
  obtain ⟨es, hD, hpw, _⟩ := hown.entries lawI
  obtain ⟨es', hD', hko⟩ := hown.keysOf
  obtain rfl : es = es' := by rw [hD] at hD'; simpa using hD'
  have hwf := intKeys_wf hown Try.underlying3
  subst hD
  have hk : ∀ p ∈ es, ∃ x, p.1 = .int .i64 x ∧ wfI x := fun p hp => by
    obtain ⟨v, hv⟩ := hko p hp
    obtain ⟨x, _, hx, h⟩ := Maps.keyOf_i64 Try.underlying3 hv
    exact ⟨x, hx, h⟩
  refine perm_intKeys hpw (fun p hp => by obtain ⟨x, hx, _⟩ := hk p hp; exact ⟨x, hx⟩) hnd (fun x => ⟨fun h => (hm x (hw x h)).1 h, fun h => ?_⟩)
  refine (hm x ?_).2 h
  rw [has_eq, List.any_eq_true] at h
  obtain ⟨p, hp, hs⟩ := h
  obtain ⟨y, hy, hyw⟩ := hk p hp
  rw [hy] at hs
  have : y = x := by simpa [Lit.sameKey] using hs
  rw [← this]; exact hyw
theorem sort_srt {L ss : List Int} (hL : L.Pairwise (· < ·)) (h : ss.Perm L) : ss.mergeSort (fun x y => decide (x ≤ y)) = L := by
  rw [mergeSort_of_perm_i h]
  exact List.mergeSort_of_pairwise (hL.imp (fun h => by simp only [leI, decide_eq_true_eq]; omega))
theorem srt_nodup {L : List Int} (hL : L.Pairwise (· < ·)) : L.Nodup := hL.imp (fun h => by omega)

theorem sortsA (m : Nat) : AnyZI.SortsIn Try.prog Try.sortedA_ren Fence.wide m :=
  ⟨fun blk off cap ss W hH hblk hsz => callsIn_wide.2 (AnyM.slices_Sort_int Try.sortA blk off cap ss W hH hblk hsz),
   fun p cap W => callsIn_wide.2 (AnyM.slices_Sort_int_none Try.sortA p cap W)⟩
theorem keysA_calls (mb : Option Nat) (W : World) : Calls Try.prog 36 #[.map mb] W fun e w' => e = .returned (.func (.func 41) #[] #[.pointer (some ⟨W.heap.size, 0, none⟩)]) ∧ w' = W.alloc (.cells #[.map mb] 47) :=
  (callsIn_wide (n := 5)).1 (AnyZI.keys_in Try.keysA Fence.wide 5 trivial rfl mb W)
theorem keysB_calls (mb : Option Nat) (W : World) : Calls Try.prog 34 #[.map mb] W fun e w' => e = .returned (.func (.func 40) #[] #[.pointer (some ⟨W.heap.size, 0, none⟩)]) ∧ w' = W.alloc (.cells #[.map mb] 52) :=
  (callsIn_wide (n := 5)).1 (AnyZI.keys_in Try.keysB Fence.wide 5 trivial rfl mb W)
set_option maxHeartbeats 1000000 in
theorem sortedA_calls (b nn : Nat) (D : DataW Unit) (R : Value → Option (DataW Unit × List MemPlace)) (w : World) (hown : w.ownsMap Try.prog 3 R b nn D) (L : List Int) (hL : L.Pairwise (· < ·)) (hw : ∀ x ∈ L, wfI x)
    (hm : ∀ x, wfI x → (x ∈ L ↔ Maps.has D (.int .i64 x) = true)) (hlen : Maps.size D * 8 ≤ 140737488355328) :
    Calls Try.prog 33 #[.func (.func 41) #[] #[.pointer (some ⟨w.heap.size, 0, none⟩)]] (w.alloc (.cells #[.map (some b)] 47)) fun e w' => ∃ v, e = .returned v ∧ Kd.R (Kd.int .i64) 3 w' w.heap.size (fun _ => True) v L ∧ Below w.heap.size w w' := by
  have hbl := hown.lt
  have hseq : SeqGives Fence.wide 2 Try.prog 41 #[.pointer (some ⟨w.heap.size, 0, none⟩)] encZ (fun ss => ss.Perm (intKeys D)) (Maps.size D) (w.alloc (.cells #[.map (some b)] 47)) :=
    AnyZI.keys_gives (ρ := Try.keysA_ren) { Try.keysA with } Fence.wide _ trivial rfl (by omega) w.heap.size b nn D _ (by simp) (by simp) (by
      obtain ⟨es, clock, hb, Ft, hs, hD⟩ := hown
      exact ⟨es, clock, (Below.heap_alloc _ _ b hbl).trans hb, Ft, hs, hD⟩)
  have cS := AnyZI.sorted_in Try.sortedA Fence.wide 5 trivial trivial trivial trivial rfl (by omega) (sortsA _) (enters_of Try.func39 (by kernel_rfl) rfl) 41 #[.pointer (some ⟨w.heap.size, 0, none⟩)] trivial (enters_of Try.func41 (by kernel_rfl) rfl) _ _ (by unfold maxLen; omega) hlen _ hseq
  change CallsIn _ _ Try.prog 33 _ _ _ at cS
  refine ((callsIn_wide (n := 5)).1 cS).mono ?_
  rintro e w' ⟨v, ss, rfl, hS, hrow, hnil, hb⟩
  have hp : ss.Perm L := hS.trans (keys_list hown (srt_nodup hL) hw hm).symm
  rw [sort_srt hL hp] at hrow
  refine ⟨v, rfl, ?_, ?_⟩
  · refine Kd.R_of_own (enc := Value.int .i64) ?_ (fun _ _ => trivial)
    have := hp.length_eq
    rw [this] at hrow
    exact own_weaken hrow (by simp)
  · exact ((Below.refl _ w).alloc (Nat.le_refl _) _).trans (hb.mono (by simp))
set_option maxHeartbeats 1000000 in
theorem sortedB_calls (b nn : Nat) (D : DataW Unit) (R : Value → Option (DataW Unit × List MemPlace)) (w : World) (hown : w.ownsMap Try.prog 3 R b nn D) (L : List Int) (hL : L.Pairwise (· < ·)) (hw : ∀ x ∈ L, wfI x)
    (hm : ∀ x, wfI x → (x ∈ L ↔ Maps.has D (.int .i64 x) = true)) (hlen : Maps.size D * 8 ≤ 140737488355328) :
    Calls Try.prog 33 #[.func (.func 40) #[] #[.pointer (some ⟨w.heap.size, 0, none⟩)]] (w.alloc (.cells #[.map (some b)] 52)) fun e w' => ∃ v, e = .returned v ∧ Kd.R (Kd.int .i64) 3 w' w.heap.size (fun _ => True) v L ∧ Below w.heap.size w w' := by
  have hbl := hown.lt
  have hseq : SeqGives Fence.wide 2 Try.prog 40 #[.pointer (some ⟨w.heap.size, 0, none⟩)] encZ (fun ss => ss.Perm (intKeys D)) (Maps.size D) (w.alloc (.cells #[.map (some b)] 52)) :=
    AnyZI.keys_gives (ρ := Try.keysB_ren) { Try.keysB with } Fence.wide _ trivial rfl (by omega) w.heap.size b nn D _ (by simp) (by simp) (by
      obtain ⟨es, clock, hb, Ft, hs, hD⟩ := hown
      exact ⟨es, clock, (Below.heap_alloc _ _ b hbl).trans hb, Ft, hs, hD⟩)
  have cS := AnyZI.sorted_in Try.sortedA Fence.wide 5 trivial trivial trivial trivial rfl (by omega) (sortsA _) (enters_of Try.func39 (by kernel_rfl) rfl) 40 #[.pointer (some ⟨w.heap.size, 0, none⟩)] trivial (enters_of Try.func40 (by kernel_rfl) rfl) _ _ (by unfold maxLen; omega) hlen _ hseq
  change CallsIn _ _ Try.prog 33 _ _ _ at cS
  refine ((callsIn_wide (n := 5)).1 cS).mono ?_
  rintro e w' ⟨v, ss, rfl, hS, hrow, hnil, hb⟩
  have hp : ss.Perm L := hS.trans (keys_list hown (srt_nodup hL) hw hm).symm
  rw [sort_srt hL hp] at hrow
  refine ⟨v, rfl, ?_, ?_⟩
  · refine Kd.R_of_own (enc := Value.int .i64) ?_ (fun _ _ => trivial)
    have := hp.length_eq
    rw [this] at hrow
    exact own_weaken hrow (by simp)
  · exact ((Below.refl _ w).alloc (Nat.le_refl _) _).trans (hb.mono (by simp))

set_option maxHeartbeats 1000000 in
theorem all_calls (b nn : Nat) (D : DataW Unit) (R : Value → Option (DataW Unit × List MemPlace)) (w : World) (hown : w.ownsMap Try.prog 3 R b nn D) (L : List Int) (hL : L.Pairwise (· < ·)) (hw : ∀ x ∈ L, wfI x)
    (hm : ∀ x, wfI x → (x ∈ L ↔ Maps.has D (.int .i64 x) = true)) (hlen : Maps.size D * 8 ≤ 140737488355328) :
    Calls Try.prog 24 #[.agg #[.map (some b)]] w fun e w' => ∃ v, e = .returned v ∧ Kd.R (Kd.int .i64) 3 w' w.heap.size (fun _ => True) v L ∧ Below w.heap.size w w' := by
  refine via fun Q hQ => ?_
  have HO := Lib.hid hown
  have HL := Lib.hid hL
  have HW := Lib.hid hw
  have HM := Lib.hid hm
  clear hown hL hw hm
  go_enter Try.func24, Try.ntmps24
  go_wp2_with fail
  refine (keysA_calls _ _).mono ?_
  rintro e w1 ⟨rfl, rfl⟩
  have hal : Below w.heap.size w (w.alloc (.cells #[.map (some b)] 49)) := (Below.refl _ _).alloc (Nat.le_refl _) _
  have hs := sortedA_calls b nn D R _ (map_below HO.out hal) L HL.out HW.out HM.out hlen
  rw [World.size_alloc] at hs
  go_wp2_with fail
  refine hs.mono ?_
  rintro e w2 ⟨v, rfl, hr, hb⟩
  have HR := Lib.hid (Kd.R_lower hr (base' := w.heap.size) (by simp))
  have HB := Lib.hid (hal.trans (hb.mono (by simp)))
  clear hs hr hb
  go_wp2
  exact ⟨v, rfl, HR.out, HB.out⟩
end Go.Proofs.Ytoimhigpbmabeaa
