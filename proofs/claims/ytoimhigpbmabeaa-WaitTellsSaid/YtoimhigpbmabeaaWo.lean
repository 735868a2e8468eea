/- wait.Order: its closures; slices.Delete. -/
import Derived.Test.YtoimhigpbmabeaaWk
import Derived.Test.YtoimhigpbmabeaaShelf2
set_option linter.unusedVariables false
set_option maxRecDepth 100000
namespace Go.Proofs.Ytoimhigpbmabeaa
open Go.ChangeShapes Go.ChangeMaps Go.Proofs.BL Go.RowKit Go.Maps Go.Proofs.Wm Go.Proofs.YtoimhigpbmabeaaW.PrintWords Go.Proofs.Ytoimhigpbmabeaa.G

/-- Who is done: a map. -/
def Dn (w : World) (b : Nat) (n : Nat) (done : List Int) : Prop := ∃ (D : DataW Unit), w.ownsMap Try.prog 3 (plainElem Try.prog 3) b n D ∧ SRel D done
theorem Dn.below {w w' : World} {b n : Nat} {done : List Int} (h : Dn w b n done) (hb : Below w.heap.size w w') : Dn w' b n done := by
  obtain ⟨D, h1, h2⟩ := h
  exact ⟨D, map_below h1 hb, h2⟩
theorem Dn.look {w : World} {b n : Nat} {done : List Int} (h : Dn w b n done) {x : Int} (hx : wfI x) : (Instr.lookup 52 (.map (some b)) (.int .i64 x) false).run Try.prog w = .ok (.int .i64 (if x ∈ done then 1 else 0)) w := by
  obtain ⟨D, hmap, hsr⟩ := h
  obtain ⟨c, hlk, hac, _⟩ := hmap.lookup_int lawI Try.underlying52 Try.underlying3 (Try.zeroValue3 w) (keyI hx)
  have := hsr.2.1 x hx
  rw [hac] at this
  injection this with this; injection this with _ this
  rw [← this]; exact hlk

theorem ord11_calls (b db n : Nat) (done : List Int) (x : Int) (w : World) (hd : Dn w b n done) (hx : wfI x) (hB : Blk w db #[.map (some b)] 52) :
    Calls Try.prog 28 #[.int .i64 x, .pointer (some ⟨db, 0, none⟩)] w fun e w' => e = .returned (.bool (!done.contains x)) ∧ Below w.heap.size w w' := by
  have c0 : w.cell? ⟨db, 0, none⟩ = some (.map (some b)) := hB.at_ 0 rfl
  have hlk := hd.look hx
  clear hB hd hx
  refine via fun Q hQ => ?_
  by_cases hs : x ∈ done
  · rw [if_pos hs] at hlk
    have HS := Lib.hid (show done.contains x = true by simpa using hs)
    clear hs
    go_enter Try.func28, Try.ntmps28
    go_wp2
    exact ⟨by rw [HS.out]; rfl, Below.refl _ _⟩
  · rw [if_neg hs] at hlk
    have HS := Lib.hid (show done.contains x = false by simpa using hs)
    clear hs
    go_enter Try.func28, Try.ntmps28
    go_wp2
    exact ⟨by rw [HS.out]; rfl, Below.refl _ _⟩
theorem idx_free (es : Es) (done : List Int) (x : Int) : (!decide (0 ≤ idx (fun t => !done.contains t) (succs es x))) = free es done x := by
  by_cases h : idx (fun t => !done.contains t) (succs es x) = -1
  · rw [h]
    have hf : free es done x = true := by
      unfold idx at h
      cases hf : (succs es x).findIdx? (fun t => !done.contains t) with
      | none =>
        rw [List.findIdx?_eq_none_iff] at hf
        rw [free, List.all_eq_true]
        intro t ht
        have := hf t ht
        simpa using this
      | some i => rw [hf] at h; simp at h
    rw [hf]; rfl
  · obtain ⟨k, hk, h1, h2, _⟩ := idx_at h
    rw [h1]
    have hf : free es done x = false := by
      rw [Bool.eq_false_iff]
      intro hc
      rw [free, List.all_eq_true] at hc
      have := hc _ (List.getElem_mem hk)
      rw [this] at h2
      simp at h2
    rw [hf]; simp
set_option maxHeartbeats 1000000 in
theorem ord1_calls (b gb bd db n : Nat) (es : Es) (done : List Int) (x : Int) (w : World) (hg : Gr w b es) (he : wfE es) (hd : Dn w bd n done) (hx : wfI x) (hG : Blk w gb #[.map (some b)] 49) (hB : Blk w db #[.map (some bd)] 52) :
    Calls Try.prog 26 #[.int .i64 x, .pointer (some ⟨gb, 0, none⟩), .pointer (some ⟨db, 0, none⟩)] w fun e w' => e = .returned (.bool (free es done x)) ∧ Below w.heap.size w w' := by
  obtain ⟨base, m, D, h1, h2, h3⟩ := hg
  obtain ⟨v, zs, hall, hat, hoi, hzl, _⟩ := groups_at h1 lawI Try.underlying47 (fun W => Try.zeroValue26 W) (by unfold maxLen; omega) (keyI hx)
  have hz := (row_zs hoi (by rw [← h3.2.1 x hx]; exact hat)).1
  subst hz
  obtain ⟨A, c, hv, hc, hA, hr⟩ := (own_ints hoi).slv'
  rw [show (rwI (succs es x)).length = (succs es x).length from by simp] at *
  subst hv
  have hlk := (hall w rfl).1
  have c0 : w.cell? ⟨gb, 0, none⟩ = some (.map (some b)) := hG.at_ 0 rfl
  have hct := containsFunc_calls 28 #[.pointer (some ⟨db, 0, none⟩)] (enters_of Try.func28 (by kernel_rfl) rfl) (fun t => !done.contains t) (succs es x) A c w hr hc
    (fun W hW t ht => ord11_calls bd db n done t W (hd.below hW) (he.2 _ (mem_succs.1 ht)).2 (hB.below hW)) (by have := succs_len es x; have := he.1; omega)
  have HC := Lib.hid hct
  have HF := Lib.hid (idx_free es done x)
  clear hall hat hoi hr hct hd hx hG hB h1 h3 hA
  refine via fun Q hQ => ?_
  go_enter Try.func26, Try.ntmps26
  go_wp2_with fail
  refine HC.out.mono ?_
  rintro e w1 ⟨rfl, hb⟩
  have HB := Lib.hid hb
  clear hb HC
  go_wp2
  exact ⟨by rw [← HF.out]; simp, HB.out⟩
end Go.Proofs.Ytoimhigpbmabeaa
