/- fault.Place. -/
import Derived.Test.YtgijnchfonfeaaaDoorFkc
set_option maxRecDepth 100000
namespace Go.Proofs.YtgijnchfonfeaaaDoor
open Go.Proofs.BL Go.Proofs.Peel Go.RowKit
theorem Lk.of_at {x : Lk} (h : x.kind = .at_) : ∃ q, x = .at_ q := by cases x <;> simp [Lk.kind] at h; exact ⟨_, rfl⟩
def placeOf (c : List Lk) : Int := match upto .at_ c with | .at_ p :: _ => p | _ => -1
set_option maxHeartbeats 400000 in
/-- fault.Place. -/
theorem fplace (v : Value) (c : List Lk) (w : World) (hE : ErrT w) (hc : Chn w v c) : Calls Tryd.prog 26 #[v] w (Ans w (.int .i64 (placeOf c))) := by
  have hb0 : Below w.heap.size w (w.alloc (.cells #[.pointer none] 58)) := (Below.refl _ _).alloc (Nat.le_refl _) _
  have HA := Lib.hid (eAs .at_ .at_ rfl c v (.pointer none) w.heap.size _ (hE.below hb0) (hc.below hb0) (Blk.new w #[.pointer none] 58))
  clear hc hE hb0
  go_enter Tryd.func26, Tryd.ntmps26
  go_wp2_with fail
  refine HA.out.mono ?_
  rintro e w' hp
  by_cases hu : upto .at_ c = []
  · obtain ⟨rfl, _⟩ := hp.1 hu
    have HP := Lib.hid hp.own
    have HN := Lib.hid hu
    clear hp hu
    go_wp2
    go_ret
    exact ⟨by unfold placeOf; rw [HN.out]; rfl, HP.out⟩
  · obtain ⟨rfl, _, p, hB, hC⟩ := hp.2 hu
    obtain ⟨x, r, hn⟩ := List.exists_cons_of_ne_nil hu
    rw [hn] at hC
    have hk : x.kind = .at_ := (same_iff _ _).1 (upto_head hn)
    obtain ⟨b2, u2, e2, hX, _⟩ := hC
    obtain ⟨q, rfl⟩ := Lk.of_at hk
    injection e2 with _ e2
    injection e2 with e2
    injection e2 with e2
    injection e2 with e2
    subst e2
    have g0 : w'.cell? ⟨w.heap.size, 0, none⟩ = some (.pointer (some ⟨p, 0, none⟩)) := hB.at_ 0 rfl
    have g1 : w'.cell? ⟨p, 1, none⟩ = some (.int .i64 q) := hX.at_ 1 rfl
    have HP := Lib.hid hp.own
    have HN := Lib.hid hn
    clear hp hB hX hu hn
    go_wp2
    go_ret
    exact ⟨by unfold placeOf; rw [HN.out]; rfl, HP.out⟩
end Go.Proofs.YtgijnchfonfeaaaDoor
