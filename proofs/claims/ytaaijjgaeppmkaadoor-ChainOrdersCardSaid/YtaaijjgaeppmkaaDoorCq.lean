/- Chapter 13: one call, of both. -/
import Derived.Test.YtaaijjgaeppmkaaDoorCo
set_option linter.unusedVariables false
set_option maxRecDepth 100000
namespace Go.Proofs.YtaaijjgaeppmkaaDoor
open Go.Proofs.BL Go.Proofs.Peel Go.RowKit Go.Proofs.Cn

/-- What one call makes of the versions. -/
def stV (k a n : Int) (th : Bool) (vs : Vs) : Vs :=
  if k = 0 ∨ k = 1 then (rdV vs a).1 else if k = 2 ∨ k = 3 then (wrV vs a n th).1 else if k = 4 then (cmV vs a).1 else if k = 5 then (abV vs a).1 else if k = 6 then prV a vs else vs
theorem ok_st {vs : Vs} (h : Ok vs) (k a n : Int) (th : Bool) : Ok (stV k a n th vs) := by
  unfold stV
  repeat' split
  all_goals first | exact ok_rd h _ | exact ok_wr h _ _ _ | exact ok_cm h _ | exact ok_ab h _ | exact ok_pr h _ | exact h
theorem len_st (vs : Vs) (k a n : Int) (th : Bool) : (stV k a n th vs).length ≤ vs.length + 1 := by
  unfold stV
  repeat' split
  · rw [len_rd]; omega
  · exact len_wr vs a n th
  · rw [len_cm]; omega
  · have := len_ab vs a; omega
  · have := len_pr a vs; omega
  · omega
def StPost (p q : Nat) (l : List Part) (vs : Vs) (e : Ending) (w' : World) : Prop := e = .returned (.bool true) ∧ Sat (chP p vs :: errP :: rcP q vs :: l) w'
set_option maxHeartbeats 4000000 in
theorem lstep (p q : Nat) (vs : Vs) (k a n : Int) (th : Bool) (l : List Part) (w : World) (h : Sat (chP p vs :: errP :: rcP q vs :: l) w) (hok : Ok vs) (hl : vs.length ≤ 1000000) :
    Calls Tryd.prog 17 #[.pointer (some ⟨p, 0, none⟩), .pointer (some ⟨q, 0, none⟩), .agg #[.int .i64 k, .int .i64 a, .int .i64 n, .bool th]] w (StPost p q l (stV k a n th vs)) := by
  have H0 := Lib.hid (h.alloc #[.int .i64 k, .int .i64 a, .int .i64 n, .bool th] 27).t3
  have c1 := H0.out.s3.blk_.at_ 1 rfl
  have hRd := fun L x (h : Sat (rcP q vs :: L) x) => rRead q vs a L x h hok hl
  clear h
  refine via fun Q hQ => ?_
  by_cases hk0 : k = 0
  · have he : stV k a n th vs = (rdV vs a).1 := by unfold stV; rw [if_pos (.inl hk0)]
    rw [he] at hQ
    clear he
    subst hk0
    have hC := cRead p vs a _ _ H0.out hok hl
    generalize rdV vs a = r at hC hRd hQ
    obtain ⟨vs', z1, z2, z3⟩ := r
    have HC := Lib.hid hC
    clear hC
    go_enter Tryd.func17, Tryd.ntmps17
    go_wp2_with fail
    refine HC.out.mono ?_
    rintro e w1 ⟨rfl, hS1⟩
    have c1 := hS1.s3.blk_.at_ 1 rfl
    have hR := hRd _ _ hS1.s2
    have HR := Lib.hid hR
    clear hR hRd hS1 HC
    go_wp2_with fail
    refine HR.out.mono ?_
    rintro e w2 ⟨rfl, hS2⟩
    have HS2 := Lib.hid hS2.t2.s3.drop
    clear hS2 HR
    go_wp2_with fail
    exact ⟨by simp, HS2.out⟩

  by_cases hk1 : k = 1
  · have he : stV k a n th vs = (rdV vs a).1 := by unfold stV; rw [if_pos (.inr hk1)]
    rw [he] at hQ
    clear he
    subst hk1
    have hC := cRead p vs a _ _ H0.out hok hl
    generalize rdV vs a = r at hC hRd hQ
    obtain ⟨vs', z1, z2, z3⟩ := r
    have HC := Lib.hid hC
    clear hC
    go_enter Tryd.func17, Tryd.ntmps17
    go_wp2_with fail
    refine HC.out.mono ?_
    rintro e w1 ⟨rfl, hS1⟩
    have c1 := hS1.s3.blk_.at_ 1 rfl
    have hR := hRd _ _ hS1.s2
    have HR := Lib.hid hR
    clear hR hRd hS1 HC
    go_wp2_with fail
    refine HR.out.mono ?_
    rintro e w2 ⟨rfl, hS2⟩
    have HS2 := Lib.hid hS2.t2.s3.drop
    clear hS2 HR
    go_wp2_with fail
    exact ⟨by simp, HS2.out⟩

  by_cases hk2 : k = 2
  · have he : stV k a n th vs = (wrV vs a n th).1 := by unfold stV; simp [hk2]
    rw [he] at hQ
    clear he
    subst hk2
    have hC : ∀ x, Sat (chP p vs :: errP :: rcP q vs :: blk w.heap.size #[.int .i64 2, .int .i64 a, .int .i64 n, .bool th] 27 :: l) x → Calls Tryd.prog 10 #[.pointer (some ⟨p, 0, none⟩), .int .i64 a, .int .i64 n, .bool th] x (fun e x' => e = .returned (.int .i64 (wrV vs a n th).2) ∧ (x'.cell? ⟨w.heap.size, 1, none⟩ = some (.int .i64 a) ∧ x'.cell? ⟨w.heap.size, 2, none⟩ = some (.int .i64 n) ∧ x'.cell? ⟨w.heap.size, 3, none⟩ = some (.bool th)) ∧ Hid (Sat (chP p (wrV vs a n th).1 :: errP :: rcP q vs :: blk w.heap.size #[.int .i64 2, .int .i64 a, .int .i64 n, .bool th] 27 :: l) x')) := fun x h => (cWrite p vs a n th _ _ h hok hl).mono fun e x' ⟨h1, h2⟩ => by
      have hb := h2.s3.blk_
      exact ⟨h1, ⟨hb.at_ 1 rfl, hb.at_ 2 rfl, hb.at_ 3 rfl⟩, Lib.hid h2⟩
    have hR : ∀ x, Hid (Sat (chP p (wrV vs a n th).1 :: errP :: rcP q vs :: blk w.heap.size #[.int .i64 2, .int .i64 a, .int .i64 n, .bool th] 27 :: l) x) → Calls Tryd.prog 31 #[.pointer (some ⟨q, 0, none⟩), .int .i64 a, .int .i64 n, .bool th] x (fun e x' => e = .returned (.int .i64 (wrV vs a n th).2) ∧ (x'.cell? ⟨w.heap.size, 1, none⟩ = some (.int .i64 a) ∧ x'.cell? ⟨w.heap.size, 2, none⟩ = some (.int .i64 n) ∧ x'.cell? ⟨w.heap.size, 3, none⟩ = some (.bool th)) ∧ Hid (Sat (chP p (wrV vs a n th).1 :: errP :: rcP q (wrV vs a n th).1 :: blk w.heap.size #[.int .i64 2, .int .i64 a, .int .i64 n, .bool th] 27 :: l) x')) := fun x h => (rWrite q vs a n th _ _ h.out.s2 hok hl).mono fun e x' ⟨h1, h2⟩ => by
      have h3 := h2.t2
      have hb := h3.s3.blk_
      exact ⟨h1, ⟨hb.at_ 1 rfl, hb.at_ 2 rfl, hb.at_ 3 rfl⟩, Lib.hid h3⟩
    have hC0 := fun m => hC _ (H0.out.drewN m)
    have hB := fun m => (H0.out.drewN m).s3.blk_
    generalize wrV vs a n th = r at hC0 hR hQ
    obtain ⟨vs', z⟩ := r
    have HC := Lib.hid hC0
    have HR := Lib.hid hR
    have HB := Lib.hid hB
    clear hC hC0 hR hB hRd
    go_enter Tryd.func17, Tryd.ntmps17
    go_wp2_with fail
    generalize w.alloc (.cells #[.int .i64 2, .int .i64 a, .int .i64 n, .bool th] 27) = wa at HC HB H0 c1 ⊢
    clear c1
    have k0 : (wa.drewN 1).cell? ⟨w.heap.size, 1, none⟩ = some (.int .i64 a) ∧ (wa.drewN 1).cell? ⟨w.heap.size, 2, none⟩ = some (.int .i64 n) ∧ (wa.drewN 1).cell? ⟨w.heap.size, 3, none⟩ = some (.bool th) := ⟨(HB.out 1).at_ 1 rfl, (HB.out 1).at_ 2 rfl, (HB.out 1).at_ 3 rfl⟩
    go_region_held3 (fun x => x.cell? ⟨w.heap.size, 1, none⟩ = some (.int .i64 a) ∧ x.cell? ⟨w.heap.size, 2, none⟩ = some (.int .i64 n) ∧ x.cell? ⟨w.heap.size, 3, none⟩ = some (.bool th)) ((first | assumption | exact k0)) ((first | (go_at_call 10; refine (HC.out _).mono ?_; rintro e x1 ⟨rfl, hx1, hS1⟩) | (go_at_call 31; refine (HR.out _ (by assumption)).mono ?_; rintro e x2 ⟨rfl, hx2, hS2⟩)))
    go_wp2_with fail
    exact ⟨by simp, hS2.out.s3.drop⟩

  by_cases hk3 : k = 3
  · have he : stV k a n th vs = (wrV vs a n th).1 := by unfold stV; simp [hk3]
    rw [he] at hQ
    clear he
    subst hk3
    have hC : ∀ x, Sat (chP p vs :: errP :: rcP q vs :: blk w.heap.size #[.int .i64 3, .int .i64 a, .int .i64 n, .bool th] 27 :: l) x → Calls Tryd.prog 10 #[.pointer (some ⟨p, 0, none⟩), .int .i64 a, .int .i64 n, .bool th] x (fun e x' => e = .returned (.int .i64 (wrV vs a n th).2) ∧ (x'.cell? ⟨w.heap.size, 1, none⟩ = some (.int .i64 a) ∧ x'.cell? ⟨w.heap.size, 2, none⟩ = some (.int .i64 n) ∧ x'.cell? ⟨w.heap.size, 3, none⟩ = some (.bool th)) ∧ Hid (Sat (chP p (wrV vs a n th).1 :: errP :: rcP q vs :: blk w.heap.size #[.int .i64 3, .int .i64 a, .int .i64 n, .bool th] 27 :: l) x')) := fun x h => (cWrite p vs a n th _ _ h hok hl).mono fun e x' ⟨h1, h2⟩ => by
      have hb := h2.s3.blk_
      exact ⟨h1, ⟨hb.at_ 1 rfl, hb.at_ 2 rfl, hb.at_ 3 rfl⟩, Lib.hid h2⟩
    have hR : ∀ x, Hid (Sat (chP p (wrV vs a n th).1 :: errP :: rcP q vs :: blk w.heap.size #[.int .i64 3, .int .i64 a, .int .i64 n, .bool th] 27 :: l) x) → Calls Tryd.prog 31 #[.pointer (some ⟨q, 0, none⟩), .int .i64 a, .int .i64 n, .bool th] x (fun e x' => e = .returned (.int .i64 (wrV vs a n th).2) ∧ (x'.cell? ⟨w.heap.size, 1, none⟩ = some (.int .i64 a) ∧ x'.cell? ⟨w.heap.size, 2, none⟩ = some (.int .i64 n) ∧ x'.cell? ⟨w.heap.size, 3, none⟩ = some (.bool th)) ∧ Hid (Sat (chP p (wrV vs a n th).1 :: errP :: rcP q (wrV vs a n th).1 :: blk w.heap.size #[.int .i64 3, .int .i64 a, .int .i64 n, .bool th] 27 :: l) x')) := fun x h => (rWrite q vs a n th _ _ h.out.s2 hok hl).mono fun e x' ⟨h1, h2⟩ => by
      have h3 := h2.t2
      have hb := h3.s3.blk_
      exact ⟨h1, ⟨hb.at_ 1 rfl, hb.at_ 2 rfl, hb.at_ 3 rfl⟩, Lib.hid h3⟩
    have hC0 := fun m => hC _ (H0.out.drewN m)
    have hB := fun m => (H0.out.drewN m).s3.blk_
    generalize wrV vs a n th = r at hC0 hR hQ
    obtain ⟨vs', z⟩ := r
    have HC := Lib.hid hC0
    have HR := Lib.hid hR
    have HB := Lib.hid hB
    clear hC hC0 hR hB hRd
    go_enter Tryd.func17, Tryd.ntmps17
    go_wp2_with fail
    generalize w.alloc (.cells #[.int .i64 3, .int .i64 a, .int .i64 n, .bool th] 27) = wa at HC HB H0 c1 ⊢
    clear c1
    have k0 : (wa.drewN 1).cell? ⟨w.heap.size, 1, none⟩ = some (.int .i64 a) ∧ (wa.drewN 1).cell? ⟨w.heap.size, 2, none⟩ = some (.int .i64 n) ∧ (wa.drewN 1).cell? ⟨w.heap.size, 3, none⟩ = some (.bool th) := ⟨(HB.out 1).at_ 1 rfl, (HB.out 1).at_ 2 rfl, (HB.out 1).at_ 3 rfl⟩
    go_region_held3 (fun x => x.cell? ⟨w.heap.size, 1, none⟩ = some (.int .i64 a) ∧ x.cell? ⟨w.heap.size, 2, none⟩ = some (.int .i64 n) ∧ x.cell? ⟨w.heap.size, 3, none⟩ = some (.bool th)) ((first | assumption | exact k0)) ((first | (go_at_call 10; refine (HC.out _).mono ?_; rintro e x1 ⟨rfl, hx1, hS1⟩) | (go_at_call 31; refine (HR.out _ (by assumption)).mono ?_; rintro e x2 ⟨rfl, hx2, hS2⟩)))
    go_wp2_with fail
    exact ⟨by simp, hS2.out.s3.drop⟩

  by_cases hk4 : k = 4
  · have he : stV k a n th vs = (cmV vs a).1 := by unfold stV; simp [hk4]
    rw [he] at hQ
    clear he
    subst hk4
    have hC : ∀ x, Sat (chP p vs :: errP :: rcP q vs :: blk w.heap.size #[.int .i64 4, .int .i64 a, .int .i64 n, .bool th] 27 :: l) x → Calls Tryd.prog 12 #[.pointer (some ⟨p, 0, none⟩), .int .i64 a] x (fun e x' => e = .returned (.bool (cmV vs a).2) ∧ (x'.cell? ⟨w.heap.size, 1, none⟩ = some (.int .i64 a) ∧ x'.cell? ⟨w.heap.size, 2, none⟩ = some (.int .i64 n) ∧ x'.cell? ⟨w.heap.size, 3, none⟩ = some (.bool th)) ∧ Hid (Sat (chP p (cmV vs a).1 :: errP :: rcP q vs :: blk w.heap.size #[.int .i64 4, .int .i64 a, .int .i64 n, .bool th] 27 :: l) x')) := fun x h => (cCommit p vs a _ _ h hl).mono fun e x' ⟨h1, h2⟩ => by
      have hb := h2.s3.blk_
      exact ⟨h1, ⟨hb.at_ 1 rfl, hb.at_ 2 rfl, hb.at_ 3 rfl⟩, Lib.hid h2⟩
    have hR : ∀ x, Hid (Sat (chP p (cmV vs a).1 :: errP :: rcP q vs :: blk w.heap.size #[.int .i64 4, .int .i64 a, .int .i64 n, .bool th] 27 :: l) x) → Calls Tryd.prog 32 #[.pointer (some ⟨q, 0, none⟩), .int .i64 a, .bool true] x (fun e x' => e = .returned (.bool (cmV vs a).2) ∧ (x'.cell? ⟨w.heap.size, 1, none⟩ = some (.int .i64 a) ∧ x'.cell? ⟨w.heap.size, 2, none⟩ = some (.int .i64 n) ∧ x'.cell? ⟨w.heap.size, 3, none⟩ = some (.bool th)) ∧ Hid (Sat (chP p (cmV vs a).1 :: errP :: rcP q (cmV vs a).1 :: blk w.heap.size #[.int .i64 4, .int .i64 a, .int .i64 n, .bool th] 27 :: l) x')) := fun x h => (rEnds q vs a true _ _ h.out.s2 hl).mono fun e x' ⟨h1, h2⟩ => by
      have h3 := h2.t2
      have hb := h3.s3.blk_
      exact ⟨h1, ⟨hb.at_ 1 rfl, hb.at_ 2 rfl, hb.at_ 3 rfl⟩, Lib.hid h3⟩
    have hC0 := fun m => hC _ (H0.out.drewN m)
    have hB := fun m => (H0.out.drewN m).s3.blk_
    generalize cmV vs a = r at hC0 hR hQ
    obtain ⟨vs', z⟩ := r
    have HC := Lib.hid hC0
    have HR := Lib.hid hR
    have HB := Lib.hid hB
    clear hC hC0 hR hB hRd
    go_enter Tryd.func17, Tryd.ntmps17
    go_wp2_with fail
    generalize w.alloc (.cells #[.int .i64 4, .int .i64 a, .int .i64 n, .bool th] 27) = wa at HC HB H0 c1 ⊢
    clear c1
    have k0 : (wa.drewN 1).cell? ⟨w.heap.size, 1, none⟩ = some (.int .i64 a) ∧ (wa.drewN 1).cell? ⟨w.heap.size, 2, none⟩ = some (.int .i64 n) ∧ (wa.drewN 1).cell? ⟨w.heap.size, 3, none⟩ = some (.bool th) := ⟨(HB.out 1).at_ 1 rfl, (HB.out 1).at_ 2 rfl, (HB.out 1).at_ 3 rfl⟩
    go_region_held3 (fun x => x.cell? ⟨w.heap.size, 1, none⟩ = some (.int .i64 a) ∧ x.cell? ⟨w.heap.size, 2, none⟩ = some (.int .i64 n) ∧ x.cell? ⟨w.heap.size, 3, none⟩ = some (.bool th)) ((first | assumption | exact k0)) ((first | (go_at_call 12; refine (HC.out _).mono ?_; rintro e x1 ⟨rfl, hx1, hS1⟩) | (go_at_call 32; refine (HR.out _ (by assumption)).mono ?_; rintro e x2 ⟨rfl, hx2, hS2⟩)))
    go_wp2_with fail
    exact ⟨by simp, hS2.out.s3.drop⟩

  by_cases hk5 : k = 5
  · have he : stV k a n th vs = (abV vs a).1 := by unfold stV; simp [hk5]
    rw [he] at hQ
    clear he
    subst hk5
    have hC : ∀ x, Sat (chP p vs :: errP :: rcP q vs :: blk w.heap.size #[.int .i64 5, .int .i64 a, .int .i64 n, .bool th] 27 :: l) x → Calls Tryd.prog 13 #[.pointer (some ⟨p, 0, none⟩), .int .i64 a] x (fun e x' => e = .returned (.bool (abV vs a).2) ∧ (x'.cell? ⟨w.heap.size, 1, none⟩ = some (.int .i64 a) ∧ x'.cell? ⟨w.heap.size, 2, none⟩ = some (.int .i64 n) ∧ x'.cell? ⟨w.heap.size, 3, none⟩ = some (.bool th)) ∧ Hid (Sat (chP p (abV vs a).1 :: errP :: rcP q vs :: blk w.heap.size #[.int .i64 5, .int .i64 a, .int .i64 n, .bool th] 27 :: l) x')) := fun x h => (cAbort p vs a _ _ h hl).mono fun e x' ⟨h1, h2⟩ => by
      have hb := h2.s3.blk_
      exact ⟨h1, ⟨hb.at_ 1 rfl, hb.at_ 2 rfl, hb.at_ 3 rfl⟩, Lib.hid h2⟩
    have hR : ∀ x, Hid (Sat (chP p (abV vs a).1 :: errP :: rcP q vs :: blk w.heap.size #[.int .i64 5, .int .i64 a, .int .i64 n, .bool th] 27 :: l) x) → Calls Tryd.prog 32 #[.pointer (some ⟨q, 0, none⟩), .int .i64 a, .bool false] x (fun e x' => e = .returned (.bool (abV vs a).2) ∧ (x'.cell? ⟨w.heap.size, 1, none⟩ = some (.int .i64 a) ∧ x'.cell? ⟨w.heap.size, 2, none⟩ = some (.int .i64 n) ∧ x'.cell? ⟨w.heap.size, 3, none⟩ = some (.bool th)) ∧ Hid (Sat (chP p (abV vs a).1 :: errP :: rcP q (abV vs a).1 :: blk w.heap.size #[.int .i64 5, .int .i64 a, .int .i64 n, .bool th] 27 :: l) x')) := fun x h => (rEnds q vs a false _ _ h.out.s2 hl).mono fun e x' ⟨h1, h2⟩ => by
      have h3 := h2.t2
      have hb := h3.s3.blk_
      exact ⟨h1, ⟨hb.at_ 1 rfl, hb.at_ 2 rfl, hb.at_ 3 rfl⟩, Lib.hid h3⟩
    have hC0 := fun m => hC _ (H0.out.drewN m)
    have hB := fun m => (H0.out.drewN m).s3.blk_
    generalize abV vs a = r at hC0 hR hQ
    obtain ⟨vs', z⟩ := r
    have HC := Lib.hid hC0
    have HR := Lib.hid hR
    have HB := Lib.hid hB
    clear hC hC0 hR hB hRd
    go_enter Tryd.func17, Tryd.ntmps17
    go_wp2_with fail
    generalize w.alloc (.cells #[.int .i64 5, .int .i64 a, .int .i64 n, .bool th] 27) = wa at HC HB H0 c1 ⊢
    clear c1
    have k0 : (wa.drewN 1).cell? ⟨w.heap.size, 1, none⟩ = some (.int .i64 a) ∧ (wa.drewN 1).cell? ⟨w.heap.size, 2, none⟩ = some (.int .i64 n) ∧ (wa.drewN 1).cell? ⟨w.heap.size, 3, none⟩ = some (.bool th) := ⟨(HB.out 1).at_ 1 rfl, (HB.out 1).at_ 2 rfl, (HB.out 1).at_ 3 rfl⟩
    go_region_held3 (fun x => x.cell? ⟨w.heap.size, 1, none⟩ = some (.int .i64 a) ∧ x.cell? ⟨w.heap.size, 2, none⟩ = some (.int .i64 n) ∧ x.cell? ⟨w.heap.size, 3, none⟩ = some (.bool th)) ((first | assumption | exact k0)) ((first | (go_at_call 13; refine (HC.out _).mono ?_; rintro e x1 ⟨rfl, hx1, hS1⟩) | (go_at_call 32; refine (HR.out _ (by assumption)).mono ?_; rintro e x2 ⟨rfl, hx2, hS2⟩)))
    go_wp2_with fail
    exact ⟨by simp, hS2.out.s3.drop⟩

  by_cases hk6 : k = 6
  · have he : stV k a n th vs = ((prV a vs, (vs.length : Int) - (prV a vs).length) : Vs × Int).1 := by unfold stV; simp [hk6]
    rw [he] at hQ
    clear he
    subst hk6
    have hC : ∀ x, Sat (chP p vs :: errP :: rcP q vs :: blk w.heap.size #[.int .i64 6, .int .i64 a, .int .i64 n, .bool th] 27 :: l) x → Calls Tryd.prog 19 #[.pointer (some ⟨p, 0, none⟩), .int .i64 a] x (fun e x' => e = .returned (.int .i64 (((prV a vs, (vs.length : Int) - (prV a vs).length) : Vs × Int)).2) ∧ (x'.cell? ⟨w.heap.size, 1, none⟩ = some (.int .i64 a) ∧ x'.cell? ⟨w.heap.size, 2, none⟩ = some (.int .i64 n) ∧ x'.cell? ⟨w.heap.size, 3, none⟩ = some (.bool th)) ∧ Hid (Sat (chP p (((prV a vs, (vs.length : Int) - (prV a vs).length) : Vs × Int)).1 :: errP :: rcP q vs :: blk w.heap.size #[.int .i64 6, .int .i64 a, .int .i64 n, .bool th] 27 :: l) x')) := fun x h => (cPrune p vs a _ _ h hl).mono fun e x' ⟨h1, h2⟩ => by
      have hb := h2.s3.blk_
      exact ⟨h1, ⟨hb.at_ 1 rfl, hb.at_ 2 rfl, hb.at_ 3 rfl⟩, Lib.hid h2⟩
    have hR : ∀ x, Hid (Sat (chP p (((prV a vs, (vs.length : Int) - (prV a vs).length) : Vs × Int)).1 :: errP :: rcP q vs :: blk w.heap.size #[.int .i64 6, .int .i64 a, .int .i64 n, .bool th] 27 :: l) x) → Calls Tryd.prog 33 #[.pointer (some ⟨q, 0, none⟩), .int .i64 a] x (fun e x' => e = .returned (.int .i64 (((prV a vs, (vs.length : Int) - (prV a vs).length) : Vs × Int)).2) ∧ (x'.cell? ⟨w.heap.size, 1, none⟩ = some (.int .i64 a) ∧ x'.cell? ⟨w.heap.size, 2, none⟩ = some (.int .i64 n) ∧ x'.cell? ⟨w.heap.size, 3, none⟩ = some (.bool th)) ∧ Hid (Sat (chP p (((prV a vs, (vs.length : Int) - (prV a vs).length) : Vs × Int)).1 :: errP :: rcP q (((prV a vs, (vs.length : Int) - (prV a vs).length) : Vs × Int)).1 :: blk w.heap.size #[.int .i64 6, .int .i64 a, .int .i64 n, .bool th] 27 :: l) x')) := fun x h => (rPrune q vs a _ _ h.out.s2 hl).mono fun e x' ⟨h1, h2⟩ => by
      have h3 := h2.t2
      have hb := h3.s3.blk_
      exact ⟨h1, ⟨hb.at_ 1 rfl, hb.at_ 2 rfl, hb.at_ 3 rfl⟩, Lib.hid h3⟩
    have hC0 := fun m => hC _ (H0.out.drewN m)
    have hB := fun m => (H0.out.drewN m).s3.blk_
    generalize ((prV a vs, (vs.length : Int) - (prV a vs).length) : Vs × Int) = r at hC0 hR hQ
    obtain ⟨vs', z⟩ := r
    have HC := Lib.hid hC0
    have HR := Lib.hid hR
    have HB := Lib.hid hB
    clear hC hC0 hR hB hRd
    go_enter Tryd.func17, Tryd.ntmps17
    go_wp2_with fail
    generalize w.alloc (.cells #[.int .i64 6, .int .i64 a, .int .i64 n, .bool th] 27) = wa at HC HB H0 c1 ⊢
    clear c1
    have k0 : (wa.drewN 1).cell? ⟨w.heap.size, 1, none⟩ = some (.int .i64 a) ∧ (wa.drewN 1).cell? ⟨w.heap.size, 2, none⟩ = some (.int .i64 n) ∧ (wa.drewN 1).cell? ⟨w.heap.size, 3, none⟩ = some (.bool th) := ⟨(HB.out 1).at_ 1 rfl, (HB.out 1).at_ 2 rfl, (HB.out 1).at_ 3 rfl⟩
    go_region_held3 (fun x => x.cell? ⟨w.heap.size, 1, none⟩ = some (.int .i64 a) ∧ x.cell? ⟨w.heap.size, 2, none⟩ = some (.int .i64 n) ∧ x.cell? ⟨w.heap.size, 3, none⟩ = some (.bool th)) ((first | assumption | exact k0)) ((first | (go_at_call 19; refine (HC.out _).mono ?_; rintro e x1 ⟨rfl, hx1, hS1⟩) | (go_at_call 33; refine (HR.out _ (by assumption)).mono ?_; rintro e x2 ⟨rfl, hx2, hS2⟩)))
    go_wp2_with fail
    exact ⟨by simp, hS2.out.s3.drop⟩

  have he : stV k a n th vs = vs := by unfold stV; simp [*]
  rw [he] at hQ
  clear he hRd
  have t0 : (k == 0) = false := by simpa using hk0
  have t1 : (k == 1) = false := by simpa using hk1
  have t2 : (k == 2) = false := by simpa using hk2
  have t3 : (k == 3) = false := by simpa using hk3
  have t4 : (k == 4) = false := by simpa using hk4
  have t5 : (k == 5) = false := by simpa using hk5
  have t6 : (k == 6) = false := by simpa using hk6
  clear hk0 hk1 hk2 hk3 hk4 hk5 hk6 c1
  have HS := Lib.hid H0.out.s3.drop
  go_enter Tryd.func17, Tryd.ntmps17
  have c0 := H0.out.s3.blk_.at_ 0 rfl
  go_wp2_with fail
  exact ⟨rfl, HS.out⟩
end Go.Proofs.YtaaijjgaeppmkaaDoor
