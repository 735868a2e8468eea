/- Package page: Copy. append(v, u...) as one step of a region that draws its order. -/
import Derived.Test.YtlekfpeonehggaaGreatDoorJ31
import Derived.Test.YtlekfpeonehggaaGreatDoorJ26
import Derived.Test.YtlekfpeonehggaaGreatDoorJ04
import Derived.Test.YtlekfpeonehggaaGreatDoorJ05
import Derived.Test.YtlekfpeonehggaaGreatDoorJ10
import Derived.Test.YtlekfpeonehggaaGreatDoorJ03
import Derived.Deep.AppendLies
import Derived.Deep.RegionHeld3
section
set_option linter.unusedVariables false
set_option linter.unusedSimpArgs false
set_option maxRecDepth 100000
namespace Go.Proofs.YtlekfpeonehggaaGreatDoor
open Go.Proofs.BL Go.Proofs.Peel Go.RowKit Go.Proofs.Ky

def CopyPost (most : Int) (P : List (List Rw)) (ls : List Part) (e : Ending) (w' : World) : Prop := ∃ q : Nat, e = .returned (.pointer (some ⟨q, 0, none⟩)) ∧ Sat (stP q most P :: ls) w'
set_option maxHeartbeats 4000000 in
theorem stCopy (p : Nat) (most : Int) (P : List (List Rw)) (ls : List Part) (w : World) (h : Sat (stP p most P :: ls) w) (hl : P.flatten.length ≤ 100000) (hpl : P.length ≤ 100000) :
    Calls Tryz.prog 11 #[.pointer (some ⟨p, 0, none⟩)] w (CopyPost most P (stP p most P :: ls)) := by
  refine via fun Q hQ => ?_
  obtain ⟨L, vs, hF, h2⟩ := h.stF
  have c0 := hF.b.at_ 0 rfl
  have c2 := hF.b.at_ 2 rfl
  simp only [List.getElem_toArray, List.getElem_cons_succ, List.getElem_cons_zero] at c0 c2
  have HS0 := Lib.hid h
  clear hF h h2
  generalize hFl : P.flatten.length = F at *
  have d0 : w.drew.cell? ⟨p, 0, none⟩ = _ := c0
  have d2 : w.drew.cell? ⟨p, 2, none⟩ = _ := c2
  go_enter Tryz.func11, Tryz.ntmps11
  go_wp2_with fail
  refine Rg.begin_ (fun x => x.cell? ⟨p, 0, none⟩ = some (.int .i64 most) ∧ x.cell? ⟨p, 2, none⟩ = some (.int .i64 F)) 10 (by kernel_rfl) ?_
  have hS0 : (fun x => x.cell? ⟨p, 0, none⟩ = some (.int .i64 most) ∧ x.cell? ⟨p, 2, none⟩ = some (.int .i64 F)) (World.drew w) := ⟨d0, d2⟩
  refine Rg.take (i := 0) (v := ?_) rfl (by kernel_rfl) (fun _ _ _ h => h) hS0 (Or.inl ⟨by rfl, ?_⟩) ?_
  rotate_left
  · ((intro w hSw; (try dsimp only at hSw); go_simp) <;> (with_reducible rfl))
  try simp only [Act.put, List.setIfInBounds_toArray, List.set_cons_zero, List.set_cons_succ]
  refine Rg.take (i := 1) (v := ?_) rfl (by kernel_rfl) (fun _ _ _ h => h) hS0 (Or.inl ⟨by rfl, ?_⟩) ?_
  rotate_left
  · ((intro w hSw; (try dsimp only at hSw); go_simp) <;> (with_reducible rfl))
  try simp only [Act.put, List.setIfInBounds_toArray, List.set_cons_zero, List.set_cons_succ]
  refine Rg.take (i := 2) (v := ?_) rfl (by kernel_rfl) (fun _ _ _ h => h) hS0 (Or.inl ⟨by rfl, ?_⟩) ?_
  rotate_left
  · ((intro w hSw; (try dsimp only at hSw); go_simp) <;> (with_reducible rfl))
  try simp only [Act.put, List.setIfInBounds_toArray, List.set_cons_zero, List.set_cons_succ]
  refine Rg.take (i := 3) (v := ?_) rfl (by kernel_rfl) (fun _ _ _ h => h) hS0 (Or.inl ⟨by rfl, ?_⟩) ?_
  rotate_left
  · ((intro w hSw; (try dsimp only at hSw); go_simp) <;> (with_reducible rfl))
  try simp only [Act.put, List.setIfInBounds_toArray, List.set_cons_zero, List.set_cons_succ]
  refine Rg.take (i := 4) (v := ?_) rfl (by kernel_rfl) (fun _ _ _ h => h) hS0 (Or.inl ⟨by rfl, ?_⟩) ?_
  rotate_left
  · ((intro w hSw; (try dsimp only at hSw); go_simp) <;> (with_reducible rfl))
  try simp only [Act.put, List.setIfInBounds_toArray, List.set_cons_zero, List.set_cons_succ]
  refine Rg.take (i := 5) (v := ?_) rfl (by kernel_rfl) (fun _ _ _ h => h) hS0 (Or.inl ⟨by rfl, ?_⟩) ?_
  rotate_left
  · ((intro w hSw; (try dsimp only at hSw); go_simp) <;> (with_reducible rfl))
  try simp only [Act.put, List.setIfInBounds_toArray, List.set_cons_zero, List.set_cons_succ]
  refine Rg.take (i := 6) (v := ?_) rfl (by kernel_rfl) (fun _ _ _ h => h) hS0 (Or.inl ⟨by rfl, ?_⟩) ?_
  rotate_left
  · ((intro w hSw; (try dsimp only at hSw); go_simp) <;> (with_reducible rfl))
  try simp only [Act.put, List.setIfInBounds_toArray, List.set_cons_zero, List.set_cons_succ]
  refine Rg.take (i := 7) (v := ?_) rfl (by kernel_rfl) (fun _ _ _ h => h) hS0 (Or.inl ⟨by rfl, ?_⟩) ?_
  rotate_left
  · ((intro w hSw; (try dsimp only at hSw); go_simp) <;> (with_reducible rfl))
  try simp only [Act.put, List.setIfInBounds_toArray, List.set_cons_zero, List.set_cons_succ]
  refine Rg.take (i := 8) (v := ?_) rfl (by kernel_rfl) (fun _ _ _ h => h) hS0 (Or.inl ⟨by rfl, ?_⟩) ?_
  rotate_left
  · ((intro w hSw; (try dsimp only at hSw); go_simp) <;> (with_reducible rfl))
  try simp only [Act.put, List.setIfInBounds_toArray, List.set_cons_zero, List.set_cons_succ]
  refine Rg.one (i := 9) rfl (by kernel_rfl) (fun K hK => ?_)
  go_simp
  have hS1 : (fun x => x.cell? ⟨p, 0, none⟩ = some (.int .i64 most) ∧ x.cell? ⟨p, 2, none⟩ = some (.int .i64 F)) (w.drew.alloc (.cells #[.int .i64 most, .slice none 0 0, .int .i64 F] 57)) := ⟨upA d0 _, upA d2 _⟩
  refine hK.out _ _ (fun _ => hS1) ?_
  clear hK K
  try simp only [Act.put, List.setIfInBounds_toArray, List.set_cons_zero, List.set_cons_succ]
  refine Rg.one (i := 10) rfl (by kernel_rfl) (fun K hK => ?_)
  go_simp
  refine hK.out _ _ (fun _ => hS1) ?_
  clear hK K
  try simp only [Act.put, List.setIfInBounds_toArray, List.set_cons_zero, List.set_cons_succ]
  refine Rg.done (by kernel_rfl) ?_ _

  have hq : Sat (stB w.heap.size most F (.slice none 0 0) :: stP p most P :: ls) (w.alloc (.cells #[.int .i64 most, .slice none 0 0, .int .i64 F] 57)).drew := (HS0.out.alloc #[.int .i64 most, .slice none 0 0, .int .i64 F] 57).drewN 1
  have HP := Lib.hid (stPages p most P (stB w.heap.size most F (.slice none 0 0) :: ls) _ hq.s1 (by omega) hpl)
  generalize w.heap.size = q at *
  clear hq hS0 hS1 HS0 d0 d2 c0 c2
  generalize (w.alloc (.cells #[.int .i64 most, .slice none 0 0, .int .i64 F] 57)).drew = wa at *
  go_wp2_with fail
  (with_reducible refine HP.out.mono ?_)
  rintro e w2 ⟨v, us, rfl, hS⟩
  obtain ⟨A, c, rfl, hc, _⟩ := hS.own_.slv'
  have hus := hS.drop.pagesLen
  have hlf := lfR_len us
  rw [hlf] at hS
  have HS2 := Lib.hid hS
  clear hS HP
  generalize hN : us.length = N at *
  rw [hlf] at *
  have HUN := Lib.hid hN
  clear hN
  go_wp2_with fail
  go_loopg [22] N (fun g i wr => ∃ (j : Nat) (Lj : Value), j ≤ N ∧ g = N - j ∧ i = .int .i64 j ∧ Hid (Sat (stB q most F Lj :: ownR Lj 59 1 (lfR (us.take j)) :: ownR (.slice A N c) 27 1 (lfR us) :: pagesP us P :: stP p most P :: ls) wr))
  case atStart => exact ⟨0, .slice none 0 0, Nat.zero_le _, rfl, rfl, Lib.hid ((HS2.out.s3.nilR 59 1).s1)⟩
  case round =>
    obtain ⟨j, Lj, hj, rfl, rfl, HSr⟩ := hrel
    by_cases hlt : j < N
    · have hr : ∃ r, P[j]? = some r := ⟨_, List.getElem?_eq_getElem (by have := HUN.out; omega)⟩
      obtain ⟨r, hr⟩ := hr
      obtain ⟨u, hu, hO⟩ := HSr.out.drop.drop.drop.pageAt hr
      obtain ⟨A2, c2, rfl, _, _, _, _⟩ := own_addr hO
      obtain ⟨_, _, e9, _, _, hR⟩ := HSr.out.drop.drop.own_.slv'
      injection e9 with e91 e92 e93
      subst e91
      obtain ⟨b, o, rfl, hcc⟩ := hR j [.slice A2 (rwR r).length c2] (lfR_at hu)
      have k1 := hcc 0 _ rfl
      rw [Nat.mul_one, Nat.add_zero] at k1
      have k2 := HSr.out.blk_.at_ 1 rfl
      simp only [List.getElem_toArray, List.getElem_cons_succ, List.getElem_cons_zero] at k2
      have HLu := Lib.hid (show ((lfR (us.take j)).length + 1) * 24 ≤ 140737488355328 from by rw [lfR_len, List.length_take]; have := HUN.out; omega)
      have HU := Lib.hid hu
      clear hr hu hO hR hcc e92 e93
      generalize (rwR r).length = nr at *
      have HS5 := Lib.hid HSr.out.s1
      go_wp2_with (at_builtin; refine Classical.byContradiction fun hcontra => ?_)
      refine hcontra ?_
      clear hcontra
      refine satApp (W := wr) 59 1 24 (.agg #[.slice none 0 0]) rfl (.tmp 29) (.tmp 32) 55 rfl Tryz.underlying55 (by kernel_rfl) rfl (by decide) (by decide) _ (lfR (us.take j)) [.slice A2 nr c2] rfl _ rfl rfl rfl (by simp [Value.oneCell']) HS5.out rfl HLu.out ?_
      intro v4 w4 hS4
      obtain ⟨A4, c4, e4, _, _, _⟩ := hS4.own_.slv'
      subst e4
      have HS4 := Lib.hid hS4
      have k3 := hS4.s1.blk_.at_ 1 rfl
      have k4 : w4.frozen? ⟨q, 1, none⟩ = false := hS4.s1.blk_.free _
      clear hS4
      simp only [List.getElem_toArray, List.getElem_cons_succ, List.getElem_cons_zero] at k3
      go_wp2_with fail
      have HS6 := Lib.hid (HS4.out.s1.set 1 (.slice A4 (lfR (us.take j) ++ [[Value.slice A2 nr c2]]).length c4))
      go_roundg (N - (j + 1))
      case measure => omega
      case rel => 
        refine ⟨j + 1, .slice A4 ((lfR (us.take j)).length + 1) c4, by omega, rfl, by go_num, Lib.hid ?_⟩
        have h9 := HS6.out
        have h8 : lfR (us.take (j + 1)) = lfR (us.take j) ++ [[Value.slice A2 nr c2]] := by rw [List.take_add_one, HU.out]; simp [lfR]
        rw [h8]
        rw [show (lfR (us.take j) ++ [[Value.slice A2 nr c2]]).length = (lfR (us.take j)).length + 1 from by rw [List.length_append]; rfl] at h9
        exact h9
    · obtain rfl : j = N := by omega
      have h9 := HSr.out
      rw [List.take_of_length_le (by rw [HUN.out]; exact Nat.le_refl _)] at h9
      have HS9 := Lib.hid (h9.s2.drop.s1.toW.s1.shutSt (by rw [hFl]))
      clear h9
      go_wp2_with fail
      exact ⟨q, rfl, HS9.out⟩
end Go.Proofs.YtlekfpeonehggaaGreatDoor
end

section
set_option linter.unusedVariables false
namespace Go.Proofs.YtlekfpeonehggaaGreatDoor
open Go.Proofs.BL Go.Proofs.Peel Go.RowKit
theorem stepN {P : Program} {ops : Array Oper} {o : Oper} {a : Act} {W : World} {K : Act → World → Prop} {Q : Exit → Act → World → Prop} {F : Prop} (base : Nat) (E : TypeId) (sz bytes : Nat) (z : Value) (hgd : o.guard = none) (s x : Operand) (t : TypeId)
    (ho : o.op = .call { callee := .builtin .append, args := #[s, x], argTypes := #[t, t] })
    (ht : P.underlying t = some (.slice E)) (hinfo : (P.info? E).map (fun i => (i.zero, i.size, i.bytes)) = some (some z, sz, bytes)) (hz : z.cells.size = sz) (hs0 : 0 < sz) (hb0 : 0 < bytes)
    (v : Value) (rows ys : List (List Value)) (hs : a.eval s = v) (g n c : Nat) (hx : a.eval x = .slice (some ⟨g, 0, none⟩) n c) (hn : n = ys.length) (hn0 : 0 < n) (HR : RowsAt W sz (some ⟨g, 0, none⟩) ys)
    (hys : ∀ r, r ∈ ys → r.length = sz) (h1 : ∀ r, r ∈ ys → ∀ u ∈ r, u.oneCell' = true)
    (HO : Own W base E sz v rows) (hbase : base ≤ W.heap.size) (hl : (rows.length + ys.length) * bytes ≤ 140737488355328)
    (h : ∀ v1 w1, Own w1 base E sz v1 (rows ++ ys) → Fr (fun k => v.ownBlock = some k) W w1 → K (a.put o.dst v1) w1) :
    if Region.wanted o (yielded ops a.tmps) = true then Oper.wp P o a W K Q else F := by
  obtain ⟨i0, hi, hzz⟩ := Option.map_eq_some_iff.1 hinfo
  simp only [Prod.mk.injEq] at hzz
  obtain ⟨hz0, hz1, hz2⟩ := hzz
  subst hn
  have hlen : rows.length + ys.length ≤ 140737488355328 := Nat.le_trans (Nat.le_mul_of_pos_right _ hb0) hl
  have hfl : ys.flatten.length = ys.length * sz := by
    clear HR h hl hlen hx hn0
    induction ys with
    | nil => simp
    | cons y ys ih => rw [List.flatten_cons, List.length_append, hys y (by simp), ih (fun r hr => hys r (by simp [hr])) (fun r hr => h1 r (by simp [hr])), List.length_cons, Nat.succ_mul]; omega
  have hnews : ∀ j u, ys.flatten[j]? = some u → W.cell? ((⟨g, 0, none⟩ : Addr).add j) = some u := fun j u hj => by
    have := HR.flat g 0 _ hys j u hj
    rwa [show (⟨g, 0, none⟩ : Addr).add j = ⟨g, 0 + j, none⟩ from by unfold Addr.add; split <;> simp_all]
  refine step_append_lies W hgd s x t ho base E i0 z sz bytes ht hi hz0 hz1 hz2 hz hs0 v rows.length rows.flatten hs HO.1 ⟨g, 0, none⟩ ys.length c ys.flatten hx hfl hnews
    (fun u hu => by obtain ⟨r, hr, hur⟩ := List.mem_flatten.1 hu; exact h1 r hr u hur) hn0 (by simp only [maxLen]; omega) hl hbase W.heap.size rfl ?_
  intro g' cap w1 hown hg hloc _
  refine h _ w1 ⟨by simpa using hown, fun r hr => ?_⟩ ⟨hg.os, hg.tape, hg.output, hg.size, fun k hk hn => hg.block k hk (fun e => hn e.symm)⟩
  rcases List.mem_append.1 hr with hr | hr
  · exact HO.2 r hr
  · exact hys r hr
/-- A row that is not empty, of one's own: its address. -/
theorem own_bys {w : World} {base : Nat} {E : TypeId} {v : Value} {l : List UInt8} (h : Own w base E 1 v (bys l)) (hn : l ≠ []) : ∃ g c, v = .slice (some ⟨g, 0, none⟩) l.length c ∧ l.length ≤ c ∧ RowsAt w 1 (some ⟨g, 0, none⟩) (bys l) := by
  obtain ⟨g, c, e, h1, _⟩ := own_some h (fun e => hn (List.map_eq_nil_iff.1 e))
  obtain ⟨A, c', e', _, _, hr⟩ := h.slv'
  rw [e] at e'
  injection e' with e1 _ _
  subst e1
  rw [bys_len] at e h1
  exact ⟨g, c, e, h1, hr⟩
theorem natB_ne (n : Nat) : natB n ≠ [] := by simp [natB]
theorem seq2_flat (a b : List UInt8) : [a, b].flatten = a ++ b := by simp
/-- octet.Seq of two. -/
theorem seq2 (w : World) (v1 v2 : Value) (a b : List UInt8) (B1 B2 : Nat) (h1 : Own w B1 5 1 v1 (bys a)) (h2 : Own w B2 5 1 v2 (bys b)) (hl : a.length + b.length ≤ 100000000) :
    Calls Tryz.prog 54 #[.slice (some ⟨w.heap.size, 0, none⟩) 2 2] (w.alloc (.cells #[v1, v2] 23)) (ByAns (w.alloc (.cells #[v1, v2] 23)) [a, b].flatten) := by
  have hal := (Below.refl w.heap.size w).alloc (Nat.le_refl _) (.cells #[v1, v2] 23)
  refine oseq (some ⟨w.heap.size, 0, none⟩) 2 [a, b] [v1, v2] _ rfl (Nat.le_refl _) (fun i r hi => ⟨w.heap.size, 0, rfl, fun j u hj => ?_⟩) (fun k v l hv hl => ?_) (by rw [seq2_flat, List.length_append]; omega) (by show 2 ≤ 1000000; decide)
  · have hb := Blk.new w #[v1, v2] 23
    match i, hi with
    | 0, hi => injection hi with hi; subst hi; match j, hj with | 0, hj => injection hj with hj; subst hj; exact hb.at_ 0 rfl
    | 1, hi => injection hi with hi; subst hi; match j, hj with | 0, hj => injection hj with hj; subst hj; exact hb.at_ 1 rfl
  · match k, hv, hl with
    | 0, hv, hl =>
      injection hv with hv
      injection hl with hl
      subst hv hl
      obtain ⟨A, c, e, _, hc, hr⟩ := (h1.below hal).slv'
      exact ⟨A, c, by rw [e, bys_len], hc, hr⟩
    | 1, hv, hl =>
      injection hv with hv
      injection hl with hl
      subst hv hl
      obtain ⟨A, c, e, _, hc, hr⟩ := (h2.below hal).slv'
      exact ⟨A, c, by rw [e, bys_len], hc, hr⟩
end Go.Proofs.YtlekfpeonehggaaGreatDoor
end
