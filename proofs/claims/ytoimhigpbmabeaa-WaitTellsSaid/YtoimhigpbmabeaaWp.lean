/- wait.Order, walked. -/
import Derived.Test.YtoimhigpbmabeaaWo
import Derived.Test.YtoimhigpbmabeaaSc
set_option linter.unusedVariables false
set_option maxRecDepth 100000
namespace Go.Proofs.Ytoimhigpbmabeaa
open Go.ChangeShapes Go.ChangeMaps Go.Proofs.BL Go.RowKit Go.Maps Go.Proofs.Wm Go.Proofs.YtoimhigpbmabeaaW.PrintWords Go.Proofs.Ytoimhigpbmabeaa.G

theorem own_setSome {base g n cap : Nat} : ∀ (k l : List Int) (o : Nat) (w : World), o + k.length ≤ l.length → Own w base 3 1 (.slice (some ⟨g, 0, none⟩) n cap) (rwI l) →
    Own (w.setCells g o (k.map (Value.int .i64))) base 3 1 (.slice (some ⟨g, 0, none⟩) n cap) (rwI (l.take o ++ k ++ l.drop (o + k.length)))
  | [], l, o, w, h, ho => by simpa [World.setCells] using ho
  | x :: k, l, o, w, h, ho => by
    have h1 := own_store ho o x
    simp only [List.length_cons] at h
    have h2 := own_setSome k (l.set o x) (o + 1) _ (by rw [List.length_set]; omega) h1
    simp only [List.map_cons, World.setCells]
    have e : (l.set o x).take (o + 1) ++ k ++ (l.set o x).drop (o + 1 + k.length) = l.take o ++ x :: k ++ l.drop (o + (x :: k).length) := by
      rw [List.take_add_one, List.take_set_of_le (Nat.le_refl _), List.getElem?_set_self (by omega), List.drop_set_of_lt (by omega)]
      simp [Nat.add_assoc, Nat.add_comm 1]
    rw [e] at h2
    exact h2
theorem delete_calls (w : World) (base g n c i : Nat) (l : List Int) (hi : i < l.length) (ho : Own w base 3 1 (.slice (some ⟨g, 0, none⟩) n c) (rwI l)) :
    Calls Try.prog 29 #[.slice (some ⟨g, 0, none⟩) n c, .int .i64 i, .int .i64 (i + 1)] w fun e w' => e = .returned (.slice (some ⟨g, 0, none⟩) (n - 1) c) ∧ Own w' base 3 1 (.slice (some ⟨g, 0, none⟩) (n - 1) c) (rwI (l.eraseIdx i)) ∧ Fr (only g) w w' := by
  obtain ⟨cur, hh, hb, hn, hc, hm, hs, ht⟩ := own_cur ho
  subst hn
  have h := Try.slices_Delete_int_cells g 0 l.length c i (i + 1) l w (Nat.le_refl _) hc hm (by omega) (by omega) (fun j hj => by
    rw [Nat.zero_add, own_cell ho hj, List.getD_eq_getElem?_getD, List.getElem?_eq_getElem hj]; rfl) (fun j hj => Blk.free hh _)
  refine h.mono ?_
  rintro e w' ⟨rfl, q, rfl⟩
  rw [show i + 1 - i = 1 from by omega]
  have hk : (l.take l.length).take i ++ (l.take l.length).drop (i + 1) ++ List.replicate 1 0 = l.eraseIdx i ++ [0] := by
    rw [List.take_length, List.eraseIdx_eq_take_drop_succ]; simp
  rw [hk]
  have hel : (l.eraseIdx i).length = l.length - 1 := by rw [List.length_eraseIdx_of_lt hi]
  have hd : Below w.heap.size w (w.drewN q) := ⟨rfl, rfl, rfl, Nat.le_refl _, fun _ _ => rfl⟩
  have h1 := own_setSome (l.eraseIdx i ++ [0]) l 0 _ (by simp [hel]; omega) (ho.below hd)
  rw [List.take_zero, List.nil_append, List.drop_eq_nil_of_le (by simp [hel]; omega), List.append_nil] at h1
  have h2 := own_cut h1 (l.length - 1) (by omega)
  rw [List.take_left' hel] at h2
  exact ⟨rfl, h2, (Fr.of_below hd).trans (fr_cells _ _ _) (fun _ _ h => h)⟩
end Go.Proofs.Ytoimhigpbmabeaa
namespace Go.Proofs.Ytoimhigpbmabeaa
open Go.ChangeShapes Go.ChangeMaps Go.Proofs.BL Go.RowKit Go.Maps Go.Proofs.Wm Go.Proofs.YtoimhigpbmabeaaW.PrintWords Go.Proofs.Ytoimhigpbmabeaa.G

def OrdPost (r : List Int × Bool) (w : World) (e : Ending) (w' : World) : Prop := ∃ v, e = .returned (.tuple #[v, .bool r.2]) ∧ Kd.R (Kd.int .i64) 3 w' w.heap.size (fun _ => True) v r.1 ∧ Below w.heap.size w w'

set_option maxHeartbeats 4000000 in
theorem order_calls (A : Option Addr) (c : Nat) (l : List S44) (w : World) (hr : Kd.C k44 w A l.length l) (hc : l.length ≤ c) (he : wfE (pr l)) :
    Calls Try.prog 12 #[.slice A l.length c] w (OrdPost (ordL (pr l)) w) := by
  have hll : (pr l).length = l.length := by simp [pr]
  have HD := Lib.hid (drawn_calls A c l w hr hc (fun e h => he.2 (e.f0, e.f1) (List.mem_map.2 ⟨e, h, rfl⟩)) (by have := he.1; omega))
  have HE := Lib.hid he
  have hl0 : l.length ≤ 1000 := by have := he.1; omega
  clear hr he hll
  have hmm := @run_makeMap Try.prog
  refine via fun Q hQ => ?_
  go_enter Try.func12, Try.ntmps12
  go_wp2_with fail
  refine HD.out.mono ?_
  rintro e w1 ⟨b, base, n, D, rfl, hown, hn, hdr, hb1, _⟩
  have hG : Gr w1 b (pr l) := ⟨base, n, D, hown, by omega, hdr⟩
  have hal : Below w1.heap.size w1 (w1.alloc (.cells #[.map (some b)] 49)) := (Below.refl _ _).alloc (Nat.le_refl _) _
  have hg2 := hG.below hal
  have hk2 := Blk.new w1 #[.map (some b)] 49
  have hb2 := below_then hb1 hal
  have ha2 := all_gr hg2 HE.out
  have hz2 : w1.heap.size < (w1.alloc (.cells #[.map (some b)] 49)).heap.size := by simp
  go_wp2_with fail
  generalize w1.alloc (.cells #[.map (some b)] 49) = w2 at hg2 hk2 hb2 ha2 hz2 ⊢
  have HG := Lib.hid hg2
  have HBk := Lib.hid hk2
  have HB2 := Lib.hid hb2
  have HA := Lib.hid ha2
  clear hown hdr hb1 HD hG hal hg2 hk2 hb2 ha2
  refine HA.out.mono ?_
  rintro e w3 ⟨v, rfl, hv, hb3⟩
  have hal3 : Below w3.heap.size w3 ((w3.alloc (.map #[] 0)).alloc (.cells #[.map (some w3.heap.size)] 52)) := ((Below.refl _ _).alloc (Nat.le_refl _) _).alloc (by simp) _
  have hol := (R_own' hv).below hal3
  have hbl := below_then hb3 hal3
  have hdn : Dn ((w3.alloc (.map #[] 0)).alloc (.cells #[.map (some w3.heap.size)] 52)) w3.heap.size 0 [] :=
    ⟨.map [], map_below (World.ownsMap_made (H := Unit) w3 Try.prog 3 (plainElem Try.prog 3)) ((Below.refl _ _).alloc (Nat.le_refl _) _), ⟨isMap_empty, fun x hx => by simp [DataW.atKey], fun x hx => rfl⟩⟩
  have hbd : Blk ((w3.alloc (.map #[] 0)).alloc (.cells #[.map (some w3.heap.size)] 52)) (w3.heap.size + 1) #[.map (some w3.heap.size)] 52 := by simpa using Blk.new (w3.alloc (.map #[] 0)) #[.map (some w3.heap.size)] 52
  have hz3 : w2.heap.size ≤ w3.heap.size := hb3.size
  clear hv hb3 HA hal3
  go_wp2_with fail
  generalize (w3.alloc (.map #[] 0)).alloc (.cells #[.map (some w3.heap.size)] 52) = w4 at hol hbl hdn hbd ⊢
  go_loopg [5, 7] (allL (pr l)).length (fun g u5 u7 wr => ∃ (left done : List Int), g = left.length ∧ ordLoop (pr l) (left.length + 1) left done = ordL (pr l) ∧ left.length + done.length ≤ 2000 ∧ (∀ x ∈ left, wfI x) ∧ (∃ n, n ≤ done.length ∧ Dn wr w3.heap.size n done) ∧ Blk wr (w3.heap.size + 1) #[.map (some w3.heap.size)] 52 ∧
    Own wr w2.heap.size 3 1 u5 (rwI left) ∧ Own wr w2.heap.size 3 1 u7 (rwI done) ∧ (∀ k, u5.ownBlock = some k → ¬ u7.ownBlock = some k) ∧ Below w2.heap.size w2 wr)
  case atStart => exact ⟨allL (pr l), [], rfl, rfl, by have := allL_len HE.out; simpa using this, fun x hx => wf_nodes HE.out (mem_allL.1 hx), ⟨0, Nat.le_refl _, hdn⟩, hbd, hol, Own.nil _ _ _ _, fun k _ h => by simp [Value.ownBlock] at h, hbl⟩
  case round =>
    clear hol hbl hdn hbd
    obtain ⟨left, done, rfl, hord, hlen, hwf, ⟨n, hn, hdn⟩, hbd, ho5, ho7, hap, hb⟩ := hrel
    rcases left with _ | ⟨y, rest⟩
    · have hord' : ordL (pr l) = (done, true) := by rw [← hord]; simp [ordLoop]
      have HO := Lib.hid hord'
      have HO7 := Lib.hid (own_R (own_lower1 ho7 HB2.out.size))
      have HB := Lib.hid (below_then HB2.out hb)
      obtain ⟨A5, c5, rfl, _, _, _⟩ := ho5.slv'
      clear hord hord' hwf hdn hbd ho5 ho7 hap hb
      go_wp2
      rw [HO.out]
      exact ⟨u7, rfl, HO7.out, HB.out⟩
    · have hne : y :: rest ≠ [] := by simp
      generalize hlf : y :: rest = left at *
      have hlp : 0 < left.length := List.length_pos_iff.2 hne
      obtain ⟨g5, c5, rfl, hg5, hg5w⟩ := own_form ho5 (by simpa using hne)
      rw [show (rwI left).length = left.length from by simp] at *
      have hgr := HG.out.below hb
      have hgb := HBk.out.below hb
      obtain ⟨A5, c5', he5, hc5, _, hr5⟩ := ho5.slv'
      rw [show (rwI left).length = left.length from by simp] at he5 hc5
      have hif := indexFunc_calls 26 #[.pointer (some ⟨w1.heap.size, 0, none⟩), .pointer (some ⟨w3.heap.size + 1, 0, none⟩)] (enters_of Try.func26 (by kernel_rfl) rfl) (free (pr l) done) left A5 c5' wr hr5 hc5
        (fun W hW x hx => ord1_calls b w1.heap.size w3.heap.size (w3.heap.size + 1) n (pr l) done x W (hgr.below hW) HE.out (hdn.below hW) (hwf x hx) (hgb.below hW) (hbd.below hW)) (by omega)
      injection he5 with he5 he6 he7
      clear he6
      subst he5 he7
      have hstep : ordL (pr l) = match left.findIdx? (free (pr l) done) with
          | none => ([], false)
          | some i => ordLoop (pr l) left.length (left.eraseIdx i) (done ++ [left.getD i 0]) := by rw [← hord]; rw [ordLoop, if_neg hne]; rfl
      clear hlf hord
      have HI := Lib.hid hif
      have HST := Lib.hid hstep
      have HWF := Lib.hid hwf
      have HDN := Lib.hid hdn
      have HBD := Lib.hid hbd
      have HO5 := Lib.hid ho5
      have HO7 := Lib.hid ho7
      have HAP := Lib.hid hap
      have HB := Lib.hid hb
      clear hif hstep hwf hdn hbd ho5 ho7 hap hb hne hgr hgb hr5
      go_wp2_with fail
      refine HI.out.mono ?_
      rintro e w5 ⟨rfl, hb5⟩
      have HB5 := Lib.hid (below_then HB.out (hb5.mono (Nat.le_refl _)))
      have HDN5 := Lib.hid (HDN.out.below hb5)
      have HBD5 := Lib.hid (HBD.out.below hb5)
      have HO55 := Lib.hid (HO5.out.below hb5)
      have HO75 := Lib.hid (HO7.out.below hb5)
      clear hb5 HI
      cases hfi : left.findIdx? (free (pr l) done) with
      | none =>
        have hidx : idx (free (pr l) done) left = -1 := by unfold idx; rw [hfi]
        have hres : ordL (pr l) = ([], false) := by rw [HST.out, hfi]
        have HR := Lib.hid hres
        have HBW := Lib.hid (below_then HB2.out HB5.out)
        rw [hidx]
        clear hfi hidx hres
        go_wp2
        rw [HR.out]
        exact ⟨.slice none 0 0, rfl, own_R (Own.nil _ _ _ _), HBW.out⟩
      | some i =>
        have hidx : idx (free (pr l) done) left = i := by unfold idx; rw [hfi]
        obtain ⟨hil, _, _⟩ := List.findIdx?_eq_some_iff_getElem.1 hfi
        have hres : ordL (pr l) = ordLoop (pr l) left.length (left.eraseIdx i) (done ++ [left[i]]) := by
          have hgd : left.getD i 0 = left[i] := by rw [List.getD_eq_getElem?_getD, List.getElem?_eq_getElem hil]; rfl
          rw [HST.out, hfi]
          show ordLoop (pr l) left.length (left.eraseIdx i) (done ++ [left.getD i 0]) = _
          rw [hgd]
        have hwx := HWF.out left[i] (List.getElem_mem hil)
        have c5i := own_cell HO55.out hil
        generalize left[i] = x at hres hwx c5i
        have HR := Lib.hid hres
        have HWX := Lib.hid hwx
        rw [hidx]
        clear hfi hidx hres hwx
        have cdb : w5.cell? ⟨w3.heap.size + 1, 0, none⟩ = some (.map (some w3.heap.size)) := HBD5.out.at_ 0 rfl
        obtain ⟨Dm, hmap, hsr⟩ := HDN5.out
        obtain ⟨w6, hup, hmap6, hg6⟩ := (World.ownsMap.drew hmap).update (val := .int .i64 1) lawI Try.underlying52 (by unfold maxLen; omega) (keyI HWX.out) (plainElem_int Try.underlying3 (by decide))
        have hf6 : Fr (fun k => k = w3.heap.size) w5 w6 := ((Fr.refl (fun k => k = w3.heap.size) w5).drew).trans (fr_grow' hg6) (fun _ _ h => h)
        have hbs : ∃ es' ck, w5.heap[w3.heap.size]? = some (.map es' ck) := by obtain ⟨es', ck, h, _⟩ := hmap; exact ⟨es', ck, h⟩
        obtain ⟨es', ck, hbs⟩ := hbs
        have hg5n : g5 ≠ w3.heap.size := by
          rintro rfl
          obtain ⟨cu, hh, _⟩ := own_cur HO55.out
          rw [hbs] at hh
          cases hh
        have hdb6 := HBD5.out.fr hf6 (by omega)
        have ho56 := HO55.out.fr hf6 (fun k hk hS => hg5n (by
          have : g5 = k := by simpa [Value.ownBlock] using hk
          omega))
        have ho76 := HO75.out.fr hf6 (fun k hk hS => by
          subst hS
          rcases HO75.out.1.2 with ⟨h1, _⟩ | ⟨g7, cap7, cur7, h1, _, hh, _⟩
          · rw [h1] at hk; simp [Value.ownBlock] at hk
          · rw [h1] at hk
            have : g7 = w3.heap.size := by simpa [Value.ownBlock] using hk
            rw [this, hbs] at hh
            cases hh)
        have hS6 : w6.cell? ⟨w3.heap.size + 1, 0, none⟩ = some (.map (some w3.heap.size)) ∧ w6.cell? ⟨g5, i, none⟩ = some (.int .i64 x) :=
          ⟨hdb6.at_ 0 rfl, (World.cell?_of_block (w := w5) (hf6.block g5 (by obtain ⟨cu, hh, _⟩ := own_cur HO55.out; exact (Array.getElem?_eq_some_iff.1 hh).1) hg5n)).trans c5i⟩
        have hb6 : Below w2.heap.size w2 w6 := ((Fr.of_below (S := none_) HB5.out).trans hf6 (fun i hi hS => by omega)).below
        have hdn6 : Dn w6 w3.heap.size (n + 1) (done ++ [x]) := ⟨_, hmap6, srel_put hsr HWX.out⟩
        have hil0 : (0 : Int) ≤ (i : Int) := by omega
        have hil1 : (i : Int) < (left.length : Int) := by omega
        have H56 := Lib.hid ho56
        have H76 := Lib.hid ho76
        have HDB6 := Lib.hid hdb6
        have HB6 := Lib.hid hb6
        have HDN6 := Lib.hid hdn6
        clear hmap hsr hmap6 hg6 hf6 hbs ho56 ho76 hdb6 hb6 hdn6
        go_wp2
        go_region_held3 (fun X => X.cell? ⟨w3.heap.size + 1, 0, none⟩ = some (.map (some w3.heap.size)) ∧ X.cell? ⟨g5, i, none⟩ = some (.int .i64 x)) (first | assumption | (go_keep; done)) (fail)
        have one1 : ∀ u ∈ [Value.int .i64 x], u.oneCell' = true := fun u hu => by rw [List.mem_singleton.1 hu]; rfl
        have hln : ((rwI done).length + 1) * 8 ≤ 140737488355328 := by simp; omega
        have hw6 := HB6.out.size
        have c6i := hS6.2
        have HLN := Lib.hid hln
        have HS6 := Lib.hid hS6
        have hg6w : g5 < w6.heap.size := World.block_lt_of_cell? w6 _ c6i
        have hdel := fun w7 ho => delete_calls w7 w2.heap.size g5 left.length c5 i left hil ho
        have HDEL := Lib.hid hdel
        clear hln hS6 hup hdel
        go_wp2_with (at_builtin; go_must (refine append1L w2.heap.size 3 1 8 (.int .i64 0) rfl (.tmp 27) (.tmp 32) 26 rfl Try.underlying26 info3 rfl (by decide) (by decide) u7 (rwI done) [.int .i64 x] rfl w6.heap.size rfl rfl rfl one1 H76.out hw6 HLN.out ?_); intro v7 w7 hown7 hfr7 hloc7)
        have h57 := H56.out.fr hfr7 (fun k hk => HAP.out k hk)
        have hdb7 := HDB6.out.fr hfr7 (fun hk => H76.out.type_ne HDB6.out (by decide) _ hk rfl)
        have hdn7 : Dn w7 w3.heap.size (n + 1) (done ++ [x]) := by
          obtain ⟨D7, hm7, hs7⟩ := HDN6.out
          refine ⟨D7, hm7.kept (row := u7.ownBlock) (fr_grow hfr7) (fun e => ?_), hs7⟩
          obtain ⟨es7, ck7, hh7, _⟩ := hm7
          rcases H76.out.1.2 with ⟨h1, _⟩ | ⟨g7, cap7, cur7, h1, _, hh, _⟩
          · rw [h1] at e; simp [Value.ownBlock] at e
          · rw [h1] at e
            have : w3.heap.size = g7 := by simpa [Value.ownBlock] using e
            rw [← this, hh7] at hh
            cases hh
        have hb7 : Below w2.heap.size w2 w7 := ((Fr.of_below (S := none_) HB6.out).trans hfr7 (fun i hi hS => by have := (H76.out.1.lt i hS).1; omega)).below
        have H57 := Lib.hid h57
        have HDB7 := Lib.hid hdb7
        have HDN7 := Lib.hid hdn7
        have HB7 := Lib.hid hb7
        have H77 := Lib.hid hown7
        have HL7 := Lib.hid hloc7
        have HZ7 := Lib.hid hfr7.size
        clear h57 hdb7 hdn7 hb7 hown7 hfr7 hloc7 c6i
        go_wp2_with fail
        refine (HDEL.out w7 H57.out).mono ?_
        rintro e w8 ⟨rfl, h58, hf8⟩
        have HE8 := Lib.hid h58
        have HF8 := Lib.hid hf8
        clear h58 hf8
        go_wp2
        have hel : (left.eraseIdx i).length = left.length - 1 := List.length_eraseIdx_of_lt hil
        go_roundg (left.length - 1)
        case measure => omega
        case rel =>
          have hg57 : ∀ k, v7.ownBlock = some k → ¬ g5 = k := fun k hk e => by
            rcases HL7.out k hk with h | h
            · exact HAP.out g5 rfl (by rw [h, e])
            · omega
          have h78 : Own w8 w2.heap.size 3 1 v7 (rwI (done ++ [x])) := by
            have := H77.out.fr HF8.out (fun k hk hS => hg57 k hk (show k = g5 from hS).symm)
            simpa [rwI] using this
          have hg5d : w3.heap.size + 1 ≠ g5 := fun e => by
            obtain ⟨cu, hh, _⟩ := own_cur H57.out
            have := HDB7.out
            rw [e] at this
            exact absurd (Blk.inj hh this).2 (by decide)
          refine ⟨left.eraseIdx i, done ++ [x], hel.symm, ?_, ?_, fun y hy => HWF.out y (List.mem_of_mem_eraseIdx hy), ⟨n + 1, by simp; omega, ?_⟩, HDB7.out.fr HF8.out hg5d, HE8.out, h78, ?_, ?_⟩
          · rw [hel, show left.length - 1 + 1 = left.length from by omega, HR.out]
          · rw [hel, List.length_append, List.length_singleton]; omega
          · obtain ⟨D7, hm7, hs7⟩ := HDN7.out
            refine ⟨D7, hm7.kept (row := some g5) ⟨HF8.out.os, HF8.out.tape, HF8.out.output, HF8.out.size, fun k hk hn => HF8.out.block k hk (fun e => hn (by rw [show k = g5 from e]))⟩ (fun e => ?_), hs7⟩
            injection e with e
            omega
          · intro k hk e
            have : g5 = k := by simpa [Value.ownBlock] using hk
            exact hg57 k e this
          · exact ((Fr.of_below (S := none_) HB7.out).trans HF8.out (fun i hi hS => by cases hS; omega)).below
end Go.Proofs.Ytoimhigpbmabeaa
