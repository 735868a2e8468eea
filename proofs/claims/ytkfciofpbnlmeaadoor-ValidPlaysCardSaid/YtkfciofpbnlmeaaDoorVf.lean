/- Package valid: Add. -/
import Derived.Test.YtkfciofpbnlmeaaDoorVe
set_option linter.unusedVariables false
set_option linter.unusedSimpArgs false
set_option maxRecDepth 100000
namespace Go.Proofs.Ky
variable {K : Type} [DecidableEq K] (O : Ord K)
theorem ins_len (k : K) : ∀ (i : Bool) (l : List K), (insGo O k i l).length ≤ l.length + 1
  | i, [] => by cases i <;> simp [insGo]
  | i, x :: t => by
    have h1 := fun i => ins_len k i t
    simp only [insGo, List.length_append, List.length_cons]
    have h2 := ins_len2 k t
    by_cases hx : x = k
    · rw [if_pos hx]
      have := h1 (i || (!i && !(O.lt x k)))
      split <;> simp <;> omega
    · rw [if_neg hx]
      cases hh : (!i && !(O.lt x k)) with
      | true =>
        rw [Bool.or_true]
        simp
        omega
      | false =>
        have := h1 (i || false)
        simp at this ⊢
        omega
where ins_len2 (k : K) : ∀ (l : List K), (insGo O k true l).length ≤ l.length
  | [] => by simp [insGo]
  | x :: t => by
    have h2 := ins_len2 k t
    simp only [insGo, List.length_append, List.length_cons, Bool.not_true, Bool.false_and, Bool.or_false]
    by_cases hx : x = k
    · rw [if_pos hx]; simp; omega
    · rw [if_neg hx]; simp; omega
theorem set_len (keys : List K) : (setR O keys).length ≤ keys.length := by
  have h : ∀ (keys l : List K), (keys.foldl (fun l k => insK O k l) l).length ≤ l.length + keys.length := by
    intro keys
    induction keys with
    | nil => intro l; simp
    | cons k keys ih =>
      intro l
      have h1 := ih (insK O k l)
      have h2 := ins_len O k false l
      rw [List.foldl_cons, List.length_cons]
      unfold insK at h1 ⊢
      omega
  have := h keys []
  rw [List.length_nil, Nat.zero_add] at this
  exact this
end Go.Proofs.Ky
namespace Go.Proofs.YtkfciofpbnlmeaaDoor
open Go.Proofs.BL Go.Proofs.Peel Go.RowKit Go.Proofs.Ky Go.Proofs.Vl

theorem map_inj {l m : List Str} (h : l.map BL.txt = m.map BL.txt) : l = m := by
  induction l generalizing m with
  | nil => cases m with
    | nil => rfl
    | cons y m => simp at h
  | cons x l ih => cases m with
    | nil => simp at h
    | cons y m =>
      rw [List.map_cons, List.map_cons] at h
      injection h with h1 h2
      rw [txt_inj h1, ih h2]
def AddPost (p f : Nat) (all : List (List Str)) (l : List Str) (ls : List Part) (e : Ending) (w' : World) : Prop := e = .returned (.tuple #[.int .i64 ((all.length + 1 : Nat) : Int), .int .i64 0]) ∧ Sat (hisP p f (all ++ [setR tx l]) :: ls) w'
set_option maxHeartbeats 8000000 in
theorem vAdd (p f : Nat) (all : List (List Str)) (A : Option Addr) (n c : Nat) (l : List Str) (ls : List Part) (w : World) (h : Sat (hisP p f all :: ls) w) (hf : f ≤ all.length) (hfew : all.length < 1000) (hsh : ∀ s ∈ all, s.length ≤ 1000)
    (hr : RowsAt w 1 A (rwS l)) (hn : l.length = n) (hl : n ≤ 1000) :
    Calls Tryd.prog 7 #[.pointer (some ⟨p, 0, none⟩), .slice A n c] w (AddPost p f all l ls) := by
  refine via fun Q hQ => ?_
  have HQ := Lib.hid hQ
  obtain ⟨Lv0, vs0, hF0⟩ := Sat.hisF h hf (by omega) hsh
  have HN := Lib.hid (vNow p f Lv0 vs0 all w hF0)
  have HR := Lib.hid hr
  have HS := Lib.hid h
  have HSH := Lib.hid hsh
  have HNL := Lib.hid hn
  obtain ⟨srt, hsrt⟩ := txt_surj (srtB (l.map BL.txt))
  have hset : (setR tx l).map BL.txt = Lib.compact (srt.map BL.txt) := by rw [hsrt, set_sorted]
  have hsl : srt.length = l.length := by
    have := congrArg List.length hsrt
    rw [List.length_map, srtB, List.length_mergeSort, List.length_map] at this
    exact this
  have HSrt := Lib.hid hsrt
  have HSet := Lib.hid hset
  have HSl := Lib.hid (show srt.length ≤ 1000000 from by omega)
  have HSt := Lib.hid (show (setR tx l).length ≤ 1000 from by have := set_len tx l; omega)
  clear hQ h hF0 hr hsh hn hsrt hset hsl
  generalize hstg : setR tx l = st at *
  have HStg := Lib.hid hstg
  clear hstg
  have HFew := Lib.hid hfew
  have HFl := Lib.hid hf
  have HL1 := Lib.hid hl
  clear hfew hf hl
  generalize hNn : all.length = N at *
  have HNn := Lib.hid hNn
  clear hNn
  go_enter Tryd.func7, Tryd.ntmps7
  go_wp2_with fail
  (with_reducible refine HN.out.mono ?_)
  rintro e w1 ⟨rfl, hb1⟩
  have HB1 := Lib.hid hb1
  have HV := Lib.hid (cVals A n c w1)
  clear hb1 HN
  have hlt : ¬ (1073741824 : Int) ≤ (N : Int) := by have := HFew.out; omega
  generalize ((N : Nat) : Int) = M at hlt ⊢
  go_wp2_with fail
  (with_reducible refine HV.out.mono ?_)
  rintro e w2 ⟨rfl, rfl⟩
  have hal := (Below.refl w1.heap.size w1).alloc (Nat.le_refl _) (.cells #[.slice A n c] 23)
  have hcell : (w1.alloc (.cells #[.slice A n c] 23)).cell? ⟨w1.heap.size, 0, none⟩ = some (.slice A n c) := (Blk.new w1 #[.slice A n c] 23).at_ 0 rfl
  have HB2 := Lib.hid (below_then HB1.out hal)
  have HSo := Lib.hid (cSorted A n c w1.heap.size l srt (w1.alloc (.cells #[.slice A n c] 23)) (HR.out.below HB2.out) HNL.out (by have := HL1.out; omega) hcell HSrt.out)
  generalize w1.alloc (.cells #[.slice A n c] 23) = w2 at *
  clear hal hcell HV
  go_wp2_with fail
  (with_reducible refine HSo.out.mono ?_)
  rintro e w3 ⟨v3, rfl, ho3, hb3⟩
  have HC := Lib.hid (cCompact w2.heap.size v3 srt st w3 w2 ho3 HSl.out HSet.out hb3 hb3.size)
  clear ho3 hb3 HSo
  go_wp2_with fail
  (with_reducible refine HC.out.mono ?_)
  rintro e w4 ⟨v4, rfl, ho4, hb4⟩
  have hS4 := (HS.out.below HB2.out).made hb4 ho4
  obtain ⟨A4, c4, rfl, hc4, hz4, hsp4⟩ : ∃ A4 c4, v4 = .slice A4 st.length c4 ∧ st.length ≤ c4 ∧ (A4 = none → c4 = 0) ∧ ∀ a, A4 = some a → a.spot = none := by
    rcases ho4.1.2 with ⟨rfl, h0⟩ | ⟨g, cap, cur, rfl, _, _, r1, _⟩
    · rw [rwS_len] at h0
      exact ⟨none, 0, by rw [h0], by omega, fun _ => rfl, fun a h => by cases h⟩
    · rw [rwS_len] at r1 ⊢
      exact ⟨some ⟨g, 0, none⟩, cap, rfl, r1, fun h => (by cases h), fun a h => by cases h; rfl⟩
  obtain ⟨A4', c4', e4, _, _, hS5⟩ := hS4.still
  rw [rwS_len] at e4
  injection e4 with e41 _ e42
  subst e41 e42
  obtain ⟨Lv, vs, hvs, hS6⟩ := Sat.openHi (l := roR 1 A4 (rwS st) :: ls) hS5.s1
  obtain ⟨BL_, cL, eL, _, _, _⟩ := hS6.s1.own_.slv'
  subst eL
  have g1 := hS6.blk_.at_ 1 rfl
  have g2 := hS6.blk_.free 1
  simp only [List.getElem_toArray, List.getElem_cons_succ, List.getElem_cons_zero] at g1
  have HSa := Lib.hid hS6.s1
  have HLl := Lib.hid (show ((lfR vs).length + 1) * 24 ≤ 140737488355328 from by have := HNn.out; have := HFew.out; rw [lfR_len, hvs, List.length_drop]; omega)
  clear ho4 hb4 hS4 hS5 hS6 HC HS
  go_wp2_with (at_builtin; refine Classical.byContradiction fun hcontra => ?_)
  refine hcontra ?_
  clear hcontra
  refine satApp (W := w4) 23 1 24 (.slice none 0 0) rfl (.tmp 22) (.tmp 24) 22 rfl Tryd.underlying22 (by kernel_rfl) rfl (by decide) (by decide) _ (lfR vs) [.slice A4 st.length c4] rfl _ rfl rfl rfl (by simp [Value.oneCell']) HSa.out rfl HLl.out ?_
  intro v7 w7 hS7
  obtain ⟨A7, c7, e7, _, _, _⟩ := hS7.own_.slv'
  rw [show (lfR vs ++ [[Value.slice A4 st.length c4]]).length = (lfR vs).length + 1 from by rw [List.length_append]; rfl] at e7
  subst e7
  have q1 := hS7.s1.blk_.at_ 1 rfl
  have q2 := hS7.s1.blk_.free 1
  simp only [List.getElem_toArray, List.getElem_cons_succ, List.getElem_cons_zero] at q1
  have hS8 : Sat (hiB p f (.slice A7 ((lfR vs).length + 1) c7) :: _) (w7.setCell ⟨p, 1, none⟩ (.slice A7 ((lfR vs).length + 1) c7)) := hS7.s1.set 1 (.slice A7 ((lfR vs).length + 1) c7)
  have hS9 := Sat.roLsnoc (hS8.s3.s3.s1) hc4 hz4 hsp4
  have hS10 : Sat (hisP p f (all ++ [st]) :: ls) (w7.setCell ⟨p, 1, none⟩ (.slice A7 ((lfR vs).length + 1) c7)) := by
    unfold hisP
    rw [List.drop_append_of_le_length (by rw [HNn.out]; exact HFl.out)]
    refine Sat.shutHi (Lv := .slice A7 ((lfR vs).length + 1) c7) (vs := vs ++ [.slice A4 st.length c4]) ?_
    rw [show lfR (vs ++ [Value.slice A4 st.length c4]) = lfR vs ++ [[Value.slice A4 st.length c4]] from by simp [lfR]]
    exact hS9.t2
  obtain ⟨Lv9, vs9, hF9⟩ := Sat.hisF hS10 (by have := HNn.out; have := HFl.out; rw [List.length_append]; omega) (by have := HNn.out; have := HFew.out; rw [List.length_append]; simp; omega) (fun s hs => by
    rcases List.mem_append.1 hs with hs | hs
    · exact HSH.out s hs
    · rw [List.mem_singleton] at hs; subst hs; exact HSt.out)
  have hN9 := vNow p f Lv9 vs9 (all ++ [st]) _ hF9
  rw [show (all ++ [st]).length = N + 1 from by rw [List.length_append, HNn.out]; rfl] at hN9
  have HN9 := Lib.hid hN9
  have HS10 := Lib.hid hS10
  clear hS7 hS8 hS9 hS10 hF9 HSa hN9
  go_wp2_with fail
  (with_reducible refine HN9.out.mono ?_)
  rintro e w8 ⟨rfl, hb8⟩
  have HS11 := Lib.hid (HS10.out.below hb8)
  go_wp2_with fail
  exact HQ.out _ _ ⟨by rw [HNn.out]; rfl, by rw [HStg.out]; exact HS11.out⟩
end Go.Proofs.YtkfciofpbnlmeaaDoor
