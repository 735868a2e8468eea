/- Chapter 16: the document's history. -/
import Derived.Test.YtkfciofpbnlmeaaDoorVi
import Derived.WalkLawsBesides
import Derived.Sort.Walk0
set_option linter.unusedVariables false
set_option linter.unusedSimpArgs false
set_option maxRecDepth 100000
namespace Go.Proofs.YtkfciofpbnlmeaaDoor
open Go.Proofs.BL Go.Proofs.Peel Go.RowKit Go.Proofs.Ky Go.Proofs.Vl

theorem less_tx (a b : ByteArray) : Op.bytesLess a.toList b.toList = tx.lt a b := by
  rw [ByteArray.toList_eq, ByteArray.toList_eq]
  exact bytesLess_eq _ _
theorem i_skip {key : Str} {i : Bool} {r : Str} {t : List Str} (h : (!i && !(tx.lt r key)) = false) (hs : r = key) : insGo tx key i (r :: t) = insGo tx key i t := by
  show (if (!i && !(tx.lt r key)) = true then _ else _) ++ (if r = key then [] else [r]) ++ insGo tx key (i || (!i && !(tx.lt r key))) t = _
  rw [h, if_pos hs]; simp
theorem i_keep {key : Str} {i : Bool} {r : Str} {t : List Str} (h : (!i && !(tx.lt r key)) = false) (hs : ¬ r = key) : insGo tx key i (r :: t) = r :: insGo tx key i t := by
  show (if (!i && !(tx.lt r key)) = true then _ else _) ++ (if r = key then [] else [r]) ++ insGo tx key (i || (!i && !(tx.lt r key))) t = _
  rw [h, if_neg hs]; simp
theorem i_put_skip {key : Str} {r : Str} {t : List Str} (h : tx.lt r key = false) (hs : r = key) : insGo tx key false (r :: t) = key :: insGo tx key true t := by
  show (if (!false && !(tx.lt r key)) = true then _ else _) ++ (if r = key then [] else [r]) ++ insGo tx key (false || (!false && !(tx.lt r key))) t = _
  rw [h, if_pos hs]; simp
theorem i_put_keep {key : Str} {r : Str} {t : List Str} (h : tx.lt r key = false) (hs : ¬ r = key) : insGo tx key false (r :: t) = key :: r :: insGo tx key true t := by
  show (if (!false && !(tx.lt r key)) = true then _ else _) ++ (if r = key then [] else [r]) ++ insGo tx key (false || (!false && !(tx.lt r key))) t = _
  rw [h, if_neg hs]; simp
theorem set_step {keys : List Str} {i : Nat} {k : Str} (h : keys[i]? = some k) : setR tx (keys.take (i + 1)) = insGo tx k false (setR tx (keys.take i)) := by
  have hj := (List.getElem?_eq_some_iff.1 h).1
  have e : keys[i] = k := (List.getElem?_eq_some_iff.1 h).2
  rw [List.take_succ_eq_append_getElem hj, e, setR, List.foldl_append]
  rfl
/-- The document's history. -/
def dhB (q : Nat) (f : Nat) (Lv : Value) : Part := blk q #[Lv, .int .i64 (f : Nat)] 37
def DhS (q f : Nat) (all : List (List Str)) (ls : List Part) (w : World) : Prop := ∃ (A : Option Addr) (c : Nat) (vs : List Value), (A = none → c = 0) ∧ all.length ≤ c ∧ Sat (dhB q f (.slice A all.length c) :: roR 1 A (lfR vs) :: roL vs all :: ls) w
def DAddPost (q f : Nat) (all : List (List Str)) (keys : List Str) (ls : List Part) (e : Ending) (w' : World) : Prop := e = .returned (.int .i64 ((all.length + 1 : Nat) : Int)) ∧ DhS q f (all ++ [setR tx keys]) ls w'
theorem slot_one {vs : List Value} {L : List (List Str)} {l : List Part} {w : World} (h : Sat (roL vs L :: l) w) : ∀ u ∈ vs, u.oneCell' = true := fun u hu => by
  obtain ⟨i, hi⟩ := List.mem_iff_getElem?.1 hu
  have hil : i < L.length := by rw [← h.roL_.1]; exact (List.getElem?_eq_some_iff.1 hi).1
  obtain ⟨A', c', e, _⟩ := h.roL_.2 i _ (List.getElem?_eq_getElem hil)
  rw [hi] at e
  injection e with e
  subst e
  rfl
set_option maxHeartbeats 16000000 in
theorem dAdd (q f : Nat) (all : List (List Str)) (A : Option Addr) (n c : Nat) (keys : List Str) (ls : List Part) (w : World) (hd : DhS q f all ls w) (hR : ∀ w', Sat ls w' → RowsAt w' 1 A (rwS keys)) (hn : keys.length = n) (hl : n ≤ 1000) (hfew : all.length < 1000) :
    Calls Tryd.prog 25 #[.pointer (some ⟨q, 0, none⟩), .slice A n c] w (DAddPost q f all keys ls) := by
  refine via fun Q hQ => ?_
  obtain ⟨Ad, cd, vs, hzd, hcd, hS⟩ := hd
  have HQ := Lib.hid hQ
  have HRk := Lib.hid hR
  have HNL := Lib.hid hn
  have HS0 := Lib.hid (hS.nilR 9 1)
  have HZd := Lib.hid hzd
  have HCd := Lib.hid hcd
  clear hQ hR hn hS hzd hcd
  go_enter Tryd.func25, Tryd.ntmps25
  go_wp2_with fail
  go_loopg [5, 14] n (fun g x5 x14 wr => ∃ i : Nat, i ≤ n ∧ g = n - i ∧ x14 = .int .i64 i ∧ Hid (Sat (ownR x5 9 1 (rwS (setR tx (keys.take i))) :: dhB q f (.slice Ad all.length cd) :: roR 1 Ad (lfR vs) :: roL vs all :: ls) wr))
  case atStart => exact ⟨0, Nat.zero_le _, rfl, rfl, HS0⟩
  case round =>
    obtain ⟨i, hi, rfl, rfl, HS⟩ := hrel
    clear HS0
    by_cases hlt : i < n
    · have hx : keys[i]? = some (keys[i]'(by rw [HNL.out]; exact hlt)) := List.getElem?_eq_getElem _
      generalize keys[i]'(by rw [HNL.out]; exact hlt) = key at hx
      obtain ⟨b, o, hA, k1⟩ := txtAt (HRk.out wr HS.out.drop.drop.drop.drop) hx
      have HST := Lib.hid (set_step hx)
      have hsl := set_len tx (keys.take i)
      rw [List.length_take] at hsl
      obtain ⟨A5, c5, e5, _, _, _⟩ := HS.out.own_.slv'
      rw [rwS_len] at e5
      generalize setR tx (keys.take i) = st at *
      generalize hm : st.length = m at *
      have HM := Lib.hid hm
      subst hA e5
      have HSi := Lib.hid (HS.out.nilR 9 1)
      have HE0 := Lib.hid (show insGo tx key false st = [] ++ insGo tx key false (st.drop 0) from rfl)
      generalize hres : insGo tx key false st = res at *
      clear hx hm hres HS
      go_wp2_with fail
      go_loopg [8, 9, 20] m (fun g x8 x9 x20 ws => ∃ (j : Nat) (inn : Bool) (out : List Str), j ≤ m ∧ g = m - j ∧ x9 = .bool inn ∧ x20 = .int .i64 j ∧ Hid (Sat (ownR x8 9 1 (rwS out) :: ownR (.slice A5 m c5) 9 1 (rwS st) :: dhB q f (.slice Ad all.length cd) :: roR 1 Ad (lfR vs) :: roL vs all :: ls) ws) ∧ Hid (res = out ++ insGo tx key inn (st.drop j)) ∧ Hid (out.length ≤ j + j))
      case atStart => exact ⟨0, false, [], Nat.zero_le _, rfl, rfl, rfl, HSi, HE0, Lib.hid (Nat.le_refl _)⟩
      case round =>
        obtain ⟨j, inn, out, hj, rfl, rfl, rfl, HSj, HE, HO⟩ := hrel
        by_cases hjm : j < m
        · have hy : st[j]? = some (st[j]'(by rw [HM.out]; exact hjm)) := List.getElem?_eq_getElem _
          have hdr : st.drop j = st[j]'(by rw [HM.out]; exact hjm) :: st.drop (j + 1) := List.drop_eq_getElem_cons _
          generalize st[j]'(by rw [HM.out]; exact hjm) = kk at hy hdr
          obtain ⟨A5', c5', e5', _, _, hr5⟩ := HSj.out.s1.own_.slv'
          rw [rwS_len, HM.out] at e5'
          injection e5' with e51 _ e53
          subst e51 e53
          obtain ⟨b5, o5, hA5, k5⟩ := txtAt hr5 hy
          have he := HE.out
          rw [hdr] at he
          have HE := Lib.hid he
          have hlx := less_tx kk key
          clear hy hdr he hr5
          have HLX := Lib.hid hlx
          clear hlx
          subst hA5
          cases inn with
          | true =>
            cases hL : tx.lt kk key with
            | true =>
              by_cases hs : kk = key
              · subst hs
                have hst := str_same (rfl : kk = kk)
                go_wp2_with fail
                go_roundg (m - (j + 1))
                case measure => omega
                case rel => exact ⟨j + 1, true, out, by omega, rfl, rfl, by go_num, HSj, Lib.hid (by rw [HE.out, i_skip (i := true) (by simp) rfl]; try simp), Lib.hid (by have := HO.out; (try simp); omega)⟩
              · have hst := str_diff hs
                go_wp2_with (at_builtin; refine Classical.byContradiction fun hcontra => ?_)
                refine hcontra ?_
                clear hcontra
                refine satApp (W := _) 9 1 16 (.string ⟨#[]⟩) rfl (.tmp 38) (.tmp 40) 23 rfl Tryd.underlying23 (by kernel_rfl) rfl (by decide) (by decide) _ (rwS (out)) (enS kk) rfl _ rfl rfl rfl (enS_one _) HSj.out rfl (by rw [rwS_len]; have := HO.out; (try simp); omega) ?_
                intro v2 w2 hS2
                have HS2 := Lib.hid (show Sat (ownR v2 9 1 (rwS (out ++ [kk])) :: _) w2 from by rw [rwS, List.map_append]; exact hS2)
                clear hS2
                go_wp2_with fail
                go_roundg (m - (j + 1))
                case measure => omega
                case rel => exact ⟨j + 1, true, out ++ [kk], by omega, rfl, rfl, by go_num, HS2, Lib.hid (by rw [HE.out, i_keep (i := true) (by simp) hs]; try simp), Lib.hid (by have := HO.out; (try simp); omega)⟩
            | false =>
              by_cases hs : kk = key
              · subst hs
                have hst := str_same (rfl : kk = kk)
                go_wp2_with fail
                go_roundg (m - (j + 1))
                case measure => omega
                case rel => exact ⟨j + 1, true, out, by omega, rfl, rfl, by go_num, HSj, Lib.hid (by rw [HE.out, i_skip (i := true) (by simp) rfl]; try simp), Lib.hid (by have := HO.out; (try simp); omega)⟩
              · have hst := str_diff hs
                go_wp2_with (at_builtin; refine Classical.byContradiction fun hcontra => ?_)
                refine hcontra ?_
                clear hcontra
                refine satApp (W := _) 9 1 16 (.string ⟨#[]⟩) rfl (.tmp 38) (.tmp 40) 23 rfl Tryd.underlying23 (by kernel_rfl) rfl (by decide) (by decide) _ (rwS (out)) (enS kk) rfl _ rfl rfl rfl (enS_one _) HSj.out rfl (by rw [rwS_len]; have := HO.out; (try simp); omega) ?_
                intro v2 w2 hS2
                have HS2 := Lib.hid (show Sat (ownR v2 9 1 (rwS (out ++ [kk])) :: _) w2 from by rw [rwS, List.map_append]; exact hS2)
                clear hS2
                go_wp2_with fail
                go_roundg (m - (j + 1))
                case measure => omega
                case rel => exact ⟨j + 1, true, out ++ [kk], by omega, rfl, rfl, by go_num, HS2, Lib.hid (by rw [HE.out, i_keep (i := true) (by simp) hs]; try simp), Lib.hid (by have := HO.out; (try simp); omega)⟩
          | false =>
            cases hL : tx.lt kk key with
            | true =>
              have hbl := HLX.out.trans hL
              by_cases hs : kk = key
              · subst hs
                have hst := str_same (rfl : kk = kk)
                go_wp2_with fail
                go_roundg (m - (j + 1))
                case measure => omega
                case rel => exact ⟨j + 1, false, out, by omega, rfl, rfl, by go_num, HSj, Lib.hid (by rw [HE.out, i_skip (i := false) (by rw [hL]; rfl) rfl]; try simp), Lib.hid (by have := HO.out; (try simp); omega)⟩
              · have hst := str_diff hs
                go_wp2_with (at_builtin; refine Classical.byContradiction fun hcontra => ?_)
                refine hcontra ?_
                clear hcontra
                refine satApp (W := _) 9 1 16 (.string ⟨#[]⟩) rfl (.tmp 38) (.tmp 40) 23 rfl Tryd.underlying23 (by kernel_rfl) rfl (by decide) (by decide) _ (rwS (out)) (enS kk) rfl _ rfl rfl rfl (enS_one _) HSj.out rfl (by rw [rwS_len]; have := HO.out; (try simp); omega) ?_
                intro v2 w2 hS2
                have HS2 := Lib.hid (show Sat (ownR v2 9 1 (rwS (out ++ [kk])) :: _) w2 from by rw [rwS, List.map_append]; exact hS2)
                clear hS2
                go_wp2_with fail
                go_roundg (m - (j + 1))
                case measure => omega
                case rel => exact ⟨j + 1, false, out ++ [kk], by omega, rfl, rfl, by go_num, HS2, Lib.hid (by rw [HE.out, i_keep (i := false) (by rw [hL]; rfl) hs]; try simp), Lib.hid (by have := HO.out; (try simp); omega)⟩
            | false =>
              have hbl := HLX.out.trans hL
              by_cases hs : kk = key
              · obtain rfl : key = kk := hs.symm
                have hst := str_same (rfl : key = key)
                go_wp2_with (at_builtin; refine Classical.byContradiction fun hcontra => ?_)
                refine hcontra ?_
                clear hcontra
                refine satApp (W := _) 9 1 16 (.string ⟨#[]⟩) rfl (.tmp 31) (.tmp 33) 23 rfl Tryd.underlying23 (by kernel_rfl) rfl (by decide) (by decide) _ (rwS (out)) (enS key) rfl _ rfl rfl rfl (enS_one _) HSj.out rfl (by rw [rwS_len]; have := HO.out; (try simp); omega) ?_
                intro v2 w2 hS2
                have HS2 := Lib.hid (show Sat (ownR v2 9 1 (rwS (out ++ [key])) :: _) w2 from by rw [rwS, List.map_append]; exact hS2)
                clear hS2
                go_wp2_with fail
                go_roundg (m - (j + 1))
                case measure => omega
                case rel => exact ⟨j + 1, true, out ++ [key], by omega, rfl, rfl, by go_num, HS2, Lib.hid (by rw [HE.out, i_put_skip hL rfl]; try simp), Lib.hid (by have := HO.out; (try simp); omega)⟩
              · have hst := str_diff hs
                go_wp2_with (at_builtin; refine Classical.byContradiction fun hcontra => ?_)
                refine hcontra ?_
                clear hcontra
                refine satApp (W := _) 9 1 16 (.string ⟨#[]⟩) rfl (.tmp 31) (.tmp 33) 23 rfl Tryd.underlying23 (by kernel_rfl) rfl (by decide) (by decide) _ (rwS (out)) (enS key) rfl _ rfl rfl rfl (enS_one _) HSj.out rfl (by rw [rwS_len]; have := HO.out; (try simp); omega) ?_
                intro v2 w2 hS2
                have HS2 := Lib.hid (show Sat (ownR v2 9 1 (rwS (out ++ [key])) :: _) w2 from by rw [rwS, List.map_append]; exact hS2)
                clear hS2
                go_wp2_with (at_builtin; refine Classical.byContradiction fun hcontra => ?_)
                refine hcontra ?_
                clear hcontra
                refine satApp (W := _) 9 1 16 (.string ⟨#[]⟩) rfl (.tmp 38) (.tmp 40) 23 rfl Tryd.underlying23 (by kernel_rfl) rfl (by decide) (by decide) _ (rwS (out ++ [key])) (enS kk) rfl _ rfl rfl rfl (enS_one _) HS2.out rfl (by rw [rwS_len]; have := HO.out; (try simp); omega) ?_
                intro v3 w3 hS3
                have HS3 := Lib.hid (show Sat (ownR v3 9 1 (rwS (out ++ [key] ++ [kk])) :: _) w3 from by rw [rwS, List.map_append]; exact hS3)
                clear hS3
                go_wp2_with fail
                go_roundg (m - (j + 1))
                case measure => omega
                case rel => exact ⟨j + 1, true, out ++ [key] ++ [kk], by omega, rfl, rfl, by go_num, HS3, Lib.hid (by rw [HE.out, i_put_keep hL hs]; try simp), Lib.hid (by have := HO.out; (try simp); omega)⟩
        · obtain rfl : j = m := by omega
          have he := HE.out
          rw [List.drop_of_length_le (by rw [HM.out]; exact Nat.le_refl _)] at he
          cases inn with
          | true =>
            have HE := Lib.hid (show res = out from by rw [he]; simp [insGo])
            have HSn := Lib.hid (show Sat (ownR u8 9 1 (rwS (setR tx (keys.take (i + 1)))) :: dhB q f (.slice Ad all.length cd) :: roR 1 Ad (lfR vs) :: roL vs all :: ls) wr from by rw [HST.out, HE.out]; exact HSj.out.s1.drop)
            clear he HSj
            go_wp2_with fail
            go_roundg (n - (i + 1))
            case measure => omega
            case rel => exact ⟨i + 1, by omega, rfl, by go_num, HSn⟩
          | false =>
            have HE := Lib.hid (show res = out ++ [key] from by rw [he]; simp [insGo])
            go_wp2_with (at_builtin; refine Classical.byContradiction fun hcontra => ?_)
            refine hcontra ?_
            clear hcontra
            refine satApp (W := _) 9 1 16 (.string ⟨#[]⟩) rfl (.tmp 45) (.tmp 47) 23 rfl Tryd.underlying23 (by kernel_rfl) rfl (by decide) (by decide) _ (rwS (out)) (enS key) rfl _ rfl rfl rfl (enS_one _) HSj.out rfl (by rw [rwS_len]; have := HO.out; (try simp); omega) ?_
            intro v2 w2 hS2
            have HS2 := Lib.hid (show Sat (ownR v2 9 1 (rwS (out ++ [key])) :: _) w2 from by rw [rwS, List.map_append]; exact hS2)
            clear hS2
            have HSn := Lib.hid (show Sat (ownR v2 9 1 (rwS (setR tx (keys.take (i + 1)))) :: dhB q f (.slice Ad all.length cd) :: roR 1 Ad (lfR vs) :: roL vs all :: ls) w2 from by rw [HST.out, HE.out]; exact HS2.out.s1.drop)
            clear he HSj HS2
            go_wp2_with fail
            go_roundg (n - (i + 1))
            case measure => omega
            case rel => exact ⟨i + 1, by omega, rfl, by go_num, HSn⟩
    · obtain rfl : i = n := by omega
      have hST : setR tx (keys.take i) = setR tx keys := by rw [List.take_of_length_le (by rw [HNL.out]; exact Nat.le_refl _)]
      rw [hST] at HS
      have hsl : (setR tx keys).length ≤ 1000 := by have := set_len tx keys; have := HNL.out; omega
      clear hST
      generalize hstk : setR tx keys = st at *
      have HStk := Lib.hid hstk
      clear hstk
      obtain ⟨A5, c5, e5, hc5, hz5, hsp5⟩ : ∃ A5 c5, u5 = .slice A5 st.length c5 ∧ st.length ≤ c5 ∧ (A5 = none → c5 = 0) ∧ ∀ a, A5 = some a → a.spot = none := by
        rcases HS.out.own_.1.2 with ⟨e, h0⟩ | ⟨g, cap, cur, e, _, _, r1, _⟩
        · rw [rwS_len] at h0
          exact ⟨none, 0, by rw [e, h0], by omega, fun _ => rfl, fun a h => by cases h⟩
        · rw [rwS_len] at r1 e
          exact ⟨some ⟨g, 0, none⟩, cap, e, r1, fun h => (by cases h), fun a h => by cases h; rfl⟩
      subst e5
      obtain ⟨A4', c4', e4, _, _, hS5⟩ := HS.out.still
      rw [rwS_len] at e4
      injection e4 with e41 _ e42
      subst e41 e42
      have h1c := slot_one hS5.drop.drop.drop
      have hvl := hS5.drop.drop.drop.roL_.1
      have hS6 := hS5.lit 23 1 0 [] #[] rfl (by decide) rfl (fun r h => by cases h) rfl
      have q0 := hS6.s2.blk_.at_ 0 rfl
      simp only [List.getElem_toArray, List.getElem_cons_zero] at q0
      have HS6 := Lib.hid hS6
      have HRd := Lib.hid hS6.s3.rows_
      have HLn := Lib.hid (show all.length = (lfR vs).length from by rw [lfR_len, hvl])
      have H1c := Lib.hid h1c
      have HSl := Lib.hid hsl
      have HFw := Lib.hid hfew
      clear hS5 hS6 HS h1c hvl hsl hfew
      generalize hsn : st.length = sn at *
      generalize han : all.length = an at *
      have HAn := Lib.hid han
      have HSnn := Lib.hid hsn
      clear han hsn
      go_wp2_with (at_builtin; refine Classical.byContradiction fun hcontra => ?_)
      refine hcontra ?_
      clear hcontra
      refine satAppN (W := wr.alloc (.cells #[] 23)) 23 1 24 (.slice none 0 0) rfl (.tmp 52) (.tmp 56) 22 rfl Tryd.underlying22 (by kernel_rfl) rfl (by decide) (by decide) _ [] (lfR vs) rfl Ad an cd rfl HLn.out HZd.out HRd.out (lfR_two _) (fun r hr u hu => by obtain ⟨x, hx, rfl⟩ := List.mem_map.1 hr; rw [List.mem_singleton] at hu; subst hu; exact H1c.out _ hx) HS6.out rfl (by have := HLn.out; have := HFw.out; simp; omega) ?_
      intro v1 w1 hS1
      have HS1 := Lib.hid (show Sat (ownR v1 23 1 (lfR vs) :: _) w1 from hS1)
      have q0 := hS1.s2.blk_.at_ 0 rfl
      have q2 := hS1.s2.blk_.free 0
      simp only [List.getElem_toArray, List.getElem_cons_zero] at q0
      clear hS1 HS6
      go_wp2_with (at_builtin; refine Classical.byContradiction fun hcontra => ?_)
      refine hcontra ?_
      clear hcontra
      refine satApp (W := w1) 23 1 24 (.slice none 0 0) rfl (.tmp 57) (.tmp 59) 22 rfl Tryd.underlying22 (by kernel_rfl) rfl (by decide) (by decide) _ (lfR vs) [.slice A5 sn c5] rfl _ rfl rfl rfl (by simp [Value.oneCell']) HS1.out rfl (by have := HLn.out; have := HFw.out; omega) ?_
      intro v7 w7 hS7
      obtain ⟨A7, c7, e7, _, _, _⟩ := hS7.own_.slv'
      rw [show (lfR vs ++ [[Value.slice A5 sn c5]]).length = an + 1 from by rw [List.length_append, ← HLn.out]; rfl] at e7
      subst e7
      have q0 := hS7.s2.blk_.at_ 0 rfl
      have q2 := hS7.s2.blk_.free 0
      simp only [List.getElem_toArray, List.getElem_cons_zero] at q0
      have hS8 : Sat (dhB q f (.slice A7 (an + 1) c7) :: _) (w7.setCell ⟨q, 0, none⟩ (.slice A7 (an + 1) c7)) := hS7.s2.set 0 (.slice A7 (an + 1) c7)
      have r0 := hS8.blk_.at_ 0 rfl
      simp only [List.getElem_toArray, List.getElem_cons_zero] at r0
      have HDh := Lib.hid (show DhS q f (all ++ [st]) ls (w7.setCell ⟨q, 0, none⟩ (.slice A7 (an + 1) c7)) from by
        obtain ⟨A8, c8, e8, hc8, hz8, hS9⟩ := hS8.s1.still
        have hl8 : (lfR vs ++ [[Value.slice A5 sn c5]]).length = an + 1 := by rw [List.length_append, ← HLn.out]; rfl
        rw [hl8] at e8 hc8
        injection e8 with e81 _ e82
        subst e81 e82
        have h9 := Sat.roLsnoc (hS9.s3.drop.s3.s3) (by rw [HSnn.out]; exact hc5) hz5 hsp5
        rw [HSnn.out] at h9
        refine ⟨A7, c7, vs ++ [.slice A5 sn c5], hz8, by rw [List.length_append, HAn.out]; exact hc8, ?_⟩
        rw [show (all ++ [st]).length = an + 1 from by rw [List.length_append, HAn.out]; rfl, show lfR (vs ++ [Value.slice A5 sn c5]) = lfR vs ++ [[Value.slice A5 sn c5]] from by simp [lfR]]
        exact h9.s2.s2.s1)
      clear hS7 hS8 HS1
      go_wp2_with fail
      exact HQ.out _ _ ⟨by rw [HAn.out]; rfl, by rw [HStk.out]; exact HDh.out⟩
end Go.Proofs.YtkfciofpbnlmeaaDoor
