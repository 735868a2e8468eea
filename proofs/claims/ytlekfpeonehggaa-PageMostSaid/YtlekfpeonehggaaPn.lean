/- PageMost, walked. -/
import Derived.Test.YtlekfpeonehggaaPm
import Derived.Test.YtlekfpeonehggaaKBs
set_option linter.unusedVariables false
set_option linter.unusedSimpArgs false
set_option maxRecDepth 100000
namespace Go.Proofs.Ytlekfpeonehggaa
open Go.Proofs.BL Go.Proofs.Peel Go.RowKit Go.Proofs.Ky

def keyM (i : Nat) : ByteArray := (ByteArray.empty.push (UInt8.ofNat (97 + i / 16))).push (UInt8.ofNat (97 + i % 16))
theorem u8_inj {a b : Nat} (ha : a < 256) (hb : b < 256) (h : UInt8.ofNat a = UInt8.ofNat b) : a = b := by
  have := congrArg UInt8.toNat h
  rw [UInt8.toNat_ofNat', UInt8.toNat_ofNat', Nat.mod_eq_of_lt (by omega), Nat.mod_eq_of_lt (by omega)] at this
  exact this
theorem keyM_inj {i j : Nat} (hi : i < 256) (hj : j < 256) (h : keyM i = keyM j) : i = j := by
  have hd2 : [UInt8.ofNat (97 + i / 16), UInt8.ofNat (97 + i % 16)] = [UInt8.ofNat (97 + j / 16), UInt8.ofNat (97 + j % 16)] := congrArg (fun b : ByteArray => b.data.toList) h
  injection hd2 with h1 h2
  injection h2 with h2 _
  have e1 := u8_inj (by omega) (by omega) h1
  have e2 := u8_inj (by omega) (by omega) h2
  omega
theorem keyM_conv (j : Nat) (hj : j < 256) (W : World) (x y : Int) (hx : x = ((97 + j / 16 : Nat) : Int)) (hy : y = ((97 + j % 16 : Nat) : Int)) :
    (convert 28 9 (.slice (some ⟨W.heap.size, 0, none⟩) 2 2)).run Try.prog (W.alloc (.cells #[.int .u8 x, .int .u8 y] 5)) = .ok (.string (keyM j)) (W.alloc (.cells #[.int .u8 x, .int .u8 y] 5)) := by
  subst hx hy
  have h8 : ∀ a, a < 26 → ((UInt8.ofNat (97 + a)).toNat : Int) = ((97 + a : Nat) : Int) := by decide
  have hb : Blk (W.alloc (.cells #[.int .u8 ((97 + j / 16 : Nat) : Int), .int .u8 ((97 + j % 16 : Nat) : Int)] 5)) W.heap.size _ 5 := Blk.new W _ _
  refine (run_str (P := Try.prog) _ 28 9 5 Try.underlying28 Try.underlying5 Try.underlying9 (some ⟨W.heap.size, 0, none⟩) 2 2 [UInt8.ofNat (97 + j / 16), UInt8.ofNat (97 + j % 16)] rfl ?_).trans rfl
  intro i r hi
  refine ⟨W.heap.size, 0, rfl, fun q u hq => ?_⟩
  rw [hb.cell]
  rcases i with _ | _ | i
  · simp only [List.map_cons, List.getElem?_cons_zero, Option.some.injEq] at hi
    subst hi
    rcases q with _ | q
    · simp only [enB, List.getElem?_cons_zero, Option.some.injEq] at hq
      rw [h8 _ (by omega)] at hq
      subst hq
      rfl
    · simp [enB] at hq
  · simp only [List.map_cons, List.getElem?_cons_zero, List.getElem?_cons_succ, Option.some.injEq] at hi
    subst hi
    rcases q with _ | q
    · simp only [enB, List.getElem?_cons_zero, Option.some.injEq] at hq
      rw [h8 _ (by omega)] at hq
      subst hq
      rfl
    · simp [enB] at hq
  · simp at hi
/-- As many as there were puts; those to come are not there. -/
structure MostP (most : Int) (j : Nat) (P : List (List Rw)) : Prop where
  g : GoodP most P
  n : P.flatten.length = j
  f : ∀ i, j ≤ i → i < 256 → get (keyM i) P.flatten = none
theorem most_next {most : Int} (hm : 2 ≤ most) {j : Nat} (hj : j < 256) {P : List (List Rw)} (h : MostP most j P) : ∃ P', putV most (keyM j) j P = (P', 0) ∧ MostP most (j + 1) P' := by
  have hg := good_put hm h.g (keyM j) j
  have hv : putV most (keyM j) j P = (putS tx most.toNat (keyM j) j P, 0) := by
    unfold putV
    rw [if_neg (by show ¬ 16 < 2; omega), if_neg (by rw [h.n]; omega)]
  rw [hv] at hg
  have hfl : (putS tx most.toNat (keyM j) j P).flatten = withR tx (keyM j) (some (j : Int)) P.flatten := put_flat tx h.g.p
  refine ⟨_, hv, hg, ?_, ?_⟩
  · rw [hfl, len_with_some tx (j : Int) h.g.p.1]
    have hgt := get_there tx (k := keyM j) h.g.p.1
    rw [h.f j (Nat.le_refl _) hj] at hgt
    have : there tx (keyM j) P.flatten = false := by
      cases e : there tx (keyM j) P.flatten with
      | false => rfl
      | true => rw [e, if_pos rfl, List.getElem?_eq_getElem (there_lt tx e)] at hgt; cases hgt
    rw [this, if_neg (by simp), h.n]
  · intro i hi hi2
    rw [hfl, get_with, if_neg (fun e => by have := keyM_inj hi2 hj e; omega)]
    exact h.f i (by omega) hi2
def cut16 (s : ByteArray) : ByteArray := if 16 < s.size then s.extract 0 16 else s
theorem cut16_len (s : ByteArray) : (cut16 s).size ≤ 16 := by
  unfold cut16
  split
  · rw [ByteArray.size_extract]; omega
  · omega
set_option maxHeartbeats 8000000 in
theorem lawPMost (most : Int) (key : ByteArray) (W : World) : Calls Try.prog 3 #[.int .i64 most, .string key] W (LawPost W) := by
  refine via fun Q hQ => ?_
  by_cases hm : 2 ≤ most ∧ most ≤ 64
  · obtain ⟨h1, h2⟩ := hm
    have HN := Lib.hid (stNew most _ W (Sat.start W) h1 h2)
    have n1 : ¬ (most < 2) := by omega
    have n2 : ¬ (most > 64) := by omega
    have HC := Lib.hid (show cut16 key = if 16 < key.size then key.extract 0 16 else key from rfl)
    have hkl := cut16_len key
    generalize hck : cut16 key = ck at *
    have hkb2 : decide (16 < (key.size : Int)) = decide (16 < key.size) := decide_eq_decide.2 (by omega)
    cases hk : decide (16 < key.size)
    all_goals
      have hk2 := HC.out
      rw [hk] at hkb2
      first | have hkp := of_decide_eq_true hk | have hkp := of_decide_eq_false hk
      first | rw [if_pos (of_decide_eq_true hk)] at hk2 | rw [if_neg (of_decide_eq_false hk)] at hk2
      subst hk2
      clear hck HC
      go_enter Try.func3, Try.ntmps3
      go_wp2_with fail
      (with_reducible refine HN.out.mono ?_)
      rintro e w1 ⟨p, rfl, hS⟩
      have HS := Lib.hid hS
      clear hS HN
      go_wp2_with fail
      clear hk
      try clear hkb2
      try clear hkp
      first
      | generalize key.extract 0 16 = kk at *
      | generalize ck = kk at *
      go_loopg [4, 7] 256 (fun g x4 x7 wr => ∃ (j : Nat) (P : List (List Rw)), j ≤ 256 ∧ g = 256 - j ∧ x4 = .bool false ∧ x7 = .int .i64 j ∧ Hid (MostP most j P) ∧ Hid (Sat (stP p most P :: old W :: []) wr))
      case atStart => exact ⟨0, [], Nat.zero_le _, rfl, rfl, rfl, Lib.hid ⟨good_nil most, rfl, fun _ _ _ => rfl⟩, HS⟩
      case round =>
        obtain ⟨j, P, hj, rfl, rfl, rfl, HM, HSr⟩ := hrel
        by_cases hlt : j < 256
        · obtain ⟨P', hp, hM'⟩ := most_next h1 hlt HM.out
          have hcv := keyM_conv j hlt wr (97 + (j : Int) / 16) (97 + (j : Int) % 16) (by omega) (by omega)
          have hal : Below wr.heap.size wr (wr.alloc (.cells #[.int .u8 (97 + (j : Int) / 16), .int .u8 (97 + (j : Int) % 16)] 5)) := (Below.refl wr.heap.size wr).alloc (Nat.le_refl _) _
          have HPt := Lib.hid (putC (HSr.out.below hal) HM.out.g h1 hp)
          have HM' := Lib.hid hM'
          have HCv := Lib.hid hcv
          clear hp hM' hcv hal
          go_wp2_with fail
          rw [HCv.out, Result.andThen_ok]
          clear HCv
          generalize (wr.alloc (.cells #[.int .u8 (97 + (j : Int) / 16), .int .u8 (97 + (j : Int) % 16)] 5)) = w2 at *
          go_wp2_with fail
          (with_reducible refine HPt.out.mono ?_)
          rintro e w3 ⟨rfl, hS3⟩
          have HS3 := Lib.hid hS3
          clear hS3 HPt
          go_wp2_with fail
          go_roundg (256 - (j + 1))
          case measure => omega
          case rel => exact ⟨j + 1, P', by omega, rfl, rfl, rfl, HM', HS3⟩
        · obtain rfl : j = 256 := by omega
          have hg := HM.out.g
          have hn := HM.out.n
          obtain ⟨L, vs, hF, _⟩ := HSr.out.stF
          have HG := Lib.hid (stGet p most _ L vs P kk wr hF hg.p (by omega))
          have HPt := Lib.hid (fun x (hb : Below wr.heap.size wr x) => stPut p most P kk 7 _ x (HSr.out.below hb) hg.p hg.t h1 hg.l)
          have hpv : putV most kk 7 P = if (get kk P.flatten).isSome then (putS tx most.toNat kk 7 P, 0) else (P, 5) := by
            unfold putV
            rw [if_neg (by omega)]
            cases e : (get kk P.flatten).isSome with
            | true => rw [if_neg (fun e => by cases e.1)]; rfl
            | false => rw [if_pos ⟨rfl, by omega⟩]; rfl
          have hlen : (putV most kk 7 P).1.flatten.length = 256 := by
            rw [hpv]
            split
            · rename_i hs
              show (putS tx most.toNat kk 7 P).flatten.length = 256
              rw [put_flat tx hg.p, len_with_some tx 7 hg.p.1]
              have hgt := get_there tx (k := kk) hg.p.1
              rw [if_pos (by
                cases e : there tx kk P.flatten with
                | true => rfl
                | false => rw [e, if_neg (by simp)] at hgt; rw [hgt] at hs; cases hs), hn]
            · exact hn
          have hcode : (putV most kk 7 P).2 = if (get kk P.flatten).isSome then 0 else 5 := by rw [hpv]; split <;> rfl
          generalize putV most kk 7 P = r at *
          obtain ⟨P', c⟩ := r
          simp only at hlen hcode
          unfold PGetPost at HG
          generalize (get kk P.flatten).getD 0 = gd at HG
          generalize (get kk P.flatten).isSome = th at HG hcode
          have HLn := Lib.hid hlen
          clear hpv hF hg hn hlen
          cases th
          all_goals
            subst hcode
            go_wp2_with fail
            (with_reducible refine HG.out.mono ?_)
            rintro e w4 ⟨rfl, hb4⟩
            have H4 := Lib.hid (HPt.out w4 hb4)
            clear hb4 HG HPt
            go_wp2_with fail
            (with_reducible refine H4.out.mono ?_)
            rintro e w5 ⟨rfl, hS5⟩
            obtain ⟨L5, vs5, hF5, _⟩ := hS5.stF
            have hL := stLen p most _ L5 vs5 _ w5 hF5
            rw [HLn.out] at hL
            have HL := Lib.hid hL
            have HA := Lib.hid (lawake _ w5 hS5.drop)
            clear hL hF5 hS5
            simp only [if_true, Bool.false_eq_true, if_false]
            go_wp2_with fail
            (with_reducible refine HL.out.mono ?_)
            rintro e w6 ⟨rfl, rfl⟩
            go_wp2_with fail
            (with_reducible refine HA.out.mono ?_)
            rintro e w7 ⟨rfl, hS7⟩
            have HB := Lib.hid hS7.old_
            clear hS7
            go_wp2_with fail
            exact ⟨rfl, HB.out⟩
  · have hor : most < 2 ∨ (2 ≤ most ∧ 64 < most) := by omega
    have HA := Lib.hid (lawake _ W (Sat.start W))
    clear hm
    rcases hor with h | ⟨h1, h⟩
    all_goals
      go_enter Try.func3, Try.ntmps3
      go_wp2_with fail
      (with_reducible refine HA.out.mono ?_)
      rintro e w9 ⟨rfl, hS⟩
      have HB := Lib.hid hS.old_
      clear hS
      go_wp2_with fail
      exact ⟨rfl, HB.out⟩
end Go.Proofs.Ytlekfpeonehggaa
