/- The law's same of chapter 7; keys that are not too long. Chapter 7's example. CellsRuns, walked. CellsPieces: plain law. -/
import Derived.Test.YticgnakjnhdfhaaDoorJE
import Derived.Test.YticgnakjnhdfhaaDoorJC
import Derived.Test.YticgnakjnhdfhaaDoorJP
section
set_option linter.unusedVariables false
set_option maxRecDepth 100000
namespace Go.Proofs.YticgnakjnhdfhaaDoor
open Go.Proofs.BL Go.Proofs.Peel Go.RowKit Go.Proofs.Ky

theorem with_all {P : Rw → Prop} {l : List Rw} (h : ∀ r ∈ l, P r) (k : ByteArray) (v : Option Int) (hv : ∀ n, v = some n → P (k, n)) : ∀ r ∈ withR tx k v l, P r := by
  have go : ∀ (l : List Rw) (n : Int) (i : Bool), (∀ r ∈ l, P r) → (i = false → P (k, n)) → ∀ r ∈ withGo tx k n i l, P r := by
    intro l
    induction l with
    | nil =>
      intro n i _ hi r hr
      cases i with
      | true => cases hr
      | false =>
        have : r = (k, n) := by simpa [withGo] using hr
        rw [this]; exact hi rfl
    | cons x l ih =>
      intro n i hl hi r hr
      have hx := hl x List.mem_cons_self
      simp only [withGo] at hr
      rcases List.mem_append.1 hr with hr | hr
      · rcases List.mem_append.1 hr with hr | hr
        · split at hr
          · rename_i hc
            have : r = (k, n) := by simpa using hr
            rw [this]
            apply hi
            cases i
            · rfl
            · simp at hc
          · cases hr
        · split at hr
          · cases hr
          · have : r = x := by simpa using hr
            rw [this]; exact hx
      · refine ih n _ (fun r hr => hl r (List.mem_cons_of_mem _ hr)) (fun e => hi ?_) r hr
        cases i
        · rfl
        · simp at e
  cases v with
  | some n => exact go l n false h (fun _ => hv n rfl)
  | none => exact go l 0 true h (fun e => by cases e)
def K16 (l : List Rw) : Prop := ∀ r ∈ l, r.1.size ≤ 16
/-- What rows of a store are. -/
def Good (l : List Rw) : Prop := Fit tx l ∧ R64 l ∧ K16 l
theorem good_nil : Good [] := ⟨fit_nil, (fun r h => by cases h), fun r h => by cases h⟩
theorem good_with {l : List Rw} (h : Good l) (k : ByteArray) (v : Option Int) (hv : ∀ n, v = some n → in64 n ∧ k.size ≤ 16) (hl : (withR tx k v l).length ≤ 256) : Good (withR tx k v l) := by
  refine ⟨⟨?_, hl⟩, with_all h.2.1 k v (fun n hn => (hv n hn).1), with_all h.2.2 k v (fun n hn => (hv n hn).2)⟩
  cases v with
  | none => exact up_with_none tx h.1.1
  | some n => exact up_with_some tx n h.1.1
theorem may_key {k n lo : Int} {s : ByteArray} (h : mayB k s n lo = true) : s.size ≤ 16 := by
  unfold mayB keyB sysB at h
  simp only [Bool.and_eq_true, Bool.or_eq_true, decide_eq_true_eq] at h
  rcases h.2 with h | h <;> exact h.1
theorem ev_may {o : Opr} {g : Option Int} {v : Option Int} {t : Int} (h : evO o g = .ok (v, t)) : o.key.size ≤ 16 := by
  unfold evO evR at h
  cases hm : mayB o.kind o.key o.n o.lo with
  | true => exact may_key hm
  | false => rw [hm] at h; unfold evalV at h; simp at h
theorem ev_in64 {o : Opr} {g : Option Int} {n t : Int} (ho : in64 o.n) (hg : in64 (g.getD 0)) (h : evO o g = .ok (some n, t)) : in64 n := by
  unfold evO at h
  split at h
  · cases h
  · injection h with h
    injection h with h _
    split at h
    · injection h with h
      rw [← h]
      exact ev_in _ _ _ _ _ _ ho hg
    · cases h
theorem good_runB : ∀ (os : List Opr) (i : Nat) (l m : List Rw) (ts : List Int), Good l → (∀ o ∈ os, in64 o.n) → runB i l os = .ok (m, ts) → Good m
  | [], i, l, m, ts, h, _, hr => by
    unfold runB runR at hr
    injection hr with hr
    injection hr with hr _
    rw [← hr]; exact h
  | o :: os, i, l, m, ts, h, ho, hr => by
    unfold runB at hr
    simp only [runR] at hr
    cases hev : evO o (get o.key l) with
    | error e => rw [hev] at hr; cases hr
    | ok vt =>
      obtain ⟨v, t⟩ := vt
      rw [hev] at hr
      simp only at hr
      split at hr
      · cases hr
      · rename_i hn
        have hg := good_with h o.key v (fun n hn => by
          subst hn
          exact ⟨ev_in64 (ho o List.mem_cons_self) (get64 h.2.1 _) hev, ev_may hev⟩) (by omega)
        cases hrr : runB (i + 1) (withR tx o.key v l) os with
        | error e => unfold runB at hrr; rw [hrr] at hr; cases hr
        | ok x =>
          obtain ⟨m', ts'⟩ := x
          have ih := good_runB os (i + 1) _ m' ts' hg (fun o ho' => ho o (List.mem_cons_of_mem _ ho')) hrr
          unfold runB at hrr
          rw [hrr] at hr
          injection hr with hr
          injection hr with hr _
          rw [← hr]; exact ih
theorem good_runV {l : List Rw} (h : Good l) {os : List Opr} (ho : ∀ o ∈ os, in64 o.n) : Good (runV l os).1 := by
  unfold runV
  rw [← runB_A h.1]
  cases hr : runB 0 l os with
  | error e => exact h
  | ok x => exact good_runB os 0 l x.1 x.2 h ho hr
theorem good_new {rows : List Rw} (h : R64 rows) : Good (newP tx okK rows []) := by
  have go : ∀ (rows l : List Rw), R64 rows → Good l → Good (newR tx okK rows l) := by
    intro rows
    induction rows with
    | nil => intro l _ hl; exact hl
    | cons r rows ih =>
      intro l hr hl
      unfold newR
      rw [List.foldl_cons]
      refine ih _ (fun x hx => hr x (List.mem_cons_of_mem _ hx)) ?_
      split
      · rename_i hc
        exact good_with hl r.1 (some r.2) (fun n hn => by injection hn with hn; rw [← hn]; exact ⟨hr r List.mem_cons_self, of_decide_eq_true hc.1⟩) hc.2
      · exact hl
  rw [(new_same tx okK rows [] fit_nil).1]
  exact go rows [] h good_nil
theorem get_at {l : List Rw} (h : Up tx l) {i : Nat} {r : Rw} (hx : l[i]? = some r) : get r.1 l = some r.2 := by
  have hi := (List.getElem?_eq_some_iff.1 hx).1
  have hlow : low tx r.1 l = i := by
    have h1 := low_lt tx h (k := r.1) hx
    rw [tx.irr] at h1
    have h2 : low tx r.1 l ≤ i := Nat.le_of_not_lt (fun hlt => by have := h1.2 hlt; cases this)
    apply Nat.le_antisymm h2
    apply Nat.le_of_not_lt
    intro hlt
    obtain ⟨y, hy⟩ : ∃ y, l[low tx r.1 l]? = some y := ⟨_, List.getElem?_eq_getElem (by omega)⟩
    have h3 := low_lt tx h (k := r.1) hy
    have hlty : tx.lt y.1 r.1 = true := by
      obtain ⟨hj, ey⟩ := List.getElem?_eq_some_iff.1 hy
      obtain ⟨hi', er⟩ := List.getElem?_eq_some_iff.1 hx
      have := (List.pairwise_iff_getElem.1 h) _ _ hj hi' hlt
      rw [ey, er] at this
      exact this
    have := h3.1 hlty
    omega
  rw [get_there tx h]
  have ht : there tx r.1 l = true := by unfold there; rw [hlow, hx]; exact decide_eq_true rfl
  rw [ht, if_pos rfl, hlow, hx]
  rfl
theorem get_long {l : List Rw} (h : K16 l) {k : ByteArray} (hk : 16 < k.size) : get k l = none := get_none (fun x hx e => by have := h x hx; rw [e] at this; omega)
def SamePost (ls : List Part) (e : Ending) (w' : World) : Prop := e = .returned (.bool true) ∧ Sat ls w'
set_option maxHeartbeats 8000000 in
theorem lsame (p : Nat) (A : Option Addr) (c : Nat) (l : List Rw) (ls : List Part) (w : World) (h : Sat (ceP p l :: roR 2 A (rwR l) :: ls) w) (hg : Good l) (hc : l.length ≤ c) :
    Calls Tryd.prog 16 #[.pointer (some ⟨p, 0, none⟩), .slice A l.length c] w (SamePost (ceP p l :: roR 2 A (rwR l) :: ls)) := by
  refine via fun Q hQ => ?_
  obtain ⟨v, hF, _⟩ := h.ceF
  have hln : l.length ≤ 1000000 := by have := hg.1.2; omega
  have HLen := Lib.hid (cLen p v l w hF)
  have HRo := Lib.hid (cRows p v l w hF hln)
  have HS := Lib.hid h
  have HG := Lib.hid hg
  have HC := Lib.hid hc
  clear h hF hg hc
  generalize hn : l.length = n at *
  have HNL := Lib.hid hn
  clear hn
  go_enter Tryd.func16, Tryd.ntmps16
  go_wp2_with fail
  refine HLen.out.mono ?_
  rintro e w0 ⟨rfl, rfl⟩
  go_wp2_with fail
  refine HRo.out.mono ?_
  rintro e w1 ⟨v1, rfl, ho1, hb1⟩
  have hS1 := HS.out.made hb1 ho1
  obtain ⟨A1, c1, hv1, hc1, _, hr1⟩ := ho1.slv'
  rw [rwR_len, HNL.out] at hv1 hc1
  subst hv1
  have HS1 := Lib.hid hS1
  have HR1 := Lib.hid (by have := rrows A1 A c1 c l w1 hr1 hS1.s2.rows_ (by rw [HNL.out]; exact hln) (by rw [HNL.out]; exact hc1) (by rw [HNL.out]; exact HC.out); rwa [HNL.out] at this)
  clear ho1 hb1 hS1 hr1 HRo HLen
  go_wp2_with fail
  refine HR1.out.mono ?_
  rintro e w2 ⟨rfl, hb2⟩
  have HS2 := Lib.hid (HS1.out.below hb2)
  clear hb2 HR1
  go_wp2_with fail
  go_loopg [29] n (fun g x wr => ∃ (j : Nat) (l1 : List Rw), j ≤ n ∧ g = n - j ∧ x = .int .i64 j ∧ Hid (l1.length = n) ∧ Hid (Sat (ownR (.slice A1 n c1) 49 2 (rwR l1) :: ceP p l :: roR 2 A (rwR l) :: ls) wr))
  case atStart => exact ⟨0, l, Nat.zero_le _, rfl, rfl, HNL, HS2⟩
  case round =>
    obtain ⟨j, l1, hj, rfl, rfl, HL1, HSr⟩ := hrel
    by_cases hlt : j < n
    · have hx : l[j]? = some (l[j]'(by rw [HNL.out]; exact hlt)) := List.getElem?_eq_getElem _
      have hy : l1[j]? = some (l1[j]'(by rw [HL1.out]; exact hlt)) := List.getElem?_eq_getElem _
      generalize l[j]'(by rw [HNL.out]; exact hlt) = r at hx
      generalize l1[j]'(by rw [HL1.out]; exact hlt) = y at hy
      have hga := get_at HG.out.1.1 hx
      obtain ⟨b, o, hA, e1, e2⟩ := rowAt HSr.out.s2.rows_ hx
      subst hA
      obtain ⟨g, cg, hAg, hcg, _⟩ := own_some HSr.out.own_ (by intro e; exact absurd (show l1.length = 0 from by have h9 := congrArg List.length e; rwa [rwR_len] at h9) (by rw [HL1.out]; omega))
      rw [rwR_len, HL1.out] at hAg
      injection hAg with hA1 _ hcc
      subst hA1 hcc
      obtain ⟨kk, nn⟩ := r
      obtain ⟨ky, ny⟩ := y
      simp only at e1 e2 hga
      have hyr : (rwR l1)[j]? = some (enR (ky, ny)) := by rw [rwR, List.getElem?_map, hy]; rfl
      have hal : Below wr.heap.size wr (wr.alloc (.cells #[.string kk, .int .i64 nn] 49)) := (Below.refl _ _).alloc (Nat.le_refl _) _
      have hb0 : Blk (wr.alloc (.cells #[.string kk, .int .i64 nn] 49)) wr.heap.size _ _ := Blk.new _ _ _
      have hS3 := HSr.out.below hal
      obtain ⟨v3, hF3, _⟩ := hS3.s1.ceF
      have HGt := cGet p v3 l kk _ hF3 HG.out.1.1 (by rw [HNL.out]; exact hln)
      rw [hga] at HGt
      have HGt := Lib.hid HGt
      have HB0 := Lib.hid hb0
      have HS3 := Lib.hid hS3
      have HY := Lib.hid hyr
      have HYy := Lib.hid hy
      clear hx hy hga hyr hal hb0 hS3 hF3
      go_wp2_with fail
      refine HGt.out.mono ?_
      rintro e w4 ⟨rfl, hb4⟩
      have HS4 := Lib.hid (HS3.out.below hb4)
      have d1 := (HB0.out.below hb4).at_ 1 rfl
      have g1 := own_at HS4.out.own_ HY.out 1 rfl
      obtain ⟨g1a, g1b⟩ := g1
      have HU := Lib.hid (HS4.out.setOwn HY.out 1 (by decide))
      have hso : (some nn).isSome = true := rfl
      have hgd : (some nn).getD 0 = nn := rfl
      clear hb4 HGt e1 e2
      rw [hgd, hso]
      go_wp2_with fail
      go_roundg (n - (j + 1))
      case measure => omega
      case rel => exact ⟨j + 1, l1.set j (ky, wrap64 (ny + 1)), by omega, rfl, rfl, Lib.hid (by rw [List.length_set]; exact HL1.out), Lib.hid (by rw [rwR_set]; exact HU.out (.int .i64 (wrap64 (ny + 1))))⟩
    · obtain rfl : j = n := by omega
      obtain ⟨v3, hF3, _⟩ := HSr.out.s1.ceF
      have HGt := cGet p v3 l ⟨#[110, 111, 32, 115, 117, 99, 104, 32, 107, 101, 121, 32, 97, 116, 32, 97, 108, 108]⟩ wr hF3 HG.out.1.1 (by rw [HNL.out]; exact hln)
      rw [get_long HG.out.2.2 (by decide)] at HGt
      have HGt := Lib.hid HGt
      have HF3 := Lib.hid hF3
      have hso : (none : Option Int).isSome = false := rfl
      have hgd : (none : Option Int).getD 0 = 0 := rfl
      clear hF3
      go_wp2_with fail
      refine HGt.out.mono ?_
      rintro e w4 ⟨rfl, hb4⟩
      have HRo := Lib.hid (cRows p v3 l w4 (HF3.out.below hb4) (by rw [HNL.out]; exact hln))
      have HS4 := Lib.hid (HSr.out.below hb4)
      clear hb4 HGt
      rw [hgd, hso]
      go_wp2_with fail
      refine HRo.out.mono ?_
      rintro e w5 ⟨v5, rfl, ho5, hb5⟩
      have hS5 := HS4.out.drop.below hb5
      obtain ⟨A5, c5, hv5, hc5, _, hr5⟩ := ho5.slv'
      rw [rwR_len, HNL.out] at hv5 hc5
      subst hv5
      have HS5 := Lib.hid hS5
      have HR5 := Lib.hid (by have := rrows A5 A c5 c l w5 hr5 hS5.s1.rows_ (by rw [HNL.out]; exact hln) (by rw [HNL.out]; exact hc5) (by rw [HNL.out]; exact HC.out); rwa [HNL.out] at this)
      clear ho5 hb5 hS5 hr5 HRo
      go_wp2_with fail
      refine HR5.out.mono ?_
      rintro e w6 ⟨rfl, hb6⟩
      have HS6 := Lib.hid (HS5.out.below hb6)
      clear hb6 HR5
      go_wp2
      exact ⟨rfl, HS6.out⟩
end Go.Proofs.YticgnakjnhdfhaaDoor
end

section
set_option linter.unusedVariables false
set_option maxRecDepth 100000
namespace Go.Proofs.YticgnakjnhdfhaaDoor
open Go.Proofs.BL Go.Proofs.Peel Go.RowKit Go.Proofs.Ky

/-- A literal's row, made, and not written any more. -/
theorem Sat.litR {l : List Part} {w : World} (h : Sat l w) (E : TypeId) (sz n : Nat) (rows : List (List Value)) (cs : Array Value) (hn : n = rows.length) (hm : n ≤ maxLen) (hcs : cs.toList = rows.flatten) (hs : ∀ r, r ∈ rows → r.length = sz) (hc : cs.size = n * sz) (ht : isErrT E = false := by rfl) :
    Sat (roR sz (some ⟨w.heap.size, 0, none⟩) rows :: l) (w.alloc (.cells cs E)) := by
  obtain ⟨A, c, e, _, _, hS⟩ := (h.lit E sz n rows cs hn hm hcs hs hc ht).still
  injection e with e
  subst e
  exact hS
def RowPost (k : ByteArray) (n : Int) (w : World) (e : Ending) (w' : World) : Prop := e = .returned (.agg #[.string k, .int .i64 n]) ∧ Below w.heap.size w w'
theorem lrow (k : ByteArray) (n : Int) (w : World) : Calls Tryd.prog 23 #[.string k, .int .i64 n] w (RowPost k n w) := by
  refine via fun Q hQ => ?_
  go_enter Tryd.func23, Tryd.ntmps23
  go_wp2_with fail
  exact bodyPost_ret (results_cell_row rfl _ _ w.heap.size 49 _ (0, 0) _ rfl (heap_alloc_new w _) Tryd.underlying49 rfl (by kernel_rfl)) rfl (hQ _ _ ⟨rfl, (Below.refl _ _).alloc (Nat.le_refl _) _⟩)
def sX : ByteArray := ⟨#[120]⟩
def sA : ByteArray := ⟨#[97]⟩
def sY : ByteArray := ⟨#[121]⟩
def sZ : ByteArray := ⟨#[122]⟩
theorem aw1 : newP tx okK [(sX, 2), (sA, 1)] [] = [(sA, 1), (sX, 2)] := by decide +kernel
theorem aw2 : runV [(sA, 1), (sX, 2)] [⟨4, sX, 3, 0⟩, ⟨3, sA, 0, 0⟩, ⟨1, sY, 0, 0⟩] = ([(sX, 5)], [5, 1, 0], 0, 0) := by decide +kernel
theorem aw3 : runV [(sX, 5)] [⟨2, sZ, 1, 0⟩, ⟨5, sX, -9, 0⟩] = ([(sX, 5)], [], 1, 24) := by decide +kernel
theorem good1 : Good [(sA, 1), (sX, 2)] := by
  refine ⟨⟨?_, by decide⟩, ?_, ?_⟩
  · exact List.pairwise_cons.2 ⟨fun r hr => by rw [List.mem_singleton.1 hr]; decide +kernel, List.pairwise_singleton _ _⟩
  · intro r hr
    rcases List.mem_cons.1 hr with rfl | hr
    · decide
    · rw [List.mem_singleton.1 hr]; decide
  · intro r hr
    rcases List.mem_cons.1 hr with rfl | hr
    · decide
    · rw [List.mem_singleton.1 hr]; decide
theorem good2 : Good [(sX, 5)] := by
  refine ⟨⟨List.pairwise_singleton _ _, by decide⟩, ?_, ?_⟩
  · intro r hr; rw [List.mem_singleton.1 hr]; decide
  · intro r hr; rw [List.mem_singleton.1 hr]; decide
set_option maxHeartbeats 8000000 in
theorem lawake (ls : List Part) (w : World) (h : Sat (errP :: ls) w) : Calls Tryd.prog 17 #[] w (SamePost (errP :: ls)) := by
  refine via fun Q hQ => ?_
  have H := Lib.hid h
  clear h
  go_enter Tryd.func17, Tryd.ntmps17
  go_wp2_with fail
  refine (lrow sX 2 _).mono ?_
  rintro e w1 ⟨rfl, hb1⟩
  have H1 := Lib.hid (H.out.below hb1)
  clear hb1
  go_wp2_with fail
  refine (lrow sA 1 _).mono ?_
  rintro e w2 ⟨rfl, hb2⟩
  have H2 := Lib.hid (H1.out.below hb2)
  clear hb2
  have hN := cNew (some ⟨w2.heap.size, 0, none⟩) 2 [(sX, 2), (sA, 1)] _ _ (H2.out.litR 49 2 2 (rwR [(sX, 2), (sA, 1)]) #[.string sX, .int .i64 2, .string sA, .int .i64 1] rfl (by decide) rfl (rwR_two _) rfl) (by decide) (by decide)
  rw [aw1] at hN
  have HN := Lib.hid hN
  clear hN
  go_wp2_with fail
  refine HN.out.mono ?_
  rintro e w3 ⟨p, rfl, hS3⟩
  have hS3b := hS3.s1.drop
  have hR := cRun p [(sA, 1), (sX, 2)] (some ⟨w3.heap.size, 0, none⟩) 3 [⟨4, sX, 3, 0⟩, ⟨3, sA, 0, 0⟩, ⟨1, sY, 0, 0⟩] ls _ ((hS3b.litR 42 4 3 (rwO [⟨4, sX, 3, 0⟩, ⟨3, sA, 0, 0⟩, ⟨1, sY, 0, 0⟩]) #[.int .i64 4, .string sX, .int .i64 3, .int .i64 0, .int .i64 3, .string sA, .int .i64 0, .int .i64 0, .int .i64 1, .string sY, .int .i64 0, .int .i64 0] rfl (by decide) rfl (fun r hr => by obtain ⟨x, _, rfl⟩ := List.mem_map.1 hr; rfl) rfl).perm (by exact List.Perm.trans (List.Perm.swap _ _ _) (List.Perm.cons _ (List.Perm.swap _ _ _)))) good1.1 good1.2.1 (by intro o ho; simp at ho; rcases ho with rfl | rfl | rfl <;> decide) (by decide) (by decide)
  rw [aw2] at hR
  have HR := Lib.hid hR
  clear hR hS3 hS3b HN
  go_wp2_with fail
  refine HR.out.mono ?_
  rintro e w4 ⟨v4, rfl, hS4⟩
  obtain ⟨g4, c4, hv4, hc4, _⟩ := own_some hS4.own_ (by simp [rwI])
  have hv4' : v4 = .slice (some ⟨g4, 0, none⟩) 3 c4 := hv4
  clear hv4
  subst hv4'
  have hS4b := hS4.s3.drop
  have hR := cRun p [(sX, 5)] (some ⟨w4.heap.size, 0, none⟩) 2 [⟨2, sZ, 1, 0⟩, ⟨5, sX, -9, 0⟩] _ _ ((hS4b.litR 42 4 2 (rwO [⟨2, sZ, 1, 0⟩, ⟨5, sX, -9, 0⟩]) #[.int .i64 2, .string sZ, .int .i64 1, .int .i64 0, .int .i64 5, .string sX, .int .i64 (-9), .int .i64 0] rfl (by decide) rfl (fun r hr => by obtain ⟨x, _, rfl⟩ := List.mem_map.1 hr; rfl) rfl).s3.s3) good2.1 good2.2.1 (by intro o ho; simp at ho; rcases ho with rfl | rfl <;> decide) (by decide) (by decide)
  rw [aw3] at hR
  have HR2 := Lib.hid hR
  clear hR hS4 hS4b HR hc4
  go_wp2_with fail
  refine HR2.out.mono ?_
  rintro e w5 ⟨v5, rfl, hS5⟩
  have hS5b := hS5.drop
  obtain ⟨vp, hF, _⟩ := hS5b.ceF
  have HRo := Lib.hid (cRows p vp [(sX, 5)] w5 hF (by decide))
  have HS5 := Lib.hid hS5b
  clear hS5 hS5b hF HR2
  go_wp2_with fail
  refine HRo.out.mono ?_
  rintro e w6 ⟨v6, rfl, ho6, hb6⟩
  have hS6 := HS5.out.made hb6 ho6
  obtain ⟨g6, c6, hv6, hc6, _⟩ := own_some ho6 (by simp [rwR])
  have hv6' : v6 = .slice (some ⟨g6, 0, none⟩) 1 c6 := hv6
  clear hv6
  subst hv6'
  have e0 := (own_at hS6.own_ (i := 0) (r := enR (sX, 5)) rfl 0 rfl).1
  have e1 := (own_at hS6.own_ (i := 0) (r := enR (sX, 5)) rfl 1 rfl).1
  have f0 := (own_at hS6.s4.own_ (i := 0) (r := [.int .i64 5]) rfl 0 rfl).1
  have f1 := (own_at hS6.s4.own_ (i := 1) (r := [.int .i64 1]) rfl 0 rfl).1
  have HS6 := Lib.hid hS6
  simp only [Nat.zero_mul, Nat.zero_add, Nat.one_mul, Nat.add_zero] at e0 e1 f0 f1
  clear ho6 hb6 hS6 hc6 HRo
  have hRow : ∀ x, (World.cell? x ⟨g6, 0, none⟩ = some (.string sX) ∧ World.cell? x ⟨g6, 1, none⟩ = some (.int .i64 5) ∧ World.cell? x ⟨g4, 0, none⟩ = some (.int .i64 5) ∧ World.cell? x ⟨g4, 1, none⟩ = some (.int .i64 1) ∧ Below w6.heap.size w6 x) →
      Calls Tryd.prog 23 #[.string sX, .int .i64 5] x (fun e x' => e = .returned (.agg #[.string sX, .int .i64 5]) ∧ (World.cell? x' ⟨g6, 0, none⟩ = some (.string sX) ∧ World.cell? x' ⟨g6, 1, none⟩ = some (.int .i64 5) ∧ World.cell? x' ⟨g4, 0, none⟩ = some (.int .i64 5) ∧ World.cell? x' ⟨g4, 1, none⟩ = some (.int .i64 1) ∧ Below w6.heap.size w6 x')) := fun x ⟨h1, h2, h3, h4, h5⟩ =>
    (lrow sX 5 x).mono fun e x' ⟨he, hb⟩ => ⟨he, (hb.cell (World.block_lt_of_cell? x _ h1)).trans h1, (hb.cell (World.block_lt_of_cell? x _ h2)).trans h2, (hb.cell (World.block_lt_of_cell? x _ h3)).trans h3, (hb.cell (World.block_lt_of_cell? x _ h4)).trans h4, below_then h5 hb⟩
  have hd : World.cell? w6.drew ⟨g6, 0, none⟩ = some (.string sX) ∧ World.cell? w6.drew ⟨g6, 1, none⟩ = some (.int .i64 5) ∧ World.cell? w6.drew ⟨g4, 0, none⟩ = some (.int .i64 5) ∧ World.cell? w6.drew ⟨g4, 1, none⟩ = some (.int .i64 1) ∧ Below w6.heap.size w6 w6.drew := ⟨e0, e1, f0, f1, drew_below _ 1⟩
  have HRw := Lib.hid hRow
  have hst := str_same (rfl : sX = sX)
  clear hRow
  go_wp2_with fail
  go_region_held3 (fun x => x.cell? ⟨g6, 0, none⟩ = some (.string sX) ∧ x.cell? ⟨g6, 1, none⟩ = some (.int .i64 5) ∧ x.cell? ⟨g4, 0, none⟩ = some (.int .i64 5) ∧ x.cell? ⟨g4, 1, none⟩ = some (.int .i64 1) ∧ Below w6.heap.size w6 x) ((first | assumption | exact hd)) ((first | (go_at_call 23; refine (HRw.out _ (by assumption)).mono ?_; rintro e x7 ⟨rfl, hx7⟩)))
  have HB7 := Lib.hid hx7.2.2.2.2
  clear hx7 hd
  go_wp2
  exact ⟨rfl, ((HS6.out.below HB7.out).drop.drop.s2.drop.s1.drop)⟩
end Go.Proofs.YticgnakjnhdfhaaDoor
end

section
set_option linter.unusedVariables false
set_option maxRecDepth 100000
namespace Go.Proofs.YticgnakjnhdfhaaDoor
open Go.Proofs.BL Go.Proofs.Peel Go.RowKit Go.Proofs.Ky

theorem r64_cut {l : List Rw} (h : ∀ r ∈ l, in64 r.2) : R64 (cutRs l) := fun r hr => by
  obtain ⟨x, hx, rfl⟩ := List.mem_map.1 hr
  exact h x (List.mem_of_mem_take hx)
theorem cutRs_len (l : List Rw) : (cutRs l).length ≤ 30 := by simp [cutRs]; omega
theorem cutOs_len (l : List Opr) : (cutOs l).length ≤ 12 := by simp [cutOs]; omega
theorem o64_cut {l : List Opr} (h : ∀ o ∈ l, in64 o.n ∧ in64 o.lo) : ∀ o ∈ cutOs l, in64 o.n := fun o ho => by
  obtain ⟨x, hx, rfl⟩ := List.mem_map.1 ho
  exact (h x (List.mem_of_mem_take hx)).1
/-- A made row that is not written any more. -/
theorem Sat.fixR {l : List Part} {w w' : World} {v : Value} {E : TypeId} {rows : List Rw} (h : Sat l w) (hb : Below w.heap.size w w') (ho : Own w' w.heap.size E 2 v (rwR rows)) (ht : isErrT E = false := by rfl) :
    ∃ A c, v = .slice A rows.length c ∧ rows.length ≤ c ∧ Sat (roR 2 A (rwR rows) :: l) w' := by
  obtain ⟨A, c, e, hc, _, hS⟩ := (h.made hb ho ht).still
  rw [rwR_len] at e hc
  exact ⟨A, c, e, hc, hS⟩
theorem Sat.fixO {l : List Part} {w w' : World} {v : Value} {E : TypeId} {rows : List Opr} (h : Sat l w) (hb : Below w.heap.size w w') (ho : Own w' w.heap.size E 4 v (rwO rows)) (ht : isErrT E = false := by rfl) :
    ∃ A c, v = .slice A rows.length c ∧ rows.length ≤ c ∧ Sat (roR 4 A (rwO rows) :: l) w' := by
  obtain ⟨A, c, e, hc, _, hS⟩ := (h.made hb ho ht).still
  rw [rwO_len] at e hc
  exact ⟨A, c, e, hc, hS⟩
theorem runV_told {l : List Rw} {os : List Opr} : (runV l os).2.1.length ≤ os.length := by
  have go : ∀ (os : List Opr) (i : Nat) (l m : List Rw) (ts : List Int), runA i l os = .ok (m, ts) → ts.length ≤ os.length := by
    intro os
    induction os with
    | nil => intro i l m ts h; unfold runA runP at h; injection h with h; injection h with _ h; rw [← h]; exact Nat.le_refl _
    | cons o os ih =>
      intro i l m ts h
      by_cases hd : (doV o l).2.2 = []
      · rw [do_ok hd] at h
        cases hr : runA (i + 1) (doV o l).1 os with
        | error e => rw [hr] at h; cases h
        | ok x =>
          rw [hr] at h
          injection h with h
          injection h with _ h
          have := ih _ _ x.1 x.2 hr
          rw [← h, List.length_cons, List.length_cons]
          omega
      · obtain ⟨e, _, _, hr⟩ := do_bad hd
        rw [hr] at h
        cases h
  unfold runV
  cases hr : runA 0 l os with
  | error e => exact Nat.zero_le _
  | ok x => exact go os 0 l x.1 x.2 hr
def LawPost (W : World) (e : Ending) (W' : World) : Prop := e = .returned (.bool true) ∧ Below W.heap.size W W'
set_option maxHeartbeats 8000000 in
theorem lawRuns (rows : List Rw) (L : List (List Opr × Option Addr × Nat)) (A0 : Option Addr) (c0 : Nat) (A1 : Option Addr) (c1 : Nat) (W : World) (hE : ErrT W)
    (hc0 : rows.length ≤ c0) (hr0 : RowsAt W 2 A0 (rwR rows)) (hm0 : rows.length ≤ 9223372036854775807) (hw0 : ∀ o ∈ rows, in64 o.2)
    (hc1 : L.length ≤ c1) (hr1 : RowsAt W 1 A1 (L.map fun x => [.slice x.2.1 x.1.length x.2.2])) (hm1 : L.length ≤ 9223372036854775807)
    (hw1 : ∀ x ∈ L, x.1.length ≤ x.2.2 ∧ RowsAt W 4 x.2.1 (rwO x.1) ∧ x.1.length ≤ 9223372036854775807 ∧ ∀ o ∈ x.1, in64 o.n ∧ in64 o.lo) :
    Calls Tryd.prog 3 #[.slice A0 rows.length c0, .slice A1 L.length c1] W (LawPost W) := by
  refine via fun Q hQ => ?_
  have HR0 := Lib.hid hr0
  have HR1 := Lib.hid hr1
  have HW1 := Lib.hid hw1
  have H64 := Lib.hid (r64_cut hw0)
  have HS0 := Lib.hid ((Sat.start W).old_err hE)
  have HC1 := Lib.hid (lcutR A0 c0 rows W hr0 hm0 hc0)
  have HC2 : Hid (∀ w, Below W.heap.size W w → Calls Tryd.prog 10 #[.slice A0 rows.length c0] w (CutRPost rows w)) := Lib.hid (fun w hb => lcutR A0 c0 rows w (hr0.below hb) hm0 hc0)
  clear hr0 hr1 hw1 hw0 hE
  generalize rows.length = n0 at *
  generalize hn : L.length = n at *
  have HNL := Lib.hid hn
  clear hn
  have hcl := cutRs_len rows
  generalize hcr : cutRs rows = cr at *
  have HCr := Lib.hid hcr
  clear hcr
  go_enter Tryd.func3, Tryd.ntmps3
  go_wp2_with fail
  refine HC1.out.mono ?_
  rintro e w1 ⟨v1, rfl, ho1, hb1⟩
  rw [HCr.out] at ho1
  obtain ⟨A2, c2, rfl, hc2, hS1⟩ := HS0.out.fixR hb1 ho1
  have HNw := Lib.hid (cNew A2 c2 cr _ _ hS1 (by omega) hc2)
  clear hb1 ho1 hS1 HC1
  go_wp2_with fail
  refine HNw.out.mono ?_
  rintro e w2 ⟨p, rfl, hS2⟩
  have hS2b := hS2.s1.drop
  have HCu := Lib.hid (HC2.out w2 hS2b.s2.old_)
  have HS2 := Lib.hid hS2b
  clear hS2 hS2b HNw
  go_wp2_with fail
  refine HCu.out.mono ?_
  rintro e w3 ⟨v3, rfl, ho3, hb3⟩
  rw [HCr.out] at ho3
  obtain ⟨A4, c4, rfl, hc4, hS3⟩ := HS2.out.fixR hb3 ho3
  have HRn := Lib.hid (rnew A4 c4 cr w3 hS3.rows_ (by omega) hc4)
  have HS3 := Lib.hid hS3.drop
  clear hb3 ho3 hS3 HCu
  go_wp2_with fail
  refine HRn.out.mono ?_
  rintro e w4 ⟨v4, rfl, ho4, hb4⟩
  rw [← (new_same tx okK cr [] fit_nil).1] at ho4
  obtain ⟨A6, c6, rfl, hc6, hS4⟩ := HS3.out.fixR hb4 ho4
  have HG := Lib.hid (good_new H64.out)
  have HS4 := Lib.hid hS4.s1
  have HC6 := Lib.hid hc6
  clear hb4 ho4 hS4 HRn hc6
  generalize newP tx okK cr [] = l0 at *
  have hfin : ∀ (l : List Rw) (A7 : Option Addr) (c7 : Nat) (wr : World), l.length ≤ c7 → Good l → Sat (ceP p l :: roR 2 A7 (rwR l) :: errP :: old W :: []) wr →
      Calls Tryd.prog 16 #[.pointer (some ⟨p, 0, none⟩), .slice A7 l.length c7] wr (SamePost (ceP p l :: roR 2 A7 (rwR l) :: errP :: old W :: [])) := fun l A7 c7 wr h1 h2 h3 => lsame p A7 c7 l _ wr h3 h2 h1
  have HFin := Lib.hid hfin
  clear hfin
  go_wp2_with fail
  go_loopg [6, 24] n (fun g x6 x24 wr => ∃ (j : Nat) (l : List Rw) (A7 : Option Addr) (c7 : Nat), j ≤ n ∧ g = n - j ∧ x24 = .int .i64 j ∧ x6 = .slice A7 l.length c7 ∧ Hid (l.length ≤ c7) ∧ Hid (Good l) ∧ Hid (Sat (ceP p l :: roR 2 A7 (rwR l) :: errP :: old W :: []) wr))
  case atStart => exact ⟨0, l0, A6, c6, Nat.zero_le _, rfl, rfl, rfl, HC6, HG, HS4⟩
  case round =>
    obtain ⟨j, l, A7, c7, hj, rfl, rfl, rfl, HC7, HGl, HSr⟩ := hrel
    by_cases hlt : j < n ∧ j < 12
    · obtain ⟨hlt, h12⟩ := hlt
      have hx : L[j]? = some (L[j]'(by rw [HNL.out]; exact hlt)) := List.getElem?_eq_getElem _
      generalize L[j]'(by rw [HNL.out]; exact hlt) = y at hx
      have hold := HSr.out.s3.old_
      obtain ⟨b, o, hA, hcell⟩ := (HR1.out.below hold) j _ (by rw [List.getElem?_map, hx]; rfl)
      subst hA
      have k0 := hcell 0 _ rfl
      rw [show o + j * 1 + 0 = o + j from by omega] at k0
      obtain ⟨g1, g2, g3, g4⟩ := HW1.out y (List.mem_of_getElem? hx)
      obtain ⟨os, A8, c8⟩ := y
      simp only at k0 g1 g2 g3 g4
      have HCo := Lib.hid (cutO_calls A8 c8 os wr (g2.below hold) g3 g1)
      have H64o := Lib.hid (o64_cut g4)
      have hol := cutOs_len os
      clear hcell hx hold g1 g2 g3 g4
      generalize hoc : cutOs os = oc at H64o hol
      have HOc := Lib.hid hoc
      clear hoc
      go_wp2_with fail
      refine HCo.out.mono ?_
      rintro e w5 ⟨v5, rfl, ho5, hb5⟩
      rw [HOc.out] at ho5
      obtain ⟨A9, c9, rfl, hc9, hS5⟩ := HSr.out.fixO hb5 ho5
      have HRu := Lib.hid (cRun p l A9 c9 oc _ w5 hS5.s3.s2 HGl.out.1 HGl.out.2.1 H64o.out (by omega) hc9)
      have HC9 := Lib.hid hc9
      have htl := runV_told (l := l) (os := oc)
      have hgv := good_runV HGl.out H64o.out
      have hwv := runW_V HGl.out.1 oc
      generalize runV l oc = rv at HRu htl hgv hwv
      obtain ⟨m, ts, pl, er⟩ := rv
      simp only at htl hgv
      have HGm := Lib.hid hgv
      have HWv := Lib.hid hwv
      clear hb5 ho5 hS5 HCo hc9 hgv hwv k0
      go_wp2_with fail
      refine HRu.out.mono ?_
      rintro e w6 ⟨v6, rfl, hS6⟩
      obtain ⟨A10, c10, hv6, hc10, _, hr10⟩ := hS6.own_.slv'
      rw [rwI_len] at hv6 hc10
      simp only at hv6 hc10
      subst hv6
      have HRr := Lib.hid (rRun A7 A9 c7 c9 l oc _ w6 (hS6.s3.s4) HGl.out.1 HGl.out.2.1 H64o.out (by omega) HC9.out HC7.out)
      rw [HWv.out] at HRr
      have HC10 := Lib.hid hc10
      clear hS6 HRu hr10 hc10
      go_wp2_with fail
      refine HRr.out.mono ?_
      rintro e w7 ⟨v7, A12, c12, rfl, hc12, hS7⟩
      simp only at hc12 hS7
      obtain ⟨A13, c13, hv7, hc13, _, hr13⟩ := hS7.own_.slv'
      rw [rwI_len] at hv7 hc13
      subst hv7
      have HNu := Lib.hid (rnums A10 A13 c10 c13 ts w7 hS7.s4.ownRows hr13 (by omega) HC10.out hc13)
      have HS7 := Lib.hid hS7
      have HC12 := Lib.hid hc12
      have hb1 : (er != er) = false := bne_self_eq_false er
      have hb2 : (pl != pl) = false := bne_self_eq_false pl
      clear hS7 hr13 hc12 hc13 HRr
      go_wp2_with fail
      refine HNu.out.mono ?_
      rintro e w8 ⟨rfl, hb8⟩
      have hS8 := (HS7.out.below hb8).drop.s4.s2.drop.s2.drop.s2.drop
      have HSm := Lib.hid (HFin.out m A12 c12 w8 HC12.out HGm.out hS8)
      clear hb8 hS8 HNu
      go_wp2_with fail
      refine HSm.out.mono ?_
      rintro e w9 ⟨rfl, hS9⟩
      have HS9 := Lib.hid hS9
      clear hS9 HSm
      go_wp2_with fail
      go_roundg (n - (j + 1))
      case measure => omega
      case rel => exact ⟨j + 1, m, A12, c12, by omega, rfl, rfl, rfl, HC12, HGm, HS9⟩
    · have HSm := Lib.hid (HFin.out l A7 c7 wr HC7.out HGl.out HSr.out)
      by_cases hjn : j < n
      · have h12 : ¬ j < 12 := fun h => hlt ⟨hjn, h⟩
        have hx : L[j]? = some (L[j]'(by rw [HNL.out]; exact hjn)) := List.getElem?_eq_getElem _
        generalize L[j]'(by rw [HNL.out]; exact hjn) = y at hx
        obtain ⟨b, o, hA, hcell⟩ := (HR1.out.below HSr.out.s3.old_) j _ (by rw [List.getElem?_map, hx]; rfl)
        subst hA
        have k0 := hcell 0 _ rfl
        rw [show o + j * 1 + 0 = o + j from by omega] at k0
        clear hcell hx hlt
        go_wp2_with fail
        refine HSm.out.mono ?_
        rintro e w9 ⟨rfl, hS9⟩
        have HAw := Lib.hid (lawake (old W :: []) w9 hS9.drop.drop)
        clear hS9 HSm
        go_wp2_with fail
        refine HAw.out.mono ?_
        rintro e w10 ⟨rfl, hS10⟩
        have HB := Lib.hid hS10.s1.old_
        clear hS10 HAw
        go_wp2
        exact ⟨rfl, HB.out⟩
      · clear hlt
        go_wp2_with fail
        refine HSm.out.mono ?_
        rintro e w9 ⟨rfl, hS9⟩
        have HAw := Lib.hid (lawake (old W :: []) w9 hS9.drop.drop)
        clear hS9 HSm
        go_wp2_with fail
        refine HAw.out.mono ?_
        rintro e w10 ⟨rfl, hS10⟩
        have HB := Lib.hid hS10.s1.old_
        clear hS10 HAw
        go_wp2
        exact ⟨rfl, HB.out⟩
end Go.Proofs.YticgnakjnhdfhaaDoor
end

section
set_option linter.unusedVariables false
set_option maxRecDepth 100000
namespace Go.Proofs.YticgnakjnhdfhaaDoor
open Go.Proofs.BL Go.Proofs.Peel Go.RowKit Go.Proofs.Ky

theorem runB_shift : ∀ (os : List Opr) (i j : Nat) (l : List Rw), (∀ x, runB i l os = .ok x → runB j l os = .ok x) ∧ (∀ p, runB i l os = .error p → ∃ k, runB j l os = .error (k, p.2))
  | [], i, j, l => ⟨fun x h => h, fun p h => by unfold runB runR at h; cases h⟩
  | o :: os, i, j, l => by
    constructor
    · intro x h
      unfold runB at *
      simp only [runR] at *
      cases hev : evO o (get o.key l) with
      | error e => rw [hev] at h; cases h
      | ok vt =>
        obtain ⟨v, t⟩ := vt
        rw [hev] at h
        simp only at h ⊢
        split at h
        · cases h
        · rename_i hn
          rw [if_neg hn]
          cases hr : runR tx Opr.key evO (i + 1) (withR tx o.key v l) os with
          | error e => rw [hr] at h; cases h
          | ok y =>
            have := (runB_shift os (i + 1) (j + 1) (withR tx o.key v l)).1 y hr
            unfold runB at this
            rw [this]
            rw [hr] at h
            exact h
    · intro p h
      unfold runB at *
      simp only [runR] at *
      cases hev : evO o (get o.key l) with
      | error e => rw [hev] at h; injection h with h; exact ⟨j, by rw [← h]⟩
      | ok vt =>
        obtain ⟨v, t⟩ := vt
        rw [hev] at h
        simp only at h ⊢
        split at h
        · rename_i hn
          rw [if_pos hn]
          injection h with h
          exact ⟨j, by rw [← h]⟩
        · rename_i hn
          rw [if_neg hn]
          cases hr : runR tx Opr.key evO (i + 1) (withR tx o.key v l) os with
          | ok y => rw [hr] at h; cases h
          | error e =>
            obtain ⟨k, hk⟩ := (runB_shift os (i + 1) (j + 1) (withR tx o.key v l)).2 e hr
            unfold runB at hk
            rw [hk]
            rw [hr] at h
            injection h with h
            exact ⟨k, by rw [← h]; rfl⟩
theorem runB_err : ∀ (os : List Opr) (i : Nat) (l : List Rw) (p : Nat × Int), runB i l os = .error p → p.2 ≠ 0
  | [], i, l, p, h => by unfold runB runR at h; cases h
  | o :: os, i, l, p, h => by
    by_cases hd : (stB o l).2.2 = 0
    · rw [stB_ok hd] at h
      cases hr : runB (i + 1) (stB o l).1 os with
      | ok y => rw [hr] at h; cases h
      | error e =>
        rw [hr] at h
        injection h with h
        rw [← h]
        exact runB_err os (i + 1) _ e hr
    · rw [stB_bad hd] at h
      injection h with h
      rw [← h]
      exact hd
theorem runW_pieces {l : List Rw} (a b : List Opr) :
    ((runW l a).2.2.2 = 0 → (runW (runW l a).1 b).2.2.2 = 0 → runW l (a ++ b) = ((runW (runW l a).1 b).1, (runW l a).2.1 ++ (runW (runW l a).1 b).2.1, 0, 0)) ∧
    ((runW l a).2.2.2 ≠ 0 ∨ (runW (runW l a).1 b).2.2.2 ≠ 0 → (runW l (a ++ b)).2.2.2 ≠ 0) := by
  have happ := run_app tx Opr.key evO a b 0 l
  cases ha : runB 0 l a with
  | error p =>
    have hab : runB 0 l (a ++ b) = .error p := by unfold runB at *; rw [happ, ha]
    have hp := runB_err a 0 l p ha
    have e1 : (runW l a).2.2.2 = p.2 := by unfold runW; rw [ha]
    have e2 : (runW l (a ++ b)).2.2.2 = p.2 := by unfold runW; rw [hab]
    exact ⟨fun h => absurd (e1 ▸ h) hp, fun _ => e2 ▸ hp⟩
  | ok x =>
    obtain ⟨m, ts⟩ := x
    have e1 : runW l a = (m, ts, 0, 0) := by unfold runW; rw [ha]
    rw [e1]
    simp only []
    cases hb : runB 0 m b with
    | error p =>
      have hp := runB_err b 0 m p hb
      obtain ⟨k, hk⟩ := (runB_shift b 0 (0 + a.length) m).2 p hb
      have hab : runB 0 l (a ++ b) = .error (k, p.2) := by unfold runB at *; rw [happ, ha]; simp only []; rw [hk]; rfl
      have e2 : (runW m b).2.2.2 = p.2 := by unfold runW; rw [hb]
      have e3 : (runW l (a ++ b)).2.2.2 = p.2 := by unfold runW; rw [hab]
      exact ⟨fun _ h => absurd (e2 ▸ h) hp, fun _ => e3 ▸ hp⟩
    | ok y =>
      have hk := (runB_shift b 0 (0 + a.length) m).1 y hb
      have hab : runB 0 l (a ++ b) = .ok (y.1, ts ++ y.2) := by unfold runB at *; rw [happ, ha]; simp only []; rw [hk]; rfl
      have e2 : runW m b = (y.1, y.2, 0, 0) := by unfold runW; rw [hb]
      have e3 : runW l (a ++ b) = (y.1, ts ++ y.2, 0, 0) := by unfold runW; rw [hab]
      rw [e2, e3]
      exact ⟨fun _ _ => rfl, fun h => by rcases h with h | h <;> exact absurd rfl h⟩
theorem pieces {l : List Rw} (hl : Good l) {a b : List Opr} (ha : ∀ o ∈ a, in64 o.n) :
    ((runV l a).2.2.2 = 0 → (runV (runV l a).1 b).2.2.2 = 0 → runV l (a ++ b) = ((runV (runV l a).1 b).1, (runV l a).2.1 ++ (runV (runV l a).1 b).2.1, 0, 0)) ∧
    ((runV l a).2.2.2 ≠ 0 ∨ (runV (runV l a).1 b).2.2.2 ≠ 0 → (runV l (a ++ b)).2.2.2 ≠ 0) := by
  have hg := good_runV hl ha
  have := runW_pieces (l := l) a b
  rw [runW_V hl.1, runW_V hl.1, runW_V hg.1] at this
  exact this
end Go.Proofs.YticgnakjnhdfhaaDoor
end
