/- wait.drawn, walked. -/
import Derived.Test.YtoimhigpbmabeaaG0
import Derived.Test.YtoimhigpbmabeaaWm
import Derived.Test.YtoimhigpbmabeaaSb
import Derived.Test.YtoimhigpbmabeaaChecked
import Derived.Test.YtoimhigpbmabeaaMap
import Derived.Maps.GroupsBeside
import Derived.Maps.OwnRows
import Derived.Maps.Own
import Derived.Deep.RegionHeld3
import Derived.Deep.AppendLies
import Derived.Outline
import Derived.Lib.Hide
set_option linter.unusedVariables false
set_option maxRecDepth 100000
namespace Go.Proofs.Ytoimhigpbmabeaa
open Go.ChangeShapes Go.ChangeMaps Go.Proofs.BL Go.RowKit Go.Maps Go.Proofs.Wm Go.Proofs.YtoimhigpbmabeaaW.PrintWords Go.Proofs.Ytoimhigpbmabeaa.G

abbrev wfI (x : Int) : Prop := (Lit.int .i64 x).wf = true
def pr (l : List S44) : Es := l.map fun e => (e.f0, e.f1)
def rdat (zs : List Int) : DataW Unit := if zs = [] then .nil else .slice (lits .i64 zs) []
/-- The datum of a graph of edges. -/
def DRel (D : DataW Unit) (es : Es) : Prop :=
  IsMap D ∧ (∀ x, wfI x → D.atKey (.int .i64 x) .nil = rdat (succs es x)) ∧ (∀ x, wfI x → Maps.has D (.int .i64 x) = decide (x ∈ nodes es))
theorem lawI : Keyed Try.prog 3 := int_keyed Try.underlying3
theorem keyI {x : Int} (h : wfI x) : keyOf Try.prog 3 (.int .i64 x) = some (.int .i64 x) := keyOf_int_mk Try.underlying3 h
theorem isKeyI {x : Int} (h : wfI x) : WideAt.IsKeyLit (.int .i64 x) := by
  first | exact h | exact trivial | (simp [WideAt.IsKeyLit]; done)

theorem lits_inj {a b : List Int} (h : lits (H := Unit) .i64 a = lits .i64 b) : a = b := by
  induction a generalizing b with
  | nil => cases b <;> simp_all [lits]
  | cons x a ih =>
    cases b with
    | nil => simp [lits] at h
    | cons y b =>
      simp only [lits, List.map_cons, List.cons.injEq, DataW.lit.injEq, Lit.int.injEq, true_and] at h
      rw [h.1, ih (by simpa only [lits] using h.2)]
theorem row_zs {w : World} {base : Nat} {v : Value} {zs s : List Int} (ho : w.ownsInts base 3 .i64 v zs) (h : rdat s = rowDatum .i64 v zs) : zs = s ∧ (s = [] → v = .slice none 0 0) := by
  rcases ho.1.2 with ⟨h1, h2⟩ | ⟨g, cap, cur, h1, _⟩
  · have hz := List.eq_nil_of_length_eq_zero h2
    subst h1 hz
    unfold rdat rowDatum at h
    split at h
    · rename_i hs; exact ⟨hs.symm, fun _ => rfl⟩
    · cases h
  · subst h1
    unfold rdat rowDatum at h
    split at h
    · cases h
    · rename_i hs
      injection h with h
      exact ⟨(lits_inj h).symm, fun e => absurd e hs⟩
theorem ne_key {x y : Int} (h : x ≠ y) : (Lit.int .i64 x) ≠ (Lit.int .i64 y) := fun e => h (by injection e)
/-- One edge more. -/
theorem drel_step {D : DataW Unit} {es : Es} {a b : Int} (h : DRel D es) (ha : wfI a) (hb : wfI b) {zs : List Int} (hz : zs = succs es a) (D3 : DataW Unit)
    (h3 : D3 = if Maps.has (D.put (.int .i64 a) (.slice (lits .i64 (zs ++ [b])) [])) (.int .i64 b) then D.put (.int .i64 a) (.slice (lits .i64 (zs ++ [b])) []) else (D.put (.int .i64 a) (.slice (lits .i64 (zs ++ [b])) [])).put (.int .i64 b) .nil) : DRel D3 (es ++ [(a, b)]) := by
  obtain ⟨hm, hat, hh⟩ := h
  subst hz
  have hm2 := hm.put (.int .i64 a) (.slice (lits .i64 (succs es a ++ [b])) [])
  have hat2 : ∀ x, wfI x → (D.put (.int .i64 a) (.slice (lits .i64 (succs es a ++ [b])) [])).atKey (.int .i64 x) .nil = rdat (succs (es ++ [(a, b)]) x) := by
    intro x hx
    rw [succs_snoc]
    by_cases e : a = x
    · subst e
      rw [atKey_put_same hm (isKeyI ha)]
      simp [rdat]
    · rw [atKey_put_other (ne_key (Ne.symm e)), hat x hx, if_neg e, List.append_nil]
  have hh2 : ∀ x, wfI x → Maps.has (D.put (.int .i64 a) (.slice (lits .i64 (succs es a ++ [b])) [])) (.int .i64 x) = decide (x ∈ nodes es ∨ x = a) := by
    intro x hx
    by_cases e : a = x
    · subst e
      rw [has_put_same hm (isKeyI ha)]
      simp
    · rw [has_put_other (ne_key (Ne.symm e)), hh x hx]
      have : ¬ x = a := fun e' => e e'.symm
      simp [this]
  generalize D.put (.int .i64 a) (.slice (lits .i64 (succs es a ++ [b])) []) = D2 at *
  have hb2 := hh2 b hb
  by_cases hc : b ∈ nodes es ∨ b = a
  · rw [show Maps.has D2 (.int .i64 b) = true from by rw [hb2]; simpa using hc, if_pos rfl] at h3
    subst h3
    refine ⟨hm2, hat2, fun x hx => ?_⟩
    rw [hh2 x hx, nodes_snoc]
    congr 1
    simp only [List.mem_append, List.mem_cons, List.not_mem_nil, or_false]
    apply propext
    constructor
    · rintro (h | h)
      · exact .inl h
      · exact .inr (.inl h)
    · rintro (h | h | h)
      · exact .inl h
      · exact .inr h
      · subst h; exact hc
  · rw [show Maps.has D2 (.int .i64 b) = false from by rw [hb2]; simpa using hc, if_neg (by simp)] at h3
    subst h3
    have hbn : b ∉ nodes es := fun h => hc (.inl h)
    have hba : a ≠ b := fun h => hc (.inr h.symm)
    refine ⟨hm2.put _ _, fun x hx => ?_, fun x hx => ?_⟩
    · by_cases e : b = x
      · subst e
        rw [atKey_put_same hm2 (isKeyI hb), succs_snoc, succs_nil_of hbn, if_neg hba]
        simp [rdat]
      · rw [atKey_put_other (ne_key (Ne.symm e)), hat2 x hx]
    · by_cases e : b = x
      · subst e
        rw [has_put_same hm2 (isKeyI hb), nodes_snoc]
        simp
      · rw [has_put_other (ne_key (Ne.symm e)), hh2 x hx, nodes_snoc]
        congr 1
        have : ¬ x = b := fun e' => e e'.symm
        simp [this]
theorem spot_none {w : World} {a : Addr} {v : Value} (h : w.cell? a = some v) : a.spot = none := by
  unfold World.cell? at h
  split at h
  · split at h
    · cases h
    · rename_i hh
      simpa using hh
  · cases h
theorem add_none (b o k : Nat) : (⟨b, o, none⟩ : Addr).add k = ⟨b, o + k, none⟩ := by unfold Addr.add; split <;> simp_all
theorem cellsE {w : World} {A : Option Addr} {l : List S44} (h : Kd.C k44 w A l.length l) {j : Nat} (hj : j < l.length) :
    ∃ b o, A = some ⟨b, o, none⟩ ∧ w.cell? ⟨b, o + j * 2, none⟩ = some (.int .i64 l[j].f0) ∧ w.cell? ⟨b, o + j * 2 + 1, none⟩ = some (.int .i64 l[j].f1) := by
  obtain ⟨ad, hA, g0, g1⟩ := at_T44 h (j : Int) (by omega) (by omega)
  have e : rd_T44 l (j : Int) = l[j] := by
    unfold rd_T44
    rw [List.getD_eq_getElem?_getD, Int.toNat_natCast, List.getElem?_eq_getElem hj]
    rfl
  rw [e, Int.toNat_natCast] at g0 g1
  obtain ⟨b, o, sp⟩ := ad
  have : sp = none := by
    obtain ⟨ad', hA', g0', _⟩ := at_T44 h 0 (by omega) (by omega)
    rw [hA] at hA'
    injection hA' with hA'
    subst hA'
    have hs := spot_none g0'
    cases sp with
    | none => rfl
    | some s => simp [Addr.add] at hs
  subst this
  rw [add_none] at g0 g1
  exact ⟨b, o, hA, g0, g1⟩

theorem grow_fr {W1 w1 : World} {o : Obj} {r : Option Nat} (h : ((W1.alloc o).drew).grownBy w1 r) : Fr (fun k => r = some k) W1 w1 :=
  ((Fr.refl _ W1).alloc o).drew.trans (T := fun k => r = some k) ⟨h.os, h.tape, h.output, h.size, fun k hk hn => h.block k hk (fun e => hn e.symm)⟩ (fun _ _ h => h)
theorem fr_grow' {W1 w1 : World} {b : Nat} (h : W1.grownBy w1 (some b)) : Fr (fun k => k = b) W1 w1 := ⟨h.os, h.tape, h.output, h.size, fun k hk hn => h.block k hk (fun e => hn (by injection e))⟩
theorem fr_grow {W1 w1 : World} {r : Option Nat} (h : Fr (fun k => r = some k) W1 w1) : W1.grownBy w1 r := ⟨h.os, h.tape, h.output, h.size, fun k hk hn => h.block k hk (fun e => hn e.symm)⟩
theorem row_ne {W : World} {base : Nat} {v : Value} {zs : List Int} (h : W.ownsInts base 3 .i64 v zs) {b : Nat} {o : Obj} (hb : W.heap[b]? = some o) (ho : ∀ cs f, o ≠ .cells cs 3 f) : ¬ v.ownBlock = some b := by
  intro e
  obtain ⟨cs, hc⟩ := own_typed h.1 b e
  rw [hb] at hc
  injection hc with hc
  exact ho _ _ hc
theorem two_ne {W : World} {base : Nat} {v : Value} {zs : List Int} (h : W.ownsInts base 3 .i64 v zs) {b m : Nat} {o : Obj} (hb : W.heap[b]? = some o) (ho : ∀ cs f, o ≠ .cells cs 3 f) (hn : b ≠ m) : ¬ (v.ownBlock = some b ∨ b = m) := fun e => e.elim (row_ne h hb ho) hn
theorem back_step {W1 w1 : World} {o : Obj} {base b n g cap : Nat} {D : DataW Unit} {key : Value} {kl : Lit} {v : Value} {zs : List Int} {x : Int} (hb : W1.groupBack Try.prog 47 3 base 3 .i64 b n D key kl v) (hoi : W1.ownsInts base 3 .i64 v zs) (hx : wfI x) (hzl : zs.length ≤ n)
    (hown1 : w1.ownsRow base 3 1 (.slice (some ⟨g, 0, none⟩) (zs.length + 1) cap) (zs.length + 1) (zs.map (Value.int .i64) ++ [.int .i64 x])) (hgrow1 : ((W1.alloc o).drew).grownBy w1 v.ownBlock) (hat : v.ownBlock = some g ∨ g = W1.heap.size + 1) :
    ∃ w2, (Instr.mapUpdate 47 (.map (some b)) key (.slice (some ⟨g, 0, none⟩) (zs.length + 1) cap)).run Try.prog w1 = .ok () w2 ∧
      w2.ownsGroups Try.prog 3 base 3 .i64 b (n + 1) (D.put kl (.slice (lits .i64 (zs ++ [x])) [])) ∧ Fr (fun k => v.ownBlock = some k ∨ k = b) W1 w2 := by
  have hf := grow_fr hgrow1
  obtain ⟨w2, h1, h2, h3⟩ := hb w1 (.slice (some ⟨g, 0, none⟩) (zs.length + 1) cap) (zs ++ [x]) (fr_grow hf) ⟨by simpa using hown1, fun z hz => by
      rcases List.mem_append.1 hz with h | h
      · exact hoi.2 z h
      · rw [List.mem_singleton.1 h]; exact hx⟩ (by simp; omega) (by
      rcases hat with h | h
      · exact .inl h.symm
      · exact .inr ⟨g, rfl, by omega⟩)
  refine ⟨w2, h1, h2, (hf.mono (fun k _ h => .inl h)).trans (T := fun k => k = b) ⟨h3.os, h3.tape, h3.output, h3.size, fun k hk hn => h3.block k hk (fun e => hn (by injection e))⟩ (fun _ _ h => .inr h)⟩

set_option maxHeartbeats 4000000 in
theorem drawn_calls (A : Option Addr) (c : Nat) (l : List S44) (w : World) (hr : Kd.C k44 w A l.length l) (hc : l.length ≤ c) (hwf : ∀ e ∈ l, wfI e.f0 ∧ wfI e.f1) (hlen : l.length ≤ 1000000) :
    Calls Try.prog 23 #[.slice A l.length c] w fun e w' => ∃ (b base n : Nat) (D : DataW Unit), e = .returned (.agg #[.map (some b)]) ∧ w'.ownsGroups Try.prog 3 base 3 .i64 b n D ∧ n ≤ 2 * l.length ∧ DRel D (pr l) ∧ Below w.heap.size w w' ∧ w.heap.size ≤ b := by
  refine via fun Q hQ => ?_
  have hmm := @run_makeMap Try.prog
  go_enter Try.func23, Try.ntmps23
  go_wp2
  have HW := Lib.hid hwf
  have HR := Lib.hid hr
  clear hwf hr
  go_loopg [12] l.length (fun g i wr => ∃ j : Nat, j ≤ l.length ∧ g = l.length - j ∧ i = .int .i64 j ∧ ∃ (D : DataW Unit) (m : Nat), m ≤ 2 * j ∧ wr.ownsGroups Try.prog 3 (w.heap.size + 1 + 1) 3 .i64 (w.heap.size + 1) m D ∧ DRel D (pr (l.take j)) ∧
    Blk wr w.heap.size #[.map none] 49 ∧ Blk wr (w.heap.size + 1 + 1) #[.map (some (w.heap.size + 1))] 49 ∧ Below w.heap.size w wr)
  case atStart => exact ⟨0, Nat.zero_le _, rfl, rfl, .map [], 0, Nat.le_refl _, groups_below (by simpa using World.ownsGroups_made (w.alloc (Obj.cells #[Value.map none] 49)) Try.prog 3 3 .i64) ((Below.refl _ _).alloc (Nat.le_refl _) _), ⟨isMap_empty, fun x hx => rfl, fun x hx => rfl⟩, (Blk.new w _ _).below ((((Below.refl _ _).alloc (by simp) _).alloc (by simp) _)), by simpa using Blk.new ((w.alloc (Obj.cells #[Value.map none] 49)).alloc (Obj.map #[] 0)) #[.map (some (w.heap.size + 1))] 49, (((Below.refl _ _).alloc (Nat.le_refl _) _).alloc (by simp) _).alloc (by simp; omega) _⟩
  case round =>
    obtain ⟨j, hj, rfl, rfl, D, m, hm, hown, hD, hB2, hB3, hb⟩ := hrel
    by_cases hlt : j < l.length
    · obtain ⟨eb, eo, hA, g0, g1⟩ := cellsE (Kd.C_below HR.out hb) hlt
      have hx := HW.out l[j] (List.getElem_mem hlt)
      have hstep : pr (l.take (j + 1)) = pr (l.take j) ++ [(l[j].f0, l[j].f1)] := by
        unfold pr
        rw [List.take_add_one, List.map_append, List.getElem?_eq_getElem hlt]
        rfl
      generalize l[j] = x at g0 g1 hx hstep
      obtain ⟨xa, xb⟩ := x
      obtain ⟨ha, hb2⟩ := hx
      simp only at g0 g1 ha hb2 hstep
      have HS := Lib.hid hstep
      have HD := Lib.hid hD
      have HO := Lib.hid hown
      have HB2 := Lib.hid hB2
      have HB := Lib.hid hb
      have Ha := Lib.hid ha
      have Hb2 := Lib.hid hb2
      have c3 : wr.cell? ⟨w.heap.size + 1 + 1, 0, none⟩ = some (.map (some (w.heap.size + 1))) := hB3.at_ 0 rfl
      have HB3 := Lib.hid hB3
      subst hA
      clear hstep hD hown hB2 hb hB3 ha hb2
      go_wp2
      have hB5 := Blk.new wr #[.int .i64 xa, .int .i64 xb] 44
      have hal : Below wr.heap.size wr (wr.alloc (.cells #[.int .i64 xa, .int .i64 xb] 44)) := (Below.refl _ _).alloc (Nat.le_refl _) _
      have hlw := HB3.out.lt
      have HAL0 := Lib.hid hal
      have hO1 := groups_below HO.out hal
      have hc3 := (HB3.out.below hal).at_ 0 rfl
      generalize wr.alloc (.cells #[.int .i64 xa, .int .i64 xb] 44) = W1 at hB5 hal HAL0 hO1 hc3 ⊢
      obtain ⟨v, zs, hall, hat, hoi, hzl, hback⟩ := groups_at hO1 lawI Try.underlying47 (fun W => Try.zeroValue26 W) (by unfold maxLen; omega) (keyI Ha.out)
      have c50 : W1.cell? ⟨wr.heap.size, 0, none⟩ = some (.int .i64 xa) := hB5.at_ 0 rfl
      have c51 : W1.cell? ⟨wr.heap.size, 1, none⟩ = some (.int .i64 xb) := hB5.at_ 1 rfl
      have hlk : (Instr.lookup 47 (.map (some (w.heap.size + 1))) (.int .i64 xa) false).run Try.prog W1.drew = .ok v W1.drew := (hall W1.drew rfl).1
      have hlk2 : (Instr.lookup 47 (.map (some (w.heap.size + 1))) (.int .i64 xa) false).run Try.prog (W1.alloc (.cells #[.int .i64 xb] 3)).drew = .ok v (W1.alloc (.cells #[.int .i64 xb] 3)).drew := (hall (W1.alloc (.cells #[.int .i64 xb] 3)).drew (Below.heap_alloc W1 _ _ (by have := HAL0.out.size; omega))).1
      have one1 : ∀ u ∈ [Value.int .i64 xb], u.oneCell' = true := fun u hu => by rw [List.mem_singleton.1 hu]; rfl
      have hn3 : w.heap.size + 1 + 1 ≠ w.heap.size + 1 := by omega
      have hn5 : wr.heap.size ≠ w.heap.size + 1 := by omega
      have hbw : w.heap.size + 1 < W1.heap.size := by have := HAL0.out.size; omega
      have HALL := Lib.hid hall
      have HOI := Lib.hid hoi
      have HBK := Lib.hid hback
      have HAT := Lib.hid hat
      have HO1 := Lib.hid hO1
      have HAL := Lib.hid hal
      have HB5 := Lib.hid hB5
      clear hall hoi hback hat hO1 hal hB5
      have hi3 : ∃ i0, Try.prog.info? 3 = some i0 ∧ i0.zero = some (.int .i64 0) ∧ i0.size = 1 ∧ i0.bytes = 8 := by
        obtain ⟨i0, h1, h2⟩ := Option.map_eq_some_iff.1 info3
        simp only [Prod.mk.injEq] at h2
        exact ⟨i0, h1, h2.1, h2.2.1, h2.2.2⟩
      obtain ⟨i0, hi, hz0, hz1, hz2⟩ := hi3
      have HI := Lib.hid hi
      have HZ0 := Lib.hid hz0
      have HZ1 := Lib.hid hz1
      have HZ2 := Lib.hid hz2
      clear hi hz0 hz1 hz2
      have hbm : ∃ es clock, W1.heap[w.heap.size + 1]? = some (.map es clock) := by obtain ⟨es, clock, h, _⟩ := HO1.out; exact ⟨es, clock, h⟩
      obtain ⟨es, clock, hbm⟩ := hbm
      have HBM := Lib.hid hbm
      clear hbm
      have HB31 := Lib.hid (HB3.out.below HAL.out)
      have hbs : w.heap.size + 1 + 1 ≤ W1.heap.size + 1 := by omega
      go_region_held3 (fun x => x.cell? ⟨w.heap.size + 1 + 1, 0, none⟩ = some (.map (some (w.heap.size + 1))) ∧ x.cell? ⟨wr.heap.size, 0, none⟩ = some (.int .i64 xa) ∧ x.cell? ⟨wr.heap.size, 1, none⟩ = some (.int .i64 xb))
        (first | assumption | (go_keep; done))
        ((refine step_append_lies _ (by rfl) (.tmp 24) (.tmp 27) 26 (by rfl) (w.heap.size + 1 + 1) 3 i0 (.int .i64 0) 1 8 Try.underlying26 HI.out HZ0.out HZ1.out HZ2.out (by rfl) (by decide) v zs.length (zs.map (Value.int .i64)) (by rfl) (HOI.out.1.alloc _).drew ⟨W1.heap.size, 0, none⟩ 1 1 [.int .i64 xb] (by rfl) (by rfl) (World.news_of_block (cs := #[.int .i64 xb]) (t := 3) (fr := (0, 0)) (heap_alloc_new W1 (.cells #[.int .i64 xb] 3))) one1 (by decide) (by unfold maxLen; omega) (by omega) (by simp; omega) (W1.heap.size + 1) (by simp) ?_; intro g cap w1 hown1 hgrow1 hat1 hlt1; obtain ⟨w2, hrun2, ho2, hf2⟩ := back_step HBK.out HOI.out Hb2.out hzl hown1 hgrow1 hat1; have hfr1 := grow_fr hgrow1; have hs3 := (HB31.out.fr hfr1 (row_ne HOI.out HB31.out (fun _ _ h => by cases h))).at_ 0 rfl; have hs5 := HB5.out.fr hfr1 (row_ne HOI.out HB5.out (fun _ _ h => by cases h)); have hS := And.intro hs3 (And.intro (hs5.at_ 0 rfl) (hs5.at_ 1 rfl)); have ht3 := HB31.out.fr hf2 (two_ne HOI.out HB31.out (fun _ _ h => by cases h) hn3); have ht5 := HB5.out.fr hf2 (two_ne HOI.out HB5.out (fun _ _ h => by cases h) hn5); have hT := And.intro (ht3.at_ 0 rfl) (And.intro (ht5.at_ 0 rfl) (ht5.at_ 1 rfl)); have HT3 := Lib.hid ht3; have HT5 := Lib.hid ht5; clear hs3 hs5 hfr1 hown1 hgrow1 hat1 ht3 ht5; have HO2 := Lib.hid ho2; have HF2 := Lib.hid hf2; clear ho2 hf2))
      all_goals
        obtain ⟨v2, zs2, hall2, hat2, hoi2, hzl2, hback2⟩ := groups_at HO2.out lawI Try.underlying47 (fun W => Try.zeroValue26 W) (by unfold maxLen; omega) (keyI Hb2.out)
        have hlk3 := (hall2 w2 rfl).2
        have ct3 : w2.cell? ⟨w.heap.size + 1 + 1, 0, none⟩ = some (.map (some (w.heap.size + 1))) := HT3.out.at_ 0 rfl
        have ct5 : w2.cell? ⟨wr.heap.size, 1, none⟩ = some (.int .i64 xb) := HT5.out.at_ 1 rfl
        have hzs := (row_zs HOI.out (by rw [← HD.out.2.1 xa Ha.out]; exact HAT.out)).1
        have HST := fun D3 h3 => drel_step HD.out Ha.out Hb2.out hzs D3 h3
        have HFW := Lib.hid (((Fr.of_below (S := none_) (below_then HB.out HAL.out)).trans HF2.out (fun i hi hS => by
          rcases hS with hS | hS
          · have := (HOI.out.1.lt i hS).1; omega
          · omega)).below : Below w.heap.size w w2)
        have HB22 := Lib.hid ((HB2.out.below HAL.out).fr HF2.out (two_ne HOI.out (HB2.out.below HAL.out) (fun _ _ h => by cases h) (by omega)))
        generalize hbb : Maps.has _ (Lit.int .i64 xb) = bb at hlk3 HST
        have HBB := Lib.hid hbb
        have HS3 := Lib.hid HST
        have HH2 := Lib.hid hat2
        have HI2 := Lib.hid hoi2
        have HK2 := Lib.hid hback2
        clear hbb hall2 HST hat2 hoi2 hback2 hS hT hzs hrun2
        cases bb
        · have hz2 := row_zs (s := []) HI2.out (by rw [← HH2.out, atKey_of_not_has HBB.out]; rfl)
          obtain ⟨w3, hrun3, ho3, hg3⟩ := HK2.out w2 (.slice none 0 0) [] ⟨rfl, rfl, rfl, Nat.le_refl _, fun _ _ _ => rfl⟩ (World.ownsInts_nil _ _ _ _) (by simp) (.inl (by rw [hz2.2 rfl]))
          have HO3 := Lib.hid ho3
          have HG3 := Lib.hid hg3
          clear ho3 hg3 hz2
          go_wp2
          go_roundg (l.length - (j + 1))
          case measure => omega
          case rel =>
            have hlt3 : w.heap.size + 1 < w2.heap.size := by have := HB22.out.lt; have := HT3.out.lt; omega
            refine ⟨j + 1, hlt, rfl, by go_num, _, m + 1 + 1, by omega, HO3.out, ?_, ?_, ?_, ?_⟩
            · rw [HS.out]; exact HS3.out _ rfl
            · exact HB22.out.fr (fr_grow' HG3.out) (by simp)
            · exact HT3.out.fr (fr_grow' HG3.out) (by simp)
            · exact (Fr.of_below (S := none_) HFW.out |>.trans (fr_grow' HG3.out) (fun i hi hS => by omega)).below
        · go_wp2
          go_roundg (l.length - (j + 1))
          case measure => omega
          case rel => exact ⟨j + 1, hlt, rfl, by go_num, _, m + 1, by omega, HO2.out, by rw [HS.out]; exact HS3.out _ rfl, HB22.out, HT3.out, HFW.out⟩
    · obtain rfl : j = l.length := by omega
      rw [List.take_length] at hD
      have hgl : w.heap.size < w.heap.size + 1 := by omega
      have c2 : wr.cell? ⟨w.heap.size, 0, none⟩ = some (.map none) := hB2.at_ 0 rfl
      have f2 := hB2.free 0
      have c3 : wr.cell? ⟨w.heap.size + 1 + 1, 0, none⟩ = some (.map (some (w.heap.size + 1))) := hB3.at_ 0 rfl
      have hs := hB2.set 0 (.map (some (w.heap.size + 1)))
      have hf := (Fr.refl (only w.heap.size) wr).setCell (p := ⟨w.heap.size, 0, none⟩) (.inr rfl) (.map (some (w.heap.size + 1)))
      have ho := hown.kept (row := some w.heap.size) ⟨hf.os, hf.tape, hf.output, hf.size, fun k hk hn => hf.block k hk (fun e => hn (by rw [show k = w.heap.size from e]))⟩ (by simp) (hown.rowsAbove (fun j e => by injection e with e; omega))
      have HD := Lib.hid hD
      have HO := Lib.hid ho
      have HS := Lib.hid hs
      have HF := Lib.hid hf
      have HB := Lib.hid hb
      clear hD hown hB2 hB3 hb hs hf ho
      go_wp2
      go_goals
      all_goals exact bodyPost_ret (v := .agg #[.map (some (w.heap.size + 1))]) (by simp [results, Try.results23, go_sem, c2]) rfl (hQ _ _ ⟨w.heap.size + 1, w.heap.size + 1 + 1, m, D, rfl, HO.out, hm, HD.out, ((Fr.of_below (S := none_) HB.out).trans HF.out (fun i hi hS => by cases hS; omega)).below, by omega⟩)
end Go.Proofs.Ytoimhigpbmabeaa
