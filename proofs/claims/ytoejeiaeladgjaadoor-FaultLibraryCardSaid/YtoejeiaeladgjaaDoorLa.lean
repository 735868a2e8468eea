/- Chapter 1's law functions and reference: links cut, wrapped, made; chains. -/
import Derived.Test.YtoejeiaeladgjaaDoorFc
import Derived.Test.YtoejeiaeladgjaaDoorSl
import Derived.Deep.DeepMust
namespace Go.Proofs.YtoejeiaeladgjaaDoor
open Go.Proofs.BL Go.Proofs.Peel Go.RowKit
set_option maxRecDepth 100000

/-- A link, as the laws have it. -/
structure Li where
  kind : Int
  e : Int
  place : Int
  name : ByteArray
  limit : Int
  got : Int
def Li.enc (x : Li) : List Value := [.int .i64 x.kind, .int .i64 x.e, .int .i64 x.place, .string x.name, .int .i64 x.limit, .int .i64 x.got]
theorem Li.enc_len (x : Li) : x.enc.length = 6 := rfl
def Li.wf (x : Li) : Prop := -9223372036854775808 ≤ x.kind ∧ x.kind ≤ 9223372036854775807 ∧ x.name.size ≤ 9223372036854775807
def cutKind (k : Int) : Int := if k.tmod 4 < 0 then -(k.tmod 4) else k.tmod 4
def cutName (s : ByteArray) : ByteArray := if 40 < s.size then s.extract 0 40 else s
def cut1 (x : Li) : Li := { x with kind := cutKind x.kind, name := cutName x.name }
def cutL (l : List Li) : List Li := (l.take 30).map cut1
theorem cutKind_range (k : Int) : 0 ≤ cutKind k ∧ cutKind k ≤ 3 := by
  unfold cutKind
  have h1 := Int.tmod_lt_of_pos k (show (0 : Int) < 4 by omega)
  have h2 := Int.lt_tmod_of_pos k (show (0 : Int) < 4 by omega)
  split <;> omega
theorem tmod4_range (k : Int) : -4 < k.tmod 4 ∧ k.tmod 4 < 4 := ⟨Int.lt_tmod_of_pos k (by omega), Int.tmod_lt_of_pos k (by omega)⟩

theorem take_end (l : List Li) (k : Nat) (hk : k ≤ l.length) (h30 : k ≤ 30) (h : l.length ≤ k ∨ 30 ≤ k) : (l.take k).map cut1 = cutL l := by
  unfold cutL
  rcases h with h | h
  · rw [List.take_of_length_le h, List.take_of_length_le (by omega)]
  · obtain rfl : k = 30 := by omega
    rfl
theorem cut_enc (x : Li) (kk : Int) (nn : ByteArray) (h1 : (x.kind.tmod 4 < 0 ∧ kk = -x.kind.tmod 4) ∨ (0 ≤ x.kind.tmod 4 ∧ kk = x.kind.tmod 4)) (h2 : (40 < x.name.size ∧ nn = x.name.extract 0 40) ∨ (x.name.size ≤ 40 ∧ nn = x.name)) :
    [.int .i64 kk, .int .i64 x.e, .int .i64 x.place, .string nn, .int .i64 x.limit, .int .i64 x.got] = (cut1 x).enc := by
  have e1 : kk = cutKind x.kind := by unfold cutKind; split <;> omega
  have e2 : nn = cutName x.name := by
    unfold cutName
    rcases h2 with ⟨h, e⟩ | ⟨h, e⟩
    · rw [if_pos h, e]
    · rw [if_neg (by omega), e]
  rw [e1, e2]
  rfl
theorem cut_step {w' : World} {B : Nat} {E : TypeId} {v1 : Value} {l : List Li} {k : Nat} {x : Li} {ys : List Value} (hlt : k < l.length) (hx : l[k] = x) (hy : ys = (cut1 x).enc)
    (h : Own w' B E 6 v1 (((l.take k).map cut1).map Li.enc ++ [ys])) : Own w' B E 6 v1 (((l.take (k + 1)).map cut1).map Li.enc) := by
  rw [List.take_succ_eq_append_getElem hlt, hx]
  simpa [hy] using h
def CutPost (l : List Li) (w : World) (e : Ending) (w' : World) : Prop := ∃ u, e = .returned u ∧ Own w' w.heap.size 29 6 u ((cutL l).map Li.enc) ∧ Below w.heap.size w w'

set_option maxHeartbeats 2000000 in
theorem lcut (l : List Li) (v : Value) (w : World) (hv : SlV w 6 v (l.map Li.enc)) (hm : l.length ≤ 9223372036854775807) :
    Calls Tryd.prog 13 #[v] w (CutPost l w) := by
  obtain ⟨A, c, rfl, hlc, hr⟩ := hv
  simp only [List.length_map] at hlc ⊢
  go_enter Tryd.func13, Tryd.ntmps13
  go_wp2
  go_loopg [3, 8] (l.length) (fun n o i wr => ∃ k : Nat, k ≤ l.length ∧ k ≤ 30 ∧ n = l.length - k ∧ i = .int .i64 k ∧ Own wr w.heap.size 29 6 o (((l.take k).map cut1).map Li.enc) ∧ Below w.heap.size w wr)
  case atStart => exact ⟨0, by omega, by omega, by omega, rfl, Own.nil _ _ _ _, Below.refl _ _⟩
  case round =>
    obtain ⟨k, hk, hk30, rfl, rfl, ho, hb⟩ := hrel
    have hws := hb.size
    by_cases hlt : k < l.length
    · obtain ⟨b, o, rfl, hc⟩ := hr k l[k].enc (by simp [hlt])
      generalize hxe : l[k] = x at hc
      have HX := Lib.hid hxe
      have hcw : ∀ j u, x.enc[j]? = some u → wr.cell? ⟨b, o + k * 6 + j, none⟩ = some u := fun j u hj => (hb.cell (World.block_lt_of_cell? w _ (hc j u hj))).trans (hc j u hj)
      have c0 : wr.cell? ⟨b, o + k * 6, none⟩ = some (.int .i64 x.kind) := hcw 0 _ rfl
      have c1 : wr.cell? ⟨b, o + k * 6 + 1, none⟩ = some (.int .i64 x.e) := hcw 1 _ rfl
      have c2 : wr.cell? ⟨b, o + k * 6 + 2, none⟩ = some (.int .i64 x.place) := hcw 2 _ rfl
      have c3 : wr.cell? ⟨b, o + k * 6 + 3, none⟩ = some (.string x.name) := hcw 3 _ rfl
      have c4 : wr.cell? ⟨b, o + k * 6 + 4, none⟩ = some (.int .i64 x.limit) := hcw 4 _ rfl
      have c5 : wr.cell? ⟨b, o + k * 6 + 5, none⟩ = some (.int .i64 x.got) := hcw 5 _ rfl
      have HO := Lib.hid ho
      have HB := Lib.hid hb
      have HR := Lib.hid hr
      have ht1 := (tmod4_range x.kind).1
      have ht2 := (tmod4_range x.kind).2
      clear ho hb hr hc hcw hxe
      go_wp2_with (at_builtin; go_must (refine append1 w.heap.size 29 6 56 (.agg #[.int .i64 0, .int .i64 0, .int .i64 0, .string ⟨#[]⟩, .int .i64 0, .int .i64 0]) rfl (.tmp 34) (.tmp 36) 22 rfl Tryd.underlying22 (by kernel_rfl) rfl (by decide) (by decide) _ (((l.take k).map cut1).map Li.enc) _ rfl _ rfl (by simp) rfl (by simp [Value.oneCell']) (HO.out.alloc _) (by simp; omega) (by simp; omega) ?_); intro v1 w1 hown1 hfr1)
      all_goals first
        | (go_roundg (l.length - (k + 1))
           case measure => omega
           case rel => exact ⟨k + 1, by omega, by omega, rfl, by go_num, cut_step hlt HX.out (cut_enc x _ _ (by omega) (by first | exact Or.inl ⟨by omega, rfl⟩ | exact Or.inr ⟨by omega, rfl⟩)) hown1, (HO.out.alloc _).fr_below (HB.out.alloc hws _) (by simp; omega) hfr1⟩)
        | (go_ret
           exact ⟨_, rfl, by rw [← take_end l k hk hk30 (Or.inr (by omega))]; exact HO.out.alloc _, HB.out.alloc hws _⟩)
    · have HO := Lib.hid ho
      have HB := Lib.hid hb
      clear ho hb hr
      go_wp2
      go_ret
      exact ⟨_, rfl, by rw [← take_end l k hk hk30 (Or.inl (by omega))]; exact HO.out, HB.out⟩
end Go.Proofs.YtoejeiaeladgjaaDoor
