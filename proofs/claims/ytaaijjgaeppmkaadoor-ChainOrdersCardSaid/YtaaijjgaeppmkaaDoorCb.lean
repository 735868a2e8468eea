/- Package chain: objects; version, sort.Search, find. -/
import Derived.Test.YtaaijjgaeppmkaaDoorSat
import Derived.Test.YtaaijjgaeppmkaaDoorCa
import Derived.Test.YtaaijjgaeppmkaaDoorFkc
import Derived.Test.YtaaijjgaeppmkaaDoorFkAt
import Derived.Test.YtaaijjgaeppmkaaDoorFkBound
import Derived.WalkKit
import Derived.Deep.LoopGhost
import Derived.Deep.QuietTactic
import Derived.Laws.Rows
set_option linter.unusedVariables false
set_option maxRecDepth 100000
namespace Go.Proofs.YtaaijjgaeppmkaaDoor
open Go.Proofs.BL Go.Proofs.Peel Go.RowKit Go.Proofs.Cn

/-- An object of one slice. -/
def objS (T E : TypeId) (sz p : Nat) (rows : List (List Value)) : Part := Part.ex fun v => (blk p #[v] T).star (ownR v E sz rows)
theorem Sat.openO {T E : TypeId} {sz p : Nat} {rows : List (List Value)} {l : List Part} {w : World} (h : Sat (objS T E sz p rows :: l) w) : ∃ v, Sat (blk p #[v] T :: ownR v E sz rows :: l) w := by
  obtain ⟨v, h⟩ := h.open_
  exact ⟨v, h.split⟩
theorem Sat.shutO {T E : TypeId} {sz p : Nat} {v : Value} {rows : List (List Value)} {l : List Part} {w : World} (h : Sat (blk p #[v] T :: ownR v E sz rows :: l) w) : Sat (objS T E sz p rows :: l) w := h.join.shut (f := fun v => (blk p #[v] T).star (ownR v E sz rows)) v
theorem drew_below (w : World) (n : Nat) : Below w.heap.size w (w.drewN n) := ⟨rfl, rfl, rfl, Nat.le_refl _, fun _ _ => rfl⟩
/-- The table of errors.As. -/
def errP : Part := ⟨fun w G _ => ErrT w ∧ G 0, fun ⟨h, ho⟩ hO hG hf hGG => ⟨(World.cell?_of_block (hf.block _ (hG _ ho) (fun hn => hn (.inl ho)))).trans h, hGG _ ho⟩⟩
theorem Sat.err_ {l : List Part} {w : World} (h : Sat (errP :: l) w) : ErrT w := h.fact (fun _ _ a _ _ => a.1)
theorem Sat.old_err {l : List Part} {w W : World} (h : Sat (old W :: l) w) (hE : ErrT W) : Sat (errP :: old W :: l) w :=
  h.dup fun G O ⟨hb, hg⟩ => ⟨hE.below hb, hg _ (World.block_lt_of_cell? W _ hE)⟩
theorem eraseIdx_perm {α : Type _} {a : α} : ∀ {l : List α} {i : Nat}, l[i]? = some a → l.Perm (a :: l.eraseIdx i)
  | [], i, h => by simp at h
  | b :: l, 0, h => by
    simp only [List.getElem?_cons_zero, Option.some.injEq] at h
    subst h
    exact List.Perm.refl _
  | b :: l, i + 1, h => by
    simp only [List.getElem?_cons_succ] at h
    exact ((eraseIdx_perm h).cons b).trans (List.Perm.swap a b _)
/-- The n-th part ahead of the others. -/
theorem Sat.nth {A : Part} {l : List Part} {w : World} (i : Nat) (h : Sat l w) (e : l[i]? = some A) : Sat (A :: l.eraseIdx i) w := h.perm (eraseIdx_perm e)

def enV (v : Ver) : List Value := [.int .i64 v.at_, .int .i64 v.n, .bool v.there, .int .i64 v.read, .bool v.open_]
abbrev rwV (vs : Vs) : List (List Value) := vs.map enV
theorem rwV_len (vs : Vs) : (rwV vs).length = vs.length := by simp
theorem enV_len (v : Ver) : (enV v).length = 5 := rfl
theorem rwV_five (vs : Vs) : ∀ r, r ∈ rwV vs → r.length = 5 := fun r hr => by obtain ⟨x, _, rfl⟩ := List.mem_map.1 hr; rfl
theorem enV_one (v : Ver) : ∀ u ∈ enV v, u.oneCell' = true := by intro u hu; simp [enV] at hu; rcases hu with rfl | rfl | rfl | rfl | rfl <;> rfl
theorem rwV_one (vs : Vs) : ∀ r, r ∈ rwV vs → ∀ u ∈ r, u.oneCell' = true := fun r hr => by obtain ⟨x, _, rfl⟩ := List.mem_map.1 hr; exact enV_one x
abbrev chP (p : Nat) (vs : Vs) : Part := objS 58 39 5 p (rwV vs)
abbrev rcP (p : Nat) (vs : Vs) : Part := objS 71 68 5 p (rwV vs)
/-- A row of one's own that is not empty. -/
theorem own_some {w : World} {base : Nat} {E : TypeId} {sz : Nat} {v : Value} {rows : List (List Value)} (h : Own w base E sz v rows) (hn : rows ≠ []) : ∃ g c, v = .slice (some ⟨g, 0, none⟩) rows.length c ∧ rows.length ≤ c ∧ c ≤ maxLen := by
  rcases h.1.2 with ⟨_, h1⟩ | ⟨g, c, cur, h1, _, _, h2, h3, _⟩
  · exact absurd (List.eq_nil_of_length_eq_zero h1) hn
  · exact ⟨g, c, h1, h2, h3⟩
theorem own_at {w : World} {base : Nat} {E : TypeId} {sz : Nat} {g n c : Nat} {rows : List (List Value)} (h : Own w base E sz (.slice (some ⟨g, 0, none⟩) n c) rows) {i : Nat} {r : List Value} (hi : rows[i]? = some r) (j : Nat) {u : Value} (hj : r[j]? = some u) :
    w.cell? ⟨g, i * sz + j, none⟩ = some u ∧ w.frozen? ⟨g, i * sz + j, none⟩ = false := by
  obtain ⟨_, _, e, _, hr⟩ := h.slv
  injection e with e1 e2 e3
  subst e1
  obtain ⟨b, o, e, hc⟩ := hr i r hi
  injection e with e
  injection e with e1 e2
  subst e1 e2
  have := hc j u hj
  rw [Nat.zero_add] at this
  refine ⟨this, ?_⟩
  rcases h.1.2 with ⟨h1, _⟩ | ⟨g', c', cur, h1, _, hh, _⟩
  · cases h1
  · injection h1 with h1 _ _
    injection h1 with h1
    injection h1 with h1
    subst h1
    exact Blk.free hh _

set_option maxHeartbeats 1000000 in
theorem cver (t n : Int) (th op : Bool) (w : World) : Calls Tryd.prog 23 #[.int .i64 t, .int .i64 n, .bool th, .bool op] w (Ans w (.agg (enV (mk t n th op)).toArray)) := by
  refine via fun Q hQ => ?_
  cases th
  · go_enter Tryd.func23, Tryd.ntmps23
    go_wp2_with fail
    exact bodyPost_ret (results_cell_row rfl _ _ w.heap.size 39 _ (0, 0) _ rfl (heap_alloc_new w _) Tryd.underlying39 rfl (by kernel_rfl)) rfl (hQ _ _ ⟨rfl, (Below.refl _ _).alloc (Nat.le_refl _) _⟩)
  · go_enter Tryd.func23, Tryd.ntmps23
    go_wp2_with fail
    exact bodyPost_ret (results_cell_row rfl _ _ w.heap.size 39 _ (0, 0) _ rfl (heap_alloc_new w _) Tryd.underlying39 rfl (by kernel_rfl)) rfl (hQ _ _ ⟨rfl, (Below.refl _ _).alloc (Nat.le_refl _) _⟩)

/-- A function value answers whether an index is k at least. -/
def From (g : FuncId) (lb : Array Value) (k n : Nat) (w : World) : Prop :=
  ∀ W, Below w.heap.size w W → ∀ i : Nat, i < n → Calls Tryd.prog g (#[.int .i64 i] ++ lb) W fun e W' => e = .returned (.bool (decide (k ≤ i))) ∧ Below W.heap.size W W'
set_option maxHeartbeats 1000000 in
theorem search_calls (g : FuncId) (lb : Array Value) (eg : ∀ args w, (callFunc g args).run Tryd.prog w = .ok (.enter g args) w) (k n : Nat) (w : World) (hk : k ≤ n) (hn : n ≤ 1000000) (hp : From g lb k n w) :
    Calls Tryd.prog 38 #[.int .i64 n, .func (.func g) #[] lb] w (Ans w (.int .i64 k)) := by
  refine via fun Q hQ => ?_
  have HP := Lib.hid hp
  clear hp
  go_enter Tryd.func38, Tryd.ntmps38
  go_wp2_with fail
  go_loopg [5, 6] n (fun d x y wr => ∃ i j : Nat, i ≤ k ∧ k ≤ j ∧ j ≤ n ∧ d = j - i ∧ x = .int .i64 i ∧ y = .int .i64 j ∧ Below w.heap.size w wr)
  case atStart => exact ⟨0, n, Nat.zero_le _, hk, Nat.le_refl _, rfl, rfl, rfl, Below.refl _ _⟩
  case round =>
    obtain ⟨i, j, h1, h2, h3, rfl, rfl, rfl, hb⟩ := hrel
    have HB := Lib.hid hb
    clear hb
    by_cases hlt : i < j
    · obtain ⟨m, hm⟩ : ∃ m : Nat, m = (i + j) / 2 := ⟨_, rfl⟩
      have hmm : ((i : Int) + (j : Int)) / 2 = (m : Int) := by omega
      have hcall := Lib.hid (HP.out wr HB.out m (by omega))
      have HMM := Lib.hid hmm
      have HM := Lib.hid hm
      clear hmm hm
      go_wp2_with fail
      rw [HMM.out]
      refine hcall.out.mono ?_
      rintro e w2 ⟨rfl, hb2⟩
      have HB2 := Lib.hid (below_then HB.out hb2)
      clear hb2 hcall
      by_cases hd : k ≤ m
      · have hd2 : decide (k ≤ m) = true := by simpa using hd
        go_wp2_with fail
        go_roundg (m - i)
        case measure => have := HM.out; omega
        case rel => exact ⟨i, m, h1, hd, by have := HM.out; omega, rfl, by go_num, by go_num, HB2.out⟩
      · have hd2 : decide (k ≤ m) = false := by simpa using hd
        go_wp2_with fail
        go_roundg (j - (m + 1))
        case measure => have := HM.out; omega
        case rel => exact ⟨m + 1, j, by omega, h2, h3, rfl, by go_num, by go_num, HB2.out⟩
    · obtain rfl : i = k := by omega
      go_wp2
      exact ⟨rfl, HB.out⟩
end Go.Proofs.YtaaijjgaeppmkaaDoor
