/- Graphs of edges: what is reached, circles, orders: as functions. -/
import Derived.Test.YtoimhigpbmabeaaWm
set_option linter.unusedVariables false
namespace Go.Proofs.Wm

def ins (x : Int) : List Int → List Int
  | [] => [x]
  | y :: l => if x < y then x :: y :: l else if x = y then y :: l else y :: ins x l
def insAll (l : List Int) : List Int := l.foldl (fun o x => ins x o) []
theorem mem_ins {x y : Int} {l : List Int} : y ∈ ins x l ↔ y = x ∨ y ∈ l := by
  induction l with
  | nil => simp [ins]
  | cons z l ih =>
    unfold ins
    split
    · simp
    · split
      · rename_i h; subst h; simp
      · simp [ih]; constructor
        · rintro (h | h | h) <;> simp_all
        · rintro (h | h | h) <;> simp_all
theorem srt_ins {x : Int} {l : List Int} (h : l.Pairwise (· < ·)) : (ins x l).Pairwise (· < ·) := by
  induction l with
  | nil => simp [ins]
  | cons z l ih =>
    rw [List.pairwise_cons] at h
    unfold ins
    split
    · rename_i h1
      rw [List.pairwise_cons, List.pairwise_cons]
      refine ⟨fun y hy => ?_, h⟩
      rcases List.mem_cons.1 hy with rfl | hy
      · exact h1
      · have := h.1 y hy; omega
    · split
      · rw [List.pairwise_cons]; exact h
      · rw [List.pairwise_cons]
        refine ⟨fun y hy => ?_, ih h.2⟩
        rcases mem_ins.1 hy with rfl | hy
        · omega
        · exact h.1 y hy
theorem insAll_spec (l : List Int) : (insAll l).Pairwise (· < ·) ∧ ∀ x, x ∈ insAll l ↔ x ∈ l := by
  have H : ∀ (l o : List Int), o.Pairwise (· < ·) → (l.foldl (fun o x => ins x o) o).Pairwise (· < ·) ∧ ∀ x, x ∈ l.foldl (fun o x => ins x o) o ↔ x ∈ l ∨ x ∈ o := by
    intro l
    induction l with
    | nil => intro o ho; exact ⟨ho, fun x => by simp⟩
    | cons y l ih =>
      intro o ho
      obtain ⟨h1, h2⟩ := ih (ins y o) (srt_ins ho)
      refine ⟨h1, fun x => ?_⟩
      rw [List.foldl_cons, h2 x, mem_ins, List.mem_cons]
      constructor
      · rintro (h | h | h) <;> simp [h]
      · rintro ((h | h) | h) <;> simp [h]
  obtain ⟨h1, h2⟩ := H l [] List.Pairwise.nil
  exact ⟨h1, fun x => by rw [insAll, h2 x]; simp⟩
theorem srt_ext : ∀ {l k : List Int}, l.Pairwise (· < ·) → k.Pairwise (· < ·) → (∀ x, x ∈ l ↔ x ∈ k) → l = k
  | [], [], _, _, _ => rfl
  | [], y :: k, _, _, h => by have := (h y).2 (by simp); cases this
  | x :: l, [], _, _, h => by have := (h x).1 (by simp); cases this
  | x :: l, y :: k, hl, hk, h => by
    rw [List.pairwise_cons] at hl hk
    have hxy : x = y := by
      rcases List.mem_cons.1 ((h x).1 (by simp)) with h1 | h1
      · exact h1
      · rcases List.mem_cons.1 ((h y).2 (by simp)) with h2 | h2
        · exact h2.symm
        · have := hl.1 y h2; have := hk.1 x h1; omega
    subst hxy
    rw [srt_ext hl.2 hk.2 (fun z => ?_)]
    constructor
    · intro hz
      have h1 := hl.1 z hz
      rcases List.mem_cons.1 ((h z).1 (by simp [hz])) with h2 | h2
      · omega
      · exact h2
    · intro hz
      have h1 := hk.1 z hz
      rcases List.mem_cons.1 ((h z).2 (by simp [hz])) with h2 | h2
      · omega
      · exact h2

def dfs (es : Es) : Nat → List Int → List Int → List Int
  | 0, seen, _ => seen
  | _ + 1, seen, [] => seen
  | k + 1, seen, x :: r => if x ∈ seen then dfs es k seen r else dfs es k (seen ++ [x]) (r ++ succs es x)
theorem Inv.ext {es : Es} {a : Int} {seen next next' : List Int} (h : Inv es a seen next) (hm : ∀ y, y ∈ next ↔ y ∈ next') : Inv es a seen next' :=
  ⟨h.s, fun x hx => h.n x ((hm x).2 hx), fun b hb => (h.r b hb).imp_right (hm b).1, fun x hx b hb => (h.c x hx b hb).imp_right (hm b).1, h.d⟩
theorem dfs_end (es : Es) (a : Int) : ∀ (k : Nat) (seen next : List Int), Inv es a seen next → work es seen next < k → ∀ x, x ∈ dfs es k seen next ↔ TC es a x
  | 0, _, _, _, h => by omega
  | k + 1, seen, [], hi, _ => by intro x; unfold dfs; exact inv_end hi x
  | k + 1, seen, y :: r, hi, hk => by
    have hi2 : Inv es a seen (r ++ [y]) := hi.ext (fun z => by simp; exact or_comm)
    have hw : work es seen (y :: r) = work es seen (r ++ [y]) := by simp [work]
    unfold dfs
    split
    · rename_i hy
      exact dfs_end es a k seen r (inv_old hi2 hy) (by have := work_old es seen r y; omega)
    · rename_i hy
      refine dfs_end es a k _ _ (inv_new hi2 hy) ?_
      have := work_new (next := r) (hi.n y (by simp)).mem hy
      omega
/-- Those for whom one waits, by and by, rising. -/
def reachL (es : Es) (a : Int) : List Int := insAll (dfs es (work es [] (succs es a) + 1) [] (succs es a))
theorem srt_reachL (es : Es) (a : Int) : (reachL es a).Pairwise (· < ·) := (insAll_spec _).1
theorem mem_reachL {es : Es} {a x : Int} : x ∈ reachL es a ↔ TC es a x := by
  rw [reachL, (insAll_spec _).2 x]
  exact dfs_end es a _ _ _ (inv_start es a) (by omega) x
def allL (es : Es) : List Int := insAll (nodes es)
theorem srt_allL (es : Es) : (allL es).Pairwise (· < ·) := (insAll_spec _).1
theorem mem_allL {es : Es} {x : Int} : x ∈ allL es ↔ x ∈ nodes es := (insAll_spec _).2 x
/-- Those that stand in a circle. -/
def circL (es : Es) : List Int := (allL es).filter fun x => (reachL es x).contains x
theorem srt_circL (es : Es) : (circL es).Pairwise (· < ·) := (srt_allL es).filter _
theorem mem_circL {es : Es} {x : Int} : x ∈ circL es ↔ TC es x x := by
  simp only [circL, List.mem_filter, List.contains_iff_mem, mem_reachL, mem_allL]
  exact ⟨fun h => h.2, fun h => ⟨by obtain ⟨e, he, hx⟩ := List.mem_map.1 h.mem; exact mem_nodes.2 ⟨e, he, .inr hx.symm⟩, h⟩⟩
end Go.Proofs.Wm
namespace Go.Proofs.Wm
/-- May one come next? -/
def free (es : Es) (done : List Int) (x : Int) : Bool := (succs es x).all fun t => done.contains t
def ordLoop (es : Es) : Nat → List Int → List Int → List Int × Bool
  | 0, _, _ => ([], false)
  | k + 1, left, done => if left = [] then (done, true) else match left.findIdx? (free es done) with
    | none => ([], false)
    | some i => ordLoop es k (left.eraseIdx i) (done ++ [left.getD i 0])
/-- Nobody ahead of one for whom it waits. -/
def ordL (es : Es) : List Int × Bool := ordLoop es ((allL es).length + 1) (allL es) []
end Go.Proofs.Wm
namespace Go.Proofs.Wm
section
variable {es es' : Es} (h : ∀ e, e ∈ es ↔ e ∈ es')
include h
theorem same_tc1 {a b : Int} (k : TC es a b) : TC es' a b := by
  induction k with
  | one h1 => exact .one ((h _).1 h1)
  | more _ h1 ih => exact ih.more ((h _).1 h1)
theorem same_tc {a b : Int} : TC es a b ↔ TC es' a b := ⟨same_tc1 h, same_tc1 (fun e => (h e).symm)⟩
theorem same_reach (a : Int) : reachL es a = reachL es' a := srt_ext (srt_reachL _ _) (srt_reachL _ _) (fun x => by rw [mem_reachL, mem_reachL, same_tc h])
theorem same_circ : circL es = circL es' := srt_ext (srt_circL _) (srt_circL _) (fun x => by rw [mem_circL, mem_circL, same_tc h])
theorem same_all : allL es = allL es' := srt_ext (srt_allL _) (srt_allL _) (fun x => by
  rw [mem_allL, mem_allL, mem_nodes, mem_nodes]
  exact ⟨fun ⟨e, he, hx⟩ => ⟨e, (h e).1 he, hx⟩, fun ⟨e, he, hx⟩ => ⟨e, (h e).2 he, hx⟩⟩)
theorem same_free (done : List Int) : free es done = free es' done := by
  funext x
  rw [Bool.eq_iff_iff, free, free, List.all_eq_true, List.all_eq_true]
  exact ⟨fun hh t ht => hh t (mem_succs.2 ((h _).2 (mem_succs.1 ht))), fun hh t ht => hh t (mem_succs.2 ((h _).1 (mem_succs.1 ht)))⟩
theorem same_loop : ∀ (k : Nat) (left done : List Int), ordLoop es k left done = ordLoop es' k left done
  | 0, _, _ => rfl
  | k + 1, left, done => by
    unfold ordLoop
    rw [same_free h done]
    split
    · rfl
    · split
      · rfl
      · exact same_loop k _ _
theorem same_ord : ordL es = ordL es' := by unfold ordL; rw [same_all h, same_loop h]
end
theorem nodup_len : ∀ {l k : List Int}, l.Nodup → (∀ x ∈ l, x ∈ k) → l.length ≤ k.length
  | [], _, _, _ => Nat.zero_le _
  | x :: l, k, hn, hk => by
    rw [List.nodup_cons] at hn
    have hx := hk x (by simp)
    have := nodup_len (l := l) (k := k.erase x) hn.2 (fun y hy => (List.mem_erase_of_ne (fun e => hn.1 (by rw [← e]; exact hy))).2 (hk y (by simp [hy])))
    rw [List.length_erase_of_mem hx] at this
    have : 0 < k.length := List.length_pos_of_mem hx
    simp only [List.length_cons]; omega
theorem reachL_len (es : Es) (a : Int) : (reachL es a).length ≤ es.length := by
  have h1 : (reachL es a).Nodup := (srt_reachL es a).imp (fun h => by omega)
  have h2 : ∀ x ∈ reachL es a, x ∈ es.map (·.2) := fun x hx => (mem_reachL.1 hx).mem
  have := nodup_len h1 h2
  simpa using this
end Go.Proofs.Wm
