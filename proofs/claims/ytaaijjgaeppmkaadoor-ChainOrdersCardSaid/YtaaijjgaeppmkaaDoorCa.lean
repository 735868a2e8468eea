/- The versions of a key: what each call does with them. Plain. -/
namespace Go.Proofs.Cn
structure Ver where
  at_ : Int
  n : Int
  there : Bool
  read : Int
  open_ : Bool
abbrev Vs := List Ver
def mk (t n : Int) (th op : Bool) : Ver := ⟨t, if th then n else 0, th, 0, op⟩
/-- By rising times; an open one was not read. -/
def Ok (vs : Vs) : Prop := vs.Pairwise (fun a b => a.at_ < b.at_) ∧ ∀ v ∈ vs, 0 ≤ v.at_ ∧ v.at_ ≤ 1073741824 ∧ (v.open_ = true → v.read = 0)
/-- How many stand at a time or below. -/
def cnt (vs : Vs) (t : Int) : Nat := vs.countP (fun v => decide (v.at_ ≤ t))
def bad (t : Int) : Prop := t < 1 ∨ t > 1073741824
instance (t : Int) : Decidable (bad t) := by unfold bad; infer_instance
/-- A time's version. -/
def at? (vs : Vs) (t : Int) : Option (Nat × Ver) := if cnt vs t = 0 then none else (vs[cnt vs t - 1]?).map (fun v => (cnt vs t - 1, v))
def rdV (vs : Vs) (t : Int) : Vs × Int × Bool × Int :=
  if bad t then (vs, 0, false, 2) else
  match at? vs t with
  | none => (vs, 0, false, 22)
  | some (k, v) => if v.at_ = t then (vs, v.n, v.there, 0) else if v.open_ then (vs, 0, false, 20) else (vs.set k { v with read := max v.read t }, v.n, v.there, 0)
def wrV (vs : Vs) (t n : Int) (th : Bool) : Vs × Int :=
  if bad t then (vs, 2) else
  match at? vs t with
  | none => (vs, 22)
  | some (k, v) => if v.at_ = t ∧ v.open_ = true then (vs.set k (mk t n th true), 0) else if v.at_ = t ∨ v.read > t then (vs, 22) else (vs.take (k + 1) ++ mk t n th true :: vs.drop (k + 1), 0)
def isO (t : Int) (v : Ver) : Bool := v.open_ && (v.at_ == t)
def opn (vs : Vs) (t : Int) : Option Nat := vs.findIdx? (isO t)
def shut (v : Ver) : Ver := { v with open_ := false }
def cmV (vs : Vs) (t : Int) : Vs × Bool := match opn vs t with | some k => (vs.modify k shut, true) | none => (vs, false)
def abV (vs : Vs) (t : Int) : Vs × Bool := match opn vs t with | some k => (vs.eraseIdx k, true) | none => (vs, false)
def old_ (b : Int) (v : Ver) : Bool := !v.open_ && decide (v.at_ < b)
def prV (b : Int) : Vs → Vs
  | [] => []
  | v :: r => if old_ b v && r.any (old_ b) then prV b r else v :: prV b r
def ltV (vs : Vs) : Int × Bool := match vs.reverse.find? (fun v => !v.open_) with | some v => (v.n, v.there) | none => (0, false)

theorem cnt_le (vs : Vs) (t : Int) : cnt vs t ≤ vs.length := List.countP_le_length
/-- Of rising ones those at a time or below are the first. -/
theorem cnt_lt {vs : Vs} (h : vs.Pairwise (fun a b => a.at_ < b.at_)) (t : Int) : ∀ {i : Nat} {v : Ver}, vs[i]? = some v → (v.at_ ≤ t ↔ i < cnt vs t) := by
  induction vs with
  | nil => intro i v h; simp at h
  | cons x xs ih =>
    rw [List.pairwise_cons] at h
    have e : cnt (x :: xs) t = cnt xs t + if x.at_ ≤ t then 1 else 0 := by
      unfold cnt
      rw [List.countP_cons]
      simp
    intro i v hi
    rw [e]
    cases i with
    | zero =>
      simp only [List.getElem?_cons_zero, Option.some.injEq] at hi
      subst hi
      by_cases hx : x.at_ ≤ t
      · simp [hx]
      · rw [if_neg hx]
        have : cnt xs t = 0 := by
          unfold cnt
          rw [List.countP_eq_zero]
          intro y hy
          have := h.1 y hy
          simp only [decide_eq_true_eq]
          omega
        simp [hx, this]
    | succ i =>
      simp only [List.getElem?_cons_succ] at hi
      have h1 := ih h.2 hi
      have hm := h.1 v (List.mem_of_getElem? hi)
      by_cases hx : x.at_ ≤ t
      · rw [if_pos hx, h1]; omega
      · rw [if_neg hx]
        have : cnt xs t = 0 := by
          unfold cnt
          rw [List.countP_eq_zero]
          intro y hy
          have := h.1 y hy
          simp only [decide_eq_true_eq]
          omega
        rw [this]
        constructor
        · intro h; omega
        · intro h; omega
theorem at_none {vs : Vs} {t : Int} (h : cnt vs t = 0) : at? vs t = none := by rw [at?, if_pos h]
theorem at_some {vs : Vs} {t : Int} (h : cnt vs t ≠ 0) : ∃ v, vs[cnt vs t - 1]? = some v ∧ at? vs t = some (cnt vs t - 1, v) := by
  have hl := cnt_le vs t
  have hlt : cnt vs t - 1 < vs.length := by omega
  exact ⟨vs[cnt vs t - 1], List.getElem?_eq_getElem hlt, by rw [at?, if_neg h, List.getElem?_eq_getElem hlt]; rfl⟩
theorem at_inv {vs : Vs} {t : Int} {k : Nat} {v : Ver} (h : at? vs t = some (k, v)) : cnt vs t = k + 1 ∧ vs[k]? = some v := by
  unfold at? at h
  by_cases h0 : cnt vs t = 0
  · rw [if_pos h0] at h; cases h
  · rw [if_neg h0] at h
    obtain ⟨x, hx, he⟩ := Option.map_eq_some_iff.1 h
    injection he with e1 e2
    subst e1 e2
    exact ⟨by omega, hx⟩

theorem opn_some {vs : Vs} {t : Int} {k : Nat} (h : opn vs t = some k) : ∃ hk : k < vs.length, isO t vs[k] = true ∧ ∀ j (hj : j < k), isO t (vs[j]'(by omega)) = false := by
  obtain ⟨h1, h2, h3⟩ := List.findIdx?_eq_some_iff_getElem.1 h
  exact ⟨h1, h2, fun j hj => by simpa using h3 j hj⟩
theorem opn_none {vs : Vs} {t : Int} (h : opn vs t = none) : ∀ v ∈ vs, isO t v = false := by
  intro v hv
  exact List.findIdx?_eq_none_iff.1 h v hv

theorem pair_set {vs : Vs} (h : vs.Pairwise (fun a b => a.at_ < b.at_)) {k : Nat} {v u : Ver} (hk : vs[k]? = some v) (he : u.at_ = v.at_) : (vs.set k u).Pairwise (fun a b => a.at_ < b.at_) := by
  rw [List.pairwise_iff_getElem] at h ⊢
  intro i j hi hj hij
  simp only [List.length_set] at hi hj
  have hkl := (List.getElem?_eq_some_iff.1 hk).1
  have hkv := (List.getElem?_eq_some_iff.1 hk).2
  have hb := h i j hi hj hij
  rw [List.getElem_set, List.getElem_set]
  split
  · rename_i h1
    subst h1
    rw [if_neg (by omega), he]
    rw [hkv] at hb
    exact hb
  · split
    · rename_i h1
      subst h1
      rw [he]
      rw [hkv] at hb
      exact hb
    · exact hb
theorem mem_set {vs : Vs} {k : Nat} {u x : Ver} (h : x ∈ vs.set k u) : x ∈ vs ∨ x = u := List.mem_or_eq_of_mem_set h
theorem ok_set {vs : Vs} (h : Ok vs) {k : Nat} {v u : Ver} (hk : vs[k]? = some v) (he : u.at_ = v.at_) (ho : u.open_ = true → u.read = 0) : Ok (vs.set k u) := by
  refine ⟨pair_set h.1 hk he, fun x hx => ?_⟩
  rcases mem_set hx with hx | rfl
  · exact h.2 x hx
  · have := h.2 v (List.mem_of_getElem? hk)
    exact ⟨by rw [he]; exact this.1, by rw [he]; exact this.2.1, ho⟩
theorem ok_ins {vs : Vs} (h : Ok vs) {t : Int} (hb : ¬ bad t) {k : Nat} {v u : Ver} (hk : vs[k]? = some v) (hc : cnt vs t = k + 1) (hne : v.at_ ≠ t) (hu : u.at_ = t) (ho : u.open_ = true → u.read = 0) : Ok (vs.take (k + 1) ++ u :: vs.drop (k + 1)) := by
  unfold bad at hb
  refine ⟨?_, fun x hx => ?_⟩
  · have hp := h.1
    rw [← List.take_append_drop (k + 1) vs, List.pairwise_append] at hp
    rw [List.pairwise_append, List.pairwise_cons]
    have hlow : ∀ x ∈ vs.take (k + 1), x.at_ < t := by
      intro x hx
      obtain ⟨i, hi, rfl⟩ := List.mem_iff_getElem.1 hx
      have hi' : i < k + 1 ∧ i < vs.length := by rw [List.length_take] at hi; omega
      rw [List.getElem_take]
      have h1 := (cnt_lt h.1 t (List.getElem?_eq_getElem hi'.2)).2 (by rw [hc]; exact hi'.1)
      by_cases hik : i = k
      · subst hik
        have := (List.getElem?_eq_some_iff.1 hk).2
        rw [this] at h1 ⊢
        omega
      · have := (List.pairwise_iff_getElem.1 h.1) i k hi'.2 (List.getElem?_eq_some_iff.1 hk).1 (by omega)
        have h2 := (cnt_lt h.1 t hk).2 (by omega)
        rw [(List.getElem?_eq_some_iff.1 hk).2] at this
        omega
    have hhigh : ∀ x ∈ vs.drop (k + 1), t < x.at_ := by
      intro x hx
      obtain ⟨i, hi, rfl⟩ := List.mem_iff_getElem.1 hx
      rw [List.length_drop] at hi
      rw [List.getElem_drop]
      have h1 := cnt_lt h.1 t (List.getElem?_eq_getElem (show k + 1 + i < vs.length by omega))
      rw [hc] at h1
      have : ¬ (vs[k + 1 + i].at_ ≤ t) := fun hh => by have := h1.1 hh; omega
      omega
    refine ⟨hp.1, ⟨fun x hx => by rw [hu]; exact hhigh x hx, hp.2.1⟩, fun a ha b hb => ?_⟩
    rcases List.mem_cons.1 hb with rfl | hb
    · rw [hu]; exact hlow a ha
    · exact hp.2.2 a ha b hb
  · rcases List.mem_append.1 hx with hx | hx
    · exact h.2 x (List.mem_of_mem_take hx)
    · rcases List.mem_cons.1 hx with rfl | hx
      · exact ⟨by omega, by omega, ho⟩
      · exact h.2 x (List.mem_of_mem_drop hx)
theorem ok_rd {vs : Vs} (h : Ok vs) (t : Int) : Ok (rdV vs t).1 := by
  unfold rdV
  split
  · exact h
  · split
    · exact h
    · rename_i k v hv
      obtain ⟨_, hk⟩ := at_inv hv
      split
      · exact h
      · split
        · exact h
        · rename_i ho
          exact ok_set h hk rfl (fun e => absurd e ho)
theorem ok_wr {vs : Vs} (h : Ok vs) (t n : Int) (th : Bool) : Ok (wrV vs t n th).1 := by
  unfold wrV
  split
  · exact h
  · rename_i hb
    split
    · exact h
    · rename_i k v hv
      obtain ⟨hc, hk⟩ := at_inv hv
      split
      · rename_i he
        exact ok_set h hk he.1.symm (fun _ => rfl)
      · split
        · exact h
        · rename_i hne
          exact ok_ins h hb hk hc (fun e => hne (.inl e)) rfl (fun _ => rfl)
theorem modify_set {vs : Vs} {k : Nat} (f : Ver → Ver) (hk : k < vs.length) : vs.modify k f = vs.set k (f vs[k]) := by
  apply List.ext_getElem?
  intro i
  rw [List.getElem?_modify, List.getElem?_set]
  by_cases h : k = i
  · subst h; simp [hk]
  · simp [h]
theorem ok_cm {vs : Vs} (h : Ok vs) (t : Int) : Ok (cmV vs t).1 := by
  unfold cmV
  split
  · rename_i k hk
    obtain ⟨hl, _⟩ := opn_some hk
    show Ok (vs.modify k shut)
    rw [modify_set _ hl]
    exact ok_set h (List.getElem?_eq_getElem hl) rfl (fun e => by cases e)
  · exact h
theorem ok_ab {vs : Vs} (h : Ok vs) (t : Int) : Ok (abV vs t).1 := by
  unfold abV
  split
  · exact ⟨h.1.sublist (List.eraseIdx_sublist _ _), fun x hx => h.2 x (List.mem_of_mem_eraseIdx hx)⟩
  · exact h
theorem prV_sub (b : Int) : ∀ vs : Vs, (prV b vs).Sublist vs
  | [] => List.Sublist.refl _
  | v :: r => by
    rw [prV]
    split
    · exact (prV_sub b r).cons _
    · exact (prV_sub b r).cons_cons _
theorem ok_pr {vs : Vs} (h : Ok vs) (b : Int) : Ok (prV b vs) := ⟨h.1.sublist (prV_sub b vs), fun x hx => h.2 x ((prV_sub b vs).subset hx)⟩
theorem len_rd (vs : Vs) (t : Int) : (rdV vs t).1.length = vs.length := by
  unfold rdV
  split
  · rfl
  · split
    · rfl
    · split
      · rfl
      · split
        · rfl
        · simp
theorem len_wr (vs : Vs) (t n : Int) (th : Bool) : (wrV vs t n th).1.length ≤ vs.length + 1 := by
  unfold wrV
  split
  · simp
  · split
    · simp
    · split
      · simp
      · split
        · simp
        · simp only [List.length_append, List.length_cons, List.length_take, List.length_drop]; omega
theorem len_cm (vs : Vs) (t : Int) : (cmV vs t).1.length = vs.length := by
  unfold cmV
  split
  · simp
  · rfl
theorem len_ab (vs : Vs) (t : Int) : (abV vs t).1.length ≤ vs.length := by
  unfold abV
  split
  · exact (List.eraseIdx_sublist _ _).length_le
  · simp
theorem len_pr (b : Int) (vs : Vs) : (prV b vs).length ≤ vs.length := (prV_sub b vs).length_le
theorem ok_new (n : Int) (th : Bool) : Ok [mk 0 n th false] := ⟨by simp, fun v hv => by simp at hv; subst hv; exact ⟨Int.le_refl 0, (by decide : (0 : Int) ≤ 1073741824), fun e => by cases e⟩⟩
end Go.Proofs.Cn
