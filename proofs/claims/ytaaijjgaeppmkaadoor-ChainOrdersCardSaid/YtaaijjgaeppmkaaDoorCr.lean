/- Chapter 13's laws, plainly: what is pruned changes nothing that is read from there on; each reads what it wrote, or what the last one below holds in the end. -/
import Derived.Test.YtaaijjgaeppmkaaDoorCa
namespace Go.Proofs.Cn
set_option linter.unusedVariables false

/-- The last version at a time or below. -/
def la (t : Int) : Vs → Option Ver
  | [] => none
  | v :: r => match la t r with | some x => some x | none => if v.at_ ≤ t then some v else none
theorem la_none {t : Int} : ∀ {vs : Vs}, (∀ v ∈ vs, ¬ v.at_ ≤ t) → la t vs = none
  | [], _ => rfl
  | v :: r, h => by
    have ih := la_none (vs := r) (fun x hx => h x (List.mem_cons_of_mem _ hx))
    simp only [la, ih]
    rw [if_neg (h v List.mem_cons_self)]
theorem la_some {t : Int} : ∀ {vs : Vs} {k : Nat} {x : Ver}, vs[k]? = some x → x.at_ ≤ t → (∀ j y, k < j → vs[j]? = some y → ¬ y.at_ ≤ t) → la t vs = some x
  | [], k, x, h, _, _ => by simp at h
  | v :: r, 0, x, h, hx, hn => by
    simp only [List.getElem?_cons_zero, Option.some.injEq] at h
    subst h
    have : la t r = none := la_none (fun y hy => by
      obtain ⟨j, hj⟩ := List.mem_iff_getElem?.1 hy
      exact hn (j + 1) y (by omega) (by simpa using hj))
    simp only [la, this]
    rw [if_pos hx]
  | v :: r, k + 1, x, h, hx, hn => by
    have ih := la_some (vs := r) (k := k) (x := x) (by simpa using h) hx (fun j y hj hy => hn (j + 1) y (by omega) (by simpa using hy))
    simp only [la, ih]
theorem la_at {vs : Vs} (h : vs.Pairwise (fun a b => a.at_ < b.at_)) (t : Int) : (at? vs t).map (·.2) = la t vs := by
  by_cases h0 : cnt vs t = 0
  · rw [at_none h0, la_none]
    · rfl
    · intro v hv
      obtain ⟨i, hi⟩ := List.mem_iff_getElem?.1 hv
      rw [cnt_lt h t hi, h0]
      omega
  · obtain ⟨x, hx, he⟩ := at_some h0
    rw [he, la_some hx ((cnt_lt h t hx).2 (by omega)) (fun j y hj hy => by rw [cnt_lt h t hy]; omega)]
    rfl
/-- What a Read answers. -/
def ansR (t : Int) (o : Option Ver) : Int × Bool × Int :=
  if bad t then (0, false, 2) else match o with | none => (0, false, 22) | some v => if v.at_ = t then (v.n, v.there, 0) else if v.open_ then (0, false, 20) else (v.n, v.there, 0)
theorem rd_ans {vs : Vs} (h : vs.Pairwise (fun a b => a.at_ < b.at_)) (t : Int) : (rdV vs t).2 = ansR t (la t vs) := by
  rw [← la_at h t]
  unfold rdV ansR
  by_cases hb : bad t
  · rw [if_pos hb, if_pos hb]
  · rw [if_neg hb, if_neg hb]
    cases at? vs t with
    | none => rfl
    | some kv =>
      obtain ⟨k, v⟩ := kv
      simp only [Option.map_some]
      split
      · rfl
      · split <;> rfl
theorem la_pr {b t : Int} (h : b ≤ t) : ∀ vs : Vs, la t (prV b vs) = la t vs
  | [] => rfl
  | v :: r => by
    have ih := la_pr h r
    rw [prV]
    split
    · rename_i hc
      rw [ih]
      have ha : r.any (old_ b) = true := by revert hc; cases old_ b v <;> simp
      obtain ⟨u, hu, ho⟩ := List.any_eq_true.1 ha
      have hut : u.at_ ≤ t := by
        unfold old_ at ho
        simp only [Bool.and_eq_true, decide_eq_true_eq] at ho
        omega
      cases hl : la t r with
      | some x => simp only [la, hl]
      | none =>
        exfalso
        clear ih hc ha
        induction r with
        | nil => cases hu
        | cons y ys ih2 =>
          simp only [la] at hl
          cases hy : la t ys with
          | some z => rw [hy] at hl; cases hl
          | none =>
            rw [hy] at hl
            simp only at hl
            rcases List.mem_cons.1 hu with rfl | hu
            · rw [if_pos hut] at hl; cases hl
            · exact ih2 hu hy
    · simp only [la, ih]
/-- What is pruned changes nothing that a time from there on reads. -/
theorem rd_pr {vs : Vs} (h : Ok vs) {b t : Int} (hbt : b ≤ t) : (rdV (prV b vs) t).2 = (rdV vs t).2 := by
  rw [rd_ans (ok_pr h b).1 t, rd_ans h.1 t, la_pr hbt]

structure Gt where
  at_ : Int
  n : Int
  there : Bool
abbrev Gs := List Gt
def ownG (l : Gs) (a : Int) : Option Gt := l.find? (fun g => g.at_ == a)
def outG (l : Gs) (a : Int) : Gs := l.filter (fun g => g.at_ != a)
theorem own_out_ne (l : Gs) {a c : Int} (h : c ≠ a) : ownG (outG l a) c = ownG l c := by
  unfold ownG outG
  rw [List.find?_filter]
  congr 1
  funext g
  by_cases hg : g.at_ = c
  · subst hg; simp [h]
  · simp [hg]
theorem own_out_self (l : Gs) (a : Int) : ownG (outG l a) a = none := by
  unfold ownG outG
  rw [List.find?_eq_none]
  intro g hg
  have := (List.mem_filter.1 hg).2
  simpa using this
theorem own_snoc_self (l : Gs) (g : Gt) : ownG (outG l g.at_ ++ [g]) g.at_ = some g := by
  have := own_out_self l g.at_
  unfold ownG at *
  rw [List.find?_append, this]
  simp
theorem own_snoc_ne (l : Gs) (g : Gt) {c : Int} (h : c ≠ g.at_) : ownG (outG l g.at_ ++ [g]) c = ownG l c := by
  rw [← own_out_ne l h]
  unfold ownG
  rw [List.find?_append]
  have : List.find? (fun x => x.at_ == c) [g] = none := by simp [Ne.symm h]
  rw [this]
  simp
theorem own_mem {l : Gs} {a : Int} {g : Gt} (h : ownG l a = some g) : g ∈ l ∧ g.at_ = a := ⟨List.mem_of_find?_eq_some h, by simpa using List.find?_some h⟩

theorem ver_uniq {vs : Vs} (h : Ok vs) {v u : Ver} (hv : v ∈ vs) (hu : u ∈ vs) (he : v.at_ = u.at_) : v = u := by
  obtain ⟨i, hi, rfl⟩ := List.mem_iff_getElem.1 hv
  obtain ⟨j, hj, rfl⟩ := List.mem_iff_getElem.1 hu
  have hp := List.pairwise_iff_getElem.1 h.1
  rcases Nat.lt_trichotomy i j with hij | rfl | hij
  · have := hp i j hi hj hij; omega
  · rfl
  · have := hp j i hj hi hij; omega
structure Inv (vs : Vs) (wr gt : Gs) : Prop where
  ok : Ok vs
  zero : ∃ v ∈ vs, v.at_ = 0 ∧ v.open_ = false
  own : ∀ v ∈ vs, 1 ≤ v.at_ → ownG wr v.at_ = some ⟨v.at_, v.n, v.there⟩
  has : ∀ g ∈ wr, ∃ v ∈ vs, v.at_ = g.at_
  got : ∀ g ∈ gt, ∃ v ∈ vs, v.open_ = false ∧ v.at_ < g.at_ ∧ g.at_ ≤ v.read ∧ v.n = g.n ∧ v.there = g.there ∧ ∀ u ∈ vs, u.at_ < g.at_ → u.at_ ≤ v.at_
theorem inv_new (n : Int) (th : Bool) : Inv [mk 0 n th false] [] [] := ⟨ok_new n th, ⟨_, List.mem_cons_self, rfl, rfl⟩, fun v hv h1 => (by simp at hv; subst hv; exact absurd h1 (by decide : ¬ (1 : Int) ≤ 0)), fun g h => (by cases h), fun g h => (by cases h)⟩

theorem mem_set_of {vs : Vs} {k : Nat} {x : Ver} (hk : vs[k]? = some x) (u : Ver) : u ∈ vs.set k u ∧ (∀ w ∈ vs, w = x ∨ w ∈ vs.set k u) ∧ (∀ w ∈ vs.set k u, w = u ∨ w ∈ vs) := by
  have hkl := (List.getElem?_eq_some_iff.1 hk).1
  have hkv := (List.getElem?_eq_some_iff.1 hk).2
  refine ⟨List.mem_iff_getElem.2 ⟨k, by simpa using hkl, by simp⟩, fun w hw => ?_, fun w hw => (mem_set hw).symm⟩
  obtain ⟨i, hi, rfl⟩ := List.mem_iff_getElem.1 hw
  by_cases h : k = i
  · subst h; exact .inl hkv
  · exact .inr (List.mem_iff_getElem.2 ⟨i, by simpa using hi, by rw [List.getElem_set_ne h]⟩)
theorem at_last {vs : Vs} (h : Ok vs) {t : Int} {k : Nat} {x : Ver} (ha : at? vs t = some (k, x)) : x ∈ vs ∧ x.at_ ≤ t ∧ ∀ u ∈ vs, u.at_ ≤ t → u.at_ ≤ x.at_ := by
  obtain ⟨hc, hk⟩ := at_inv ha
  refine ⟨List.mem_of_getElem? hk, (cnt_lt h.1 t hk).2 (by omega), fun u hu hut => ?_⟩
  obtain ⟨i, hi⟩ := List.mem_iff_getElem?.1 hu
  have := (cnt_lt h.1 t hi).1 hut
  by_cases hik : i = k
  · subst hik; rw [hi] at hk; injection hk with e; subst e; exact Int.le_refl _
  · have := (List.pairwise_iff_getElem.1 h.1) i k (List.getElem?_eq_some_iff.1 hi).1 (List.getElem?_eq_some_iff.1 hk).1 (by omega)
    rw [(List.getElem?_eq_some_iff.1 hi).2, (List.getElem?_eq_some_iff.1 hk).2] at this
    omega
/-- A Read that is answered: either it is one's own, or it is kept. -/
theorem inv_read {vs : Vs} {wr gt : Gs} (h : Inv vs wr gt) (a : Int) (hc : (rdV vs a).2.2.2 = 0) :
    (∃ g, ownG wr a = some g ∧ (rdV vs a).2.1 = g.n ∧ (rdV vs a).2.2.1 = g.there ∧ Inv (rdV vs a).1 wr gt) ∨
    (ownG wr a = none ∧ Inv (rdV vs a).1 wr (gt ++ [⟨a, (rdV vs a).2.1, (rdV vs a).2.2.1⟩])) := by
  by_cases hb : bad a
  · rw [rdV, if_pos hb] at hc; cases hc
  · cases hat : at? vs a with
    | none => rw [rdV, if_neg hb, hat] at hc; cases hc
    | some kx =>
      obtain ⟨k, x⟩ := kx
      obtain ⟨hx, hxa, hmax⟩ := at_last h.ok hat
      obtain ⟨_, hk⟩ := at_inv hat
      have ha1 : 1 ≤ a := by unfold bad at hb; omega
      have hrd : rdV vs a = if x.at_ = a then (vs, x.n, x.there, 0) else if x.open_ = true then (vs, 0, false, 20) else (vs.set k { x with read := max x.read a }, x.n, x.there, 0) := by rw [rdV, if_neg hb, hat]
      by_cases he : x.at_ = a
      · rw [hrd, if_pos he]
        left
        subst he
        exact ⟨_, h.own x hx ha1, rfl, rfl, h⟩
      · cases ho : x.open_ with
        | true => rw [hrd, if_neg he, if_pos ho] at hc; cases hc
        | false =>
          rw [hrd, if_neg he, if_neg (by rw [ho]; exact fun h => by cases h)]
          right
          obtain ⟨hu1, hu2, hu3⟩ := mem_set_of hk { x with read := max x.read a }
          have hlt : x.at_ < a := by omega
          refine ⟨?_, ⟨ok_set h.ok hk rfl (fun e => by rw [ho] at e; cases e), ?_, ?_, ?_, ?_⟩⟩
          · cases hw : ownG wr a with
            | none => rfl
            | some g =>
              obtain ⟨hg, hga⟩ := own_mem hw
              obtain ⟨v, hv, hva⟩ := h.has g hg
              have := hmax v hv (by omega)
              omega
          · obtain ⟨v, hv, h0, h1⟩ := h.zero
            rcases hu2 v hv with rfl | hv
            · exact ⟨_, hu1, h0, h1⟩
            · exact ⟨v, hv, h0, h1⟩
          · intro v hv h1
            rcases hu3 v hv with rfl | hv
            · exact h.own x hx h1
            · exact h.own v hv h1
          · intro g hg
            obtain ⟨v, hv, hva⟩ := h.has g hg
            rcases hu2 v hv with rfl | hv
            · exact ⟨_, hu1, hva⟩
            · exact ⟨v, hv, hva⟩
          · intro g hg
            rcases List.mem_append.1 hg with hg | hg
            · obtain ⟨v, hv, h1, h2, h3, h4, h5, h6⟩ := h.got g hg
              have h6' : ∀ u ∈ vs.set k { x with read := max x.read a }, u.at_ < g.at_ → u.at_ ≤ v.at_ := fun u hu hua => by
                rcases hu3 u hu with rfl | hu
                · exact h6 x hx hua
                · exact h6 u hu hua
              rcases hu2 v hv with rfl | hv'
              · exact ⟨_, hu1, h1, h2, by show g.at_ ≤ max v.read a; omega, h4, h5, h6'⟩
              · exact ⟨v, hv', h1, h2, h3, h4, h5, h6'⟩
            · simp at hg
              subst hg
              refine ⟨_, hu1, ho, hlt, by show a ≤ max x.read a; omega, rfl, rfl, fun u hu hua => ?_⟩
              rcases hu3 u hu with rfl | hu
              · exact Int.le_refl _
              · exact hmax u hu (by show u.at_ ≤ a; have : u.at_ < a := hua; omega)
/-- A Read that is not answered changes nothing. -/
theorem rd_bad {vs : Vs} {a : Int} (hc : (rdV vs a).2.2.2 ≠ 0) : (rdV vs a).1 = vs := by
  unfold rdV at *
  by_cases hb : bad a
  · rw [if_pos hb]
  · rw [if_neg hb] at hc ⊢
    cases hat : at? vs a with
    | none => rfl
    | some kx =>
      obtain ⟨k, x⟩ := kx
      rw [hat] at hc
      simp only at hc ⊢
      split at hc
      · exact absurd rfl hc
      · rename_i h1
        rw [if_neg h1]
        split at hc
        · rename_i h2; rw [if_pos h2]
        · exact absurd rfl hc
theorem wr_bad {vs : Vs} {a n : Int} {th : Bool} (hc : (wrV vs a n th).2 ≠ 0) : (wrV vs a n th).1 = vs := by
  unfold wrV at *
  by_cases hb : bad a
  · rw [if_pos hb]
  · rw [if_neg hb] at hc ⊢
    cases hat : at? vs a with
    | none => rfl
    | some kx =>
      obtain ⟨k, x⟩ := kx
      rw [hat] at hc
      simp only at hc ⊢
      split at hc
      · exact absurd rfl hc
      · rename_i h1
        rw [if_neg h1]
        split at hc
        · rename_i h2; rw [if_pos h2]
        · exact absurd rfl hc
theorem inv_write {vs : Vs} {wr gt : Gs} (h : Inv vs wr gt) (a n : Int) (th : Bool) (hc : (wrV vs a n th).2 = 0) :
    Inv (wrV vs a n th).1 (outG wr a ++ [⟨a, if th then n else 0, th⟩]) gt := by
  have hok := ok_wr h.ok a n th
  by_cases hb : bad a
  · rw [wrV, if_pos hb] at hc; cases hc
  · cases hat : at? vs a with
    | none => rw [wrV, if_neg hb, hat] at hc; cases hc
    | some kx =>
      obtain ⟨k, x⟩ := kx
      obtain ⟨hx, hxa, hmax⟩ := at_last h.ok hat
      obtain ⟨_, hk⟩ := at_inv hat
      have ha1 : 1 ≤ a := by unfold bad at hb; omega
      have hwr : wrV vs a n th = if x.at_ = a ∧ x.open_ = true then (vs.set k (mk a n th true), 0) else if x.at_ = a ∨ x.read > a then (vs, 22) else (vs.take (k + 1) ++ mk a n th true :: vs.drop (k + 1), 0) := by rw [wrV, if_neg hb, hat]
      rw [hwr] at hok hc ⊢
      -- what the new list of those that wrote says of a version of the new one
      have hown : ∀ (ws : Vs), Ok ws → mk a n th true ∈ ws → (∀ w ∈ ws, w = mk a n th true ∨ w ∈ vs) → ∀ v ∈ ws, 1 ≤ v.at_ → ownG (outG wr a ++ [⟨a, if th then n else 0, th⟩]) v.at_ = some ⟨v.at_, v.n, v.there⟩ := by
        intro ws hws hm hsub v hv h1
        by_cases hva : v.at_ = a
        · have : v = mk a n th true := ver_uniq hws hv hm hva
          subst this
          exact own_snoc_self wr ⟨a, if th then n else 0, th⟩
        · rcases hsub v hv with rfl | hv'
          · exact absurd rfl hva
          · rw [own_snoc_ne wr ⟨a, if th then n else 0, th⟩ hva]
            exact h.own v hv' h1
      have hhas : ∀ (ws : Vs), mk a n th true ∈ ws → (∀ w ∈ vs, w.at_ = a ∨ w ∈ ws) → ∀ g ∈ outG wr a ++ [⟨a, if th then n else 0, th⟩], ∃ v ∈ ws, v.at_ = g.at_ := by
        intro ws hm hsub g hg
        rcases List.mem_append.1 hg with hg | hg
        · obtain ⟨hg1, hg2⟩ := List.mem_filter.1 hg
          obtain ⟨v, hv, hva⟩ := h.has g hg1
          rcases hsub v hv with he | hv'
          · exact ⟨_, hm, by rw [← hva, he]; rfl⟩
          · exact ⟨v, hv', hva⟩
        · simp at hg
          subst hg
          exact ⟨_, hm, rfl⟩
      by_cases hao : x.at_ = a ∧ x.open_ = true
      · rw [if_pos hao] at hok ⊢
        obtain ⟨hu1, hu2, hu3⟩ := mem_set_of hk (mk a n th true)
        refine ⟨hok, ?_, hown _ hok hu1 hu3, hhas _ hu1 (fun w hw => (hu2 w hw).imp (fun e => by rw [e]; exact hao.1) id), ?_⟩
        · obtain ⟨v, hv, h0, h1⟩ := h.zero
          rcases hu2 v hv with rfl | hv
          · rw [hao.2] at h1; cases h1
          · exact ⟨v, hv, h0, h1⟩
        · intro g hg
          obtain ⟨v, hv, h1, h2, h3, h4, h5, h6⟩ := h.got g hg
          rcases hu2 v hv with rfl | hv'
          · rw [hao.2] at h1; cases h1
          · refine ⟨v, hv', h1, h2, h3, h4, h5, fun u hu hua => ?_⟩
            rcases hu3 u hu with rfl | hu
            · exact h6 x hx (by rw [hao.1]; exact hua) |> fun e => by rw [hao.1] at e; exact e
            · exact h6 u hu hua
      · rw [if_neg hao] at hok hc ⊢
        by_cases hl : x.at_ = a ∨ x.read > a
        · rw [if_pos hl] at hc; cases hc
        · rw [if_neg hl] at hok ⊢
          have hmem : ∀ w, w ∈ vs.take (k + 1) ++ mk a n th true :: vs.drop (k + 1) ↔ w = mk a n th true ∨ w ∈ vs := by
            intro w
            conv => rhs; rw [← List.take_append_drop (k + 1) vs]
            simp only [List.mem_append, List.mem_cons]
            constructor
            · rintro (h | h | h)
              · exact .inr (.inl h)
              · exact .inl h
              · exact .inr (.inr h)
            · rintro (h | h | h)
              · exact .inr (.inl h)
              · exact .inl h
              · exact .inr (.inr h)
          have hm := (hmem _).2 (.inl rfl)
          refine ⟨hok, ?_, hown _ hok hm (fun w hw => (hmem w).1 hw), hhas _ hm (fun w hw => .inr ((hmem w).2 (.inr hw))), ?_⟩
          · obtain ⟨v, hv, h0, h1⟩ := h.zero
            exact ⟨v, (hmem v).2 (.inr hv), h0, h1⟩
          · intro g hg
            obtain ⟨v, hv, h1, h2, h3, h4, h5, h6⟩ := h.got g hg
            refine ⟨v, (hmem v).2 (.inr hv), h1, h2, h3, h4, h5, fun u hu hua => ?_⟩
            rcases (hmem u).1 hu with rfl | hu
            · have hua2 : a < g.at_ := hua
              show a ≤ v.at_
              rcases Int.lt_or_le v.at_ a with hva | hva
              · exfalso
                have e1 := hmax v hv (by omega)
                have e2 := h6 x hx (by omega)
                have := ver_uniq h.ok hx hv (by omega)
                subst this
                exact hl (.inr (by omega))
              · exact hva
            · exact h6 u hu hua
theorem inv_commit {vs : Vs} {wr gt : Gs} (h : Inv vs wr gt) (a : Int) : Inv (cmV vs a).1 wr gt := by
  unfold cmV
  cases ho : opn vs a with
  | none => exact h
  | some k =>
    obtain ⟨hk, hi, _⟩ := opn_some ho
    show Inv (vs.modify k shut) wr gt
    rw [modify_set _ hk]
    have hkx : vs[k]? = some vs[k] := List.getElem?_eq_getElem hk
    have hop : vs[k].open_ = true := by unfold isO at hi; simp only [Bool.and_eq_true] at hi; exact hi.1
    have hx : vs[k] ∈ vs := List.getElem_mem hk
    generalize vs[k] = x at hkx hop hx ⊢
    obtain ⟨hu1, hu2, hu3⟩ := mem_set_of hkx (shut x)
    refine ⟨ok_set h.ok hkx rfl (fun e => by cases e), ?_, ?_, ?_, ?_⟩
    · obtain ⟨v, hv, h0, h1⟩ := h.zero
      rcases hu2 v hv with rfl | hv
      · exact ⟨_, hu1, h0, rfl⟩
      · exact ⟨v, hv, h0, h1⟩
    · intro v hv h1
      rcases hu3 v hv with rfl | hv
      · exact h.own x hx h1
      · exact h.own v hv h1
    · intro g hg
      obtain ⟨v, hv, hva⟩ := h.has g hg
      rcases hu2 v hv with rfl | hv
      · exact ⟨_, hu1, hva⟩
      · exact ⟨v, hv, hva⟩
    · intro g hg
      obtain ⟨v, hv, h1, h2, h3, h4, h5, h6⟩ := h.got g hg
      rcases hu2 v hv with rfl | hv'
      · rw [hop] at h1; cases h1
      · refine ⟨v, hv', h1, h2, h3, h4, h5, fun u hu hua => ?_⟩
        rcases hu3 u hu with rfl | hu
        · exact h6 x hx hua
        · exact h6 u hu hua
theorem inv_abort {vs : Vs} {wr gt : Gs} (h : Inv vs wr gt) (a : Int) : Inv (abV vs a).1 (if (abV vs a).2 then outG wr a else wr) gt := by
  have hok := ok_ab h.ok a
  unfold abV at *
  cases ho : opn vs a with
  | none => exact h
  | some k =>
    rw [ho] at hok
    obtain ⟨hk, hi, _⟩ := opn_some ho
    show Inv (vs.eraseIdx k) (outG wr a) gt
    unfold isO at hi
    simp only [Bool.and_eq_true, beq_iff_eq] at hi
    have hsub : ∀ w ∈ vs.eraseIdx k, w ∈ vs ∧ w.at_ ≠ a := fun w hw => by
      obtain ⟨i, hi2, hne, rfl⟩ := List.mem_eraseIdx_iff_getElem.1 hw
      refine ⟨List.getElem_mem _, fun e => ?_⟩
      have hp := List.pairwise_iff_getElem.1 h.ok.1
      rcases Nat.lt_or_gt_of_ne hne with hlt | hlt
      · have := hp i k hi2 hk hlt; omega
      · have := hp k i hk hi2 hlt; omega
    have hsup : ∀ w ∈ vs, w.open_ = false ∨ w.at_ ≠ a → w ∈ vs.eraseIdx k := fun w hw hd => by
      obtain ⟨i, hi2, rfl⟩ := List.mem_iff_getElem.1 hw
      refine List.mem_eraseIdx_iff_getElem.2 ⟨i, hi2, ?_, rfl⟩
      rintro rfl
      rcases hd with hd | hd
      · rw [hi.1] at hd; cases hd
      · exact hd hi.2
    refine ⟨hok, ?_, ?_, ?_, ?_⟩
    · obtain ⟨v, hv, h0, h1⟩ := h.zero
      exact ⟨v, hsup v hv (.inl h1), h0, h1⟩
    · intro v hv h1
      obtain ⟨hv1, hv2⟩ := hsub v hv
      rw [own_out_ne wr hv2]
      exact h.own v hv1 h1
    · intro g hg
      obtain ⟨hg1, hg2⟩ := List.mem_filter.1 hg
      obtain ⟨v, hv, hva⟩ := h.has g hg1
      exact ⟨v, hsup v hv (.inr (by rw [hva]; simpa using hg2)), hva⟩
    · intro g hg
      obtain ⟨v, hv, h1, h2, h3, h4, h5, h6⟩ := h.got g hg
      exact ⟨v, hsup v hv (.inl h1), h1, h2, h3, h4, h5, fun u hu hua => h6 u (hsub u hu).1 hua⟩
/-- The last one of a list below a time, by a walk through it. -/
def lastB (t : Int) (acc : Ver) : Vs → Ver
  | [] => acc
  | v :: r => lastB t (if v.at_ < t then v else acc) r
theorem lastB_none {t : Int} : ∀ {vs : Vs} {acc : Ver}, (∀ v ∈ vs, ¬ v.at_ < t) → lastB t acc vs = acc
  | [], _, _ => rfl
  | v :: r, acc, h => by
    rw [lastB, if_neg (h v List.mem_cons_self)]
    exact lastB_none (fun x hx => h x (List.mem_cons_of_mem _ hx))
theorem lastB_snoc (t : Int) (v : Ver) : ∀ (l : Vs) (acc : Ver), lastB t acc (l ++ [v]) = if v.at_ < t then v else lastB t acc l
  | [], acc => rfl
  | x :: l, acc => by rw [List.cons_append, lastB, lastB, lastB_snoc]
theorem lastB_is {t : Int} : ∀ {vs : Vs} {acc v : Ver}, vs.Pairwise (fun a b => a.at_ < b.at_) → v ∈ vs → v.at_ < t → (∀ u ∈ vs, u.at_ < t → u.at_ ≤ v.at_) → lastB t acc vs = v
  | [], _, _, _, h, _, _ => by cases h
  | x :: r, acc, v, hp, hv, hvt, hm => by
    rw [List.pairwise_cons] at hp
    rw [lastB]
    rcases List.mem_cons.1 hv with rfl | hv
    · rw [if_pos hvt]
      exact lastB_none (fun u hu hut => by
        have := hm u (List.mem_cons_of_mem _ hu) hut
        have := hp.1 u hu
        omega)
    · exact lastB_is hp.2 hv hvt (fun u hu => hm u (List.mem_cons_of_mem _ hu))
/-- In the end: what was read is what the last one below holds. -/
theorem inv_got {vs : Vs} {wr gt : Gs} (h : Inv vs wr gt) {g : Gt} (hg : g ∈ gt) (acc : Ver) : (lastB g.at_ acc vs).n = g.n ∧ (lastB g.at_ acc vs).there = g.there := by
  obtain ⟨v, hv, h1, h2, h3, h4, h5, h6⟩ := h.got g hg
  rw [lastB_is h.ok.1 hv h2 h6]
  exact ⟨h4, h5⟩
theorem inv_pos {vs : Vs} {wr gt : Gs} (h : Inv vs wr gt) : 0 < vs.length := by
  obtain ⟨v, hv, _⟩ := h.zero
  exact List.length_pos_of_mem hv
end Go.Proofs.Cn
