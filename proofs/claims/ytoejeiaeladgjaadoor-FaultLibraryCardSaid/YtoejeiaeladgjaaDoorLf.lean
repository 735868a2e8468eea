/- Chapter 1, plainly: what a fault made of links tells is what the reference's chain tells. -/
import Derived.Test.YtoejeiaeladgjaaDoorLc
import Derived.Test.YtoejeiaeladgjaaDoorFe
namespace Go.Proofs.YtoejeiaeladgjaaDoor
set_option linter.unusedVariables false

def kinds (l : List Li) : Prop := ∀ x, x ∈ l → 0 ≤ x.kind ∧ x.kind ≤ 3
theorem kinds_cut (l : List Li) : kinds (cutL l) := by
  intro x hx
  unfold cutL at hx
  obtain ⟨y, _, rfl⟩ := List.mem_map.1 hx
  exact cutKind_range _
theorem cutL_len (l : List Li) : (cutL l).length ≤ 30 := by unfold cutL; simp; omega
theorem chainL_cons (x : Li) (r : List Li) : chainL (x :: r) = if x.kind = 0 then (if x.e = 0 then [] else [x]) else (if chainL r = [] then [] else x :: chainL r) := rfl
theorem mkL_nil (l : List Li) : mkL l = [] ↔ chainL l = [] := by rw [mkL_chain]; simp
theorem mkL_len (l : List Li) : (mkL l).length = (chainL l).length := by rw [mkL_chain]; simp
theorem chainL_len : ∀ l : List Li, (chainL l).length ≤ l.length
  | [] => Nat.le_refl _
  | x :: r => by
    have := chainL_len r
    unfold chainL
    split
    · split <;> simp
    · split
      · simp
      · simp; exact this
theorem wrapL_kind {x : Li} {c : List Lk} (h0 : x.kind ≠ 0) (hc : c ≠ []) : ∃ k, wrapL x c = k :: c ∧ k.kind ≠ .num ∧ (k.kind = .at_ ↔ x.kind = 1) ∧ (x.kind = 1 → k = .at_ x.place) ∧ (x.kind = 2 → k = .in_ x.name) ∧ (k.kind = .in_ ↔ x.kind = 2) ∧ (x.kind ≠ 1 → x.kind ≠ 2 → k = .bnd x.limit x.got) := by
  unfold wrapL
  rw [if_neg h0, if_neg hc]
  refine ⟨_, rfl, ?_⟩
  by_cases h1 : x.kind = 1
  · simp [h1, Lk.kind]
  · by_cases h2 : x.kind = 2
    · simp [h2, Lk.kind]
    · simp [h1, h2, Lk.kind]
theorem upto_skip {k : FK} {x : Lk} {r : List Lk} (h : x.kind ≠ k) : upto k (x :: r) = upto k r := by
  have : x.kind.same k = false := by
    cases e : x.kind.same k
    · rfl
    · exact absurd ((same_iff _ _).1 e) h
  simp [upto, this]
theorem code_made : ∀ l : List Li, codeOf (mkL l) = codeR (chainL l)
  | [] => rfl
  | x :: r => by
    have ih := code_made r
    by_cases h0 : x.kind = 0
    · by_cases h1 : x.e = 0
      · simp [mkL, wrapL, chainL, h0, h1, codeOf, upto, codeR]
      · simp [mkL, wrapL, chainL, h0, h1, codeOf, upto, codeR, Lk.kind, FK.same]
    · by_cases hc : chainL r = []
      · have hm := (mkL_nil r).2 hc
        simp [mkL, wrapL, chainL, h0, hc, hm, codeOf, upto, codeR]
      · have hm : mkL r ≠ [] := fun e => hc ((mkL_nil r).1 e)
        obtain ⟨k, hk, hn, _⟩ := wrapL_kind h0 hm
        show codeOf (wrapL x (mkL r)) = _
        rw [hk, codeOf_cons hn, ih]
        rw [chainL_cons, if_neg h0, if_neg hc]
        unfold codeR
        obtain ⟨y, ys, hy⟩ := List.exists_cons_of_ne_nil hc
        rw [hy, List.getLast?_cons_cons]
theorem place_made : ∀ l : List Li, placeOf (mkL l) = placeR (chainL l)
  | [] => rfl
  | x :: r => by
    have ih := place_made r
    by_cases h0 : x.kind = 0
    · by_cases h1 : x.e = 0
      · simp [mkL, wrapL, chainL, h0, h1, placeOf, upto, placeR]
      · simp [mkL, wrapL, chainL, h0, h1, placeOf, upto, placeR, Lk.kind, FK.same]
    · by_cases hc : chainL r = []
      · have hm := (mkL_nil r).2 hc
        simp [mkL, wrapL, chainL, h0, hc, hm, placeOf, upto, placeR]
      · have hm : mkL r ≠ [] := fun e => hc ((mkL_nil r).1 e)
        obtain ⟨k, hk, hn, ha, hp, _⟩ := wrapL_kind h0 hm
        show placeOf (wrapL x (mkL r)) = _
        rw [hk]
        rw [chainL_cons, if_neg h0, if_neg hc]
        by_cases h1 : x.kind = 1
        · rw [hp h1]
          simp [placeOf, upto, Lk.kind, FK.same, placeR, h1]
        · have : k.kind ≠ .at_ := fun e => h1 (ha.1 e)
          unfold placeOf at ih ⊢
          rw [upto_skip this, ih]
          conv => rhs; unfold placeR; rw [if_neg h1]
theorem limit_made : ∀ l : List Li, kinds l → limitOf (mkL l) = limitR (chainL l)
  | [], _ => rfl
  | x :: r, hkd => by
    have ih := limit_made r (fun y hy => hkd y (List.mem_cons_of_mem _ hy))
    have hx := hkd x (List.mem_cons_self ..)
    by_cases h0 : x.kind = 0
    · by_cases h1 : x.e = 0
      · simp [mkL, wrapL, chainL, h0, h1, limitOf, upto, limitR]
      · simp [mkL, wrapL, chainL, h0, h1, limitOf, upto, limitR, Lk.kind, FK.same]
    · by_cases hc : chainL r = []
      · have hm := (mkL_nil r).2 hc
        simp [mkL, wrapL, chainL, h0, hc, hm, limitOf, upto, limitR]
      · have hm : mkL r ≠ [] := fun e => hc ((mkL_nil r).1 e)
        obtain ⟨k, hk, hn, ha, hp, h2, h2', h3⟩ := wrapL_kind h0 hm
        show limitOf (wrapL x (mkL r)) = _
        rw [hk]
        rw [chainL_cons, if_neg h0, if_neg hc]
        by_cases h1 : x.kind = 3
        · rw [h3 (by omega) (by omega)]
          simp [limitOf, upto, Lk.kind, FK.same, limitR, h1]
        · have : k.kind ≠ .bnd := fun e => by
            by_cases g1 : x.kind = 1
            · rw [hp g1] at e; cases e
            · have g2 : x.kind = 2 := by omega
              rw [h2 g2] at e; cases e
          unfold limitOf at ih ⊢
          rw [upto_skip this, ih]
          conv => rhs; unfold limitR; rw [if_neg h1]
theorem trail_made : ∀ l : List Li, trailOf (mkL l) = trailR (chainL l)
  | [] => rfl
  | x :: r => by
    have ih := trail_made r
    by_cases h0 : x.kind = 0
    · by_cases h1 : x.e = 0
      · simp [mkL, wrapL, chainL, h0, h1, trailOf, trailR]
      · simp [mkL, wrapL, chainL, h0, h1, trailOf, trailR]
    · by_cases hc : chainL r = []
      · have hm := (mkL_nil r).2 hc
        simp [mkL, wrapL, chainL, h0, hc, hm, trailOf, trailR]
      · have hm : mkL r ≠ [] := fun e => hc ((mkL_nil r).1 e)
        obtain ⟨k, hk, hn, ha, hp, h2, h2', h3⟩ := wrapL_kind h0 hm
        show trailOf (wrapL x (mkL r)) = _
        rw [hk]
        rw [chainL_cons, if_neg h0, if_neg hc]
        by_cases h1 : x.kind = 2
        · rw [h2 h1]
          simp [trailOf, ih, trailR, h1]
        · have hkk : k.kind ≠ .in_ := fun e => h1 (h2'.1 e)
          have : trailOf (k :: mkL r) = trailOf (mkL r) := by cases k <;> first | rfl | exact absurd rfl hkk
          rw [this, ih]
          simp [trailR, h1]
theorem code_wrap {x : Li} {d : List Lk} (h0 : x.kind ≠ 0) : codeOf (wrapL x d) = codeOf d ∧ (wrapL x d = [] ↔ d = []) := by
  by_cases hd : d = []
  · subst hd
    have : wrapL x [] = [] := by simp [wrapL, h0]
    rw [this]
    exact ⟨rfl, Iff.rfl⟩
  · obtain ⟨k, hk, hn, _⟩ := wrapL_kind h0 hd
    rw [hk, codeOf_cons hn]
    exact ⟨rfl, by simp [hd]⟩
end Go.Proofs.YtoejeiaeladgjaaDoor
