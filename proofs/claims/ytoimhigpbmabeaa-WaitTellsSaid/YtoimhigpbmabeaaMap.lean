/- Maps: what a look-up yields, in whatever world holds the same block. -/
import Derived.Maps.GroupsBeside
import Derived.Maps.OwnOps
import Derived.Maps.Views
set_option linter.unusedVariables false
namespace Go.Proofs.BL
open Go.RowKit Go.Maps Go.ChangeMaps Go.MapKept Go.ChangeShapes
open Go.WideElems (Fit rd rg pl)

theorem same_entry {es : Array MapEntry} {clock : Nat} (h : Stamped es clock) {x y : MapEntry} (hx : x ∈ es.toList) (hy : y ∈ es.toList) (e : x.key = y.key) : x = y := by
  have hn := h.2.2
  generalize es.toList = l at *
  clear h
  induction l with
  | nil => cases hx
  | cons z l ih =>
    rw [List.map_cons, List.nodup_cons] at hn
    rcases List.mem_cons.1 hx with hx1 | hx1 <;> rcases List.mem_cons.1 hy with hy1 | hy1
    · rw [hx1, hy1]
    · exact absurd (List.mem_map.2 ⟨y, hy1, by rw [← e, hx1]⟩) hn.1
    · exact absurd (List.mem_map.2 ⟨x, hx1, by rw [e, hy1]⟩) hn.1
    · exact ih hx1 hy1 hn.2

theorem look_all {H : Type} {P : Program} {k t E : TypeId} {R : Value → Option (DataW H × List MemPlace)} {w : World} {b n : Nat} {D : DataW H} (h : w.ownsMap P k R b n D) (K : Keyed P k) (ht : P.underlying t = some (.map k E)) {z : Value}
    (hz : ∀ W, (zeroValue E).run P W = .ok z W) {key : Value} {kl : Lit} (hkey : keyOf P k key = some kl) :
    ∃ v, ∀ W : World, W.heap[b]? = w.heap[b]? → (Instr.lookup t (.map (some b)) key false).run P W = .ok v W ∧ (Instr.lookup t (.map (some b)) key true).run P W = .ok (.tuple #[v, .bool (Maps.has D kl)]) W := by
  obtain ⟨es, clock, hb, F, hs, rfl⟩ := h
  rcases fit_look false K ht (hz w) hb F hkey with ⟨_, hno, hat⟩ | ⟨e0, y, hm, hk0, _, hR, hat, _⟩
  · refine ⟨z, fun W hW => ?_⟩
    rw [hb] at hW
    have hh := has_false_of_atKey hat
    rw [hh]
    constructor
    · rcases fit_look false K ht (hz W) hW F hkey with ⟨h1, _⟩ | ⟨e1, _, hm1, hk1, _⟩
      · exact h1
      · exact absurd hk1 (hno e1 hm1)
    · rcases fit_look true K ht (hz W) hW F hkey with ⟨h1, _⟩ | ⟨e1, _, hm1, hk1, _⟩
      · exact h1
      · exact absurd hk1 (hno e1 hm1)
  · refine ⟨e0.val, fun W hW => ?_⟩
    rw [hb] at hW
    have hh := has_true_of_atKey hat
    rw [hh]
    constructor
    · rcases fit_look false K ht (hz W) hW F hkey with ⟨_, h1, _⟩ | ⟨e1, _, hm1, hk1, h1, _⟩
      · exact absurd hk0 (h1 e0 hm)
      · rw [same_entry F.stamped hm hm1 (hk0.trans hk1.symm)]; exact h1
    · rcases fit_look true K ht (hz W) hW F hkey with ⟨_, h1, _⟩ | ⟨e1, _, hm1, hk1, h1, _⟩
      · exact absurd hk0 (h1 e0 hm)
      · rw [same_entry F.stamped hm hm1 (hk0.trans hk1.symm)]; exact h1
theorem groups_map {H : Type} {P : Program} {k e : TypeId} {q : IntKind} {w : World} {base b n : Nat} {D : DataW H} (h : w.ownsGroups P k base e q b n D) : w.ownsMap P k (rowElem w base e q) b n D := by
  obtain ⟨es, clock, hb, F, hs, hD, _⟩ := h
  exact ⟨es, clock, hb, F, hs, hD⟩
/-- The look-up in a map of groups. -/
theorem groups_at {H : Type} {P : Program} {k e t E : TypeId} {q : IntKind} {w : World} {base b n : Nat} {D : DataW H} (h : w.ownsGroups P k base e q b n D) (K : Keyed P k) (ht : P.underlying t = some (.map k E))
    (hz : ∀ W, (zeroValue E).run P W = .ok (.slice none 0 0) W) (hn : n < maxLen) {key : Value} {kl : Lit} (hkey : keyOf P k key = some kl) :
    ∃ v zs, (∀ W : World, W.heap[b]? = w.heap[b]? → (Instr.lookup t (.map (some b)) key false).run P W = .ok v W ∧ (Instr.lookup t (.map (some b)) key true).run P W = .ok (.tuple #[v, .bool (Maps.has D kl)]) W) ∧
      D.atKey kl .nil = rowDatum q v zs ∧ w.ownsInts base e q v zs ∧ zs.length ≤ n ∧ w.groupBack P t k base e q b n D key kl v := by
  obtain ⟨v, hall⟩ := look_all (groups_map h) K ht hz hkey
  obtain ⟨v', zs, hrun, h1, h2, h3, h4⟩ := h.at K ht (hz w) hn hkey
  have := (hall w rfl).1
  rw [hrun] at this
  injection this with this
  subst this
  exact ⟨v', zs, hall, h1, h2, h3, h4⟩
theorem groups_below {H : Type} {P : Program} {k e : TypeId} {q : IntKind} {w w' : World} {base b n : Nat} {D : DataW H} (h : w.ownsGroups P k base e q b n D) (hb : Below w.heap.size w w') : w'.ownsGroups P k base e q b n D :=
  h.kept (row := none) ⟨hb.os, hb.tape, hb.output, hb.size, fun i hi _ => hb.block i hi⟩ (by simp) (fun _ _ _ x _ => by cases x.val.ownBlock <;> simp)
theorem map_below {H : Type} {P : Program} {k : TypeId} {R : Value → Option (DataW H × List MemPlace)} {w w' : World} {b n : Nat} {D : DataW H} (h : w.ownsMap P k R b n D) (hb : Below w.heap.size w w') : w'.ownsMap P k R b n D :=
  h.kept (row := none) ⟨hb.os, hb.tape, hb.output, hb.size, fun i hi _ => hb.block i hi⟩ (by simp)
end Go.Proofs.BL
