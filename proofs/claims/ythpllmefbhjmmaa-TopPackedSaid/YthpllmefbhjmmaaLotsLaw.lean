/-
  Plain laws on lots: what 'Lots' hands back are lots.
-/
import Derived.Test.YthpllmefbhjmmaaLots
namespace Go.Proofs.Ythpllmefbhjmmaa
open Go.RowKit Go.Maps Plain

/-- Where a lot ends: where the next begins, or at n. -/
def lotEnd (o : List Nat) (n i : Nat) : Nat := o.getD (i + 1) n
/-- Lots of the first n baskets. -/
def LotsOk (l : List Sp) (o : List Nat) (n : Nat) : Prop :=
  o.length ≤ n ∧ o[0]? = some 0 ∧ ∀ i x, o[i]? = some x → x < lotEnd o n i ∧ lotEnd o n i ≤ n ∧ alikeB (part l x (lotEnd o n i)) = true

theorem part_one {l : List Sp} {k : Nat} (h : k < l.length) : part l k (k + 1) = [l[k]] := by
  unfold part
  rw [show k + 1 - k = 1 by omega, List.drop_eq_getElem_cons h]
  rfl
theorem alike_one {s : Sp} (h : spanB s = true) : alikeB [s] = true := by
  simp only [spanB, Bool.and_eq_true, decide_eq_true_eq] at h
  unfold alikeB
  rw [decide_eq_true_iff]
  show max s.lo s.lo ≤ min s.hi s.hi
  omega

theorem lots_ok {l : List Sp} (hall : ∀ s ∈ l, spanB s = true) : ∀ k : Nat, k < l.length → LotsOk l (lotsTo l (k + 1)) (k + 1)
  | 0, h => by
    have h1 : alikeB (part l 0 1) = true := by
      rw [part_one h]; exact alike_one (hall _ (List.getElem_mem h))
    have e : lotsTo l 1 = [0] := by
      show (if alikeB (part l 0 1) = true then [0] else [0] ++ [0]) = [0]
      rw [h1, if_pos rfl]
    rw [e]
    refine ⟨by simp, rfl, fun i x hi => ?_⟩
    cases i with
    | zero =>
      simp only [List.getElem?_cons_zero, Option.some.injEq] at hi
      subst hi
      exact ⟨by simp [lotEnd], by simp [lotEnd], h1⟩
    | succ i => simp at hi
  | k + 1, h => by
    obtain ⟨h0, h1, h2⟩ := lots_ok hall k (by omega)
    have hlen : 0 < (lotsTo l (k + 1)).length := (lots_form l (k + 1)).2.1
    have hlast : (lotsTo l (k + 1))[(lotsTo l (k + 1)).length - 1]? = some ((lotsTo l (k + 1)).getLastD 0) := by
      rw [← List.getLast?_eq_getElem?, List.getLastD_eq_getLast?]
      cases hg : (lotsTo l (k + 1)).getLast? with
      | none => rw [List.getLast?_eq_none_iff] at hg; rw [hg] at hlen; simp at hlen
      | some y => rfl
    have hnext : lotsTo l (k + 1 + 1) = if alikeB (part l ((lotsTo l (k + 1)).getLastD 0) (k + 1 + 1)) = true then lotsTo l (k + 1) else lotsTo l (k + 1) ++ [k + 1] := rfl
    rw [hnext]
    generalize lotsTo l (k + 1) = o at *
    generalize o.getLastD 0 = z at *
    cases hq : alikeB (part l z (k + 1 + 1)) with
    | true =>
      rw [if_pos rfl]
      refine ⟨by omega, h1, fun i x hi => ?_⟩
      have hil := (List.getElem?_eq_some_iff.1 hi).1
      obtain ⟨a1, a2, a3⟩ := h2 i x hi
      by_cases e : i + 1 < o.length
      · have e1 : lotEnd o (k + 1 + 1) i = lotEnd o (k + 1) i := by unfold lotEnd; rw [List.getD_eq_getElem?_getD, List.getD_eq_getElem?_getD, List.getElem?_eq_getElem e]; rfl
        rw [e1]; exact ⟨a1, by omega, a3⟩
      · have e1 : lotEnd o (k + 1 + 1) i = k + 1 + 1 := by unfold lotEnd; rw [List.getD_eq_getElem?_getD, List.getElem?_eq_none (by omega)]; rfl
        have e2 : i = o.length - 1 := by omega
        rw [e2, hlast] at hi
        injection hi with hi
        rw [e1, ← hi]
        have e3 : lotEnd o (k + 1) i = k + 1 := by unfold lotEnd; rw [List.getD_eq_getElem?_getD, List.getElem?_eq_none (by omega)]; rfl
        exact ⟨by omega, by omega, hq⟩
    | false =>
      rw [if_neg (by simp)]
      refine ⟨by simp; omega, by rw [List.getElem?_append_left hlen]; exact h1, fun i x hi => ?_⟩
      by_cases e0 : i < o.length
      · rw [List.getElem?_append_left e0] at hi
        obtain ⟨a1, a2, a3⟩ := h2 i x hi
        by_cases e : i + 1 < o.length
        · have e1 : lotEnd (o ++ [k + 1]) (k + 1 + 1) i = lotEnd o (k + 1) i := by
            unfold lotEnd; rw [List.getD_eq_getElem?_getD, List.getD_eq_getElem?_getD, List.getElem?_append_left e, List.getElem?_eq_getElem e]; rfl
          rw [e1]; exact ⟨a1, by omega, a3⟩
        · have e1 : lotEnd (o ++ [k + 1]) (k + 1 + 1) i = k + 1 := by
            unfold lotEnd
            rw [List.getD_eq_getElem?_getD, List.getElem?_append_right (by omega), show i + 1 - o.length = 0 by omega]; rfl
          have e3 : lotEnd o (k + 1) i = k + 1 := by unfold lotEnd; rw [List.getD_eq_getElem?_getD, List.getElem?_eq_none (by omega)]; rfl
          rw [e3] at a1 a3
          rw [e1]; exact ⟨a1, by omega, a3⟩
      · rw [List.getElem?_append_right (by omega)] at hi
        have e2 : i = o.length := by
          have := (List.getElem?_eq_some_iff.1 hi).1
          simp at this
          omega
        subst e2
        simp at hi
        subst hi
        have e1 : lotEnd (o ++ [k + 1]) (k + 1 + 1) o.length = k + 1 + 1 := by
          unfold lotEnd
          rw [List.getD_eq_getElem?_getD, List.getElem?_eq_none (by simp)]; rfl
        rw [e1, part_one h]
        exact ⟨by omega, by omega, alike_one (hall _ (List.getElem_mem h))⟩

end Go.Proofs.Ythpllmefbhjmmaa
