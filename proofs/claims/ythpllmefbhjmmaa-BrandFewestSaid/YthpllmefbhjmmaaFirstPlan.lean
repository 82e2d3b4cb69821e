/-
  What 'Fewest' answers: the first plan that keeps the rule; none before it does.
-/
import Derived.Test.YthpllmefbhjmmaaFull
namespace Go.Proofs.Ythpllmefbhjmmaa
open Plain

theorem rowTo_in {k j a : Nat} (h : a < j) : (k, a) ∈ rowTo k j := by
  unfold rowTo; rw [List.mem_map]; exact ⟨a, List.mem_range.2 h, rfl⟩
theorem rows_in {n o a : Nat} (ho : o < n) (ha : a ≤ o) : (o, a) ∈ rows n := by
  unfold rows row
  rw [List.mem_flatMap]
  exact ⟨o, List.mem_range.2 ho, List.mem_map.2 ⟨a, List.mem_range.2 (by omega), rfl⟩⟩

/-- The first of all plans that is found: none before it. -/
theorem first_before {f : Nat × Nat → Bool} {n k j : Nat} (h : (rows (n + 1)).find? f = some (k, j)) :
    k ≤ n ∧ j ≤ k ∧ f (k, j) = true ∧ ∀ o a : Nat, (o < k ∨ o = k ∧ a < j) → a ≤ o → f (o, a) = false := by
  have hf := List.find?_some h
  have hm := rows_mem (List.mem_of_find?_eq_some h)
  refine ⟨by omega, hm.2, hf, fun o a hoa hao => ?_⟩
  cases hfa : f (o, a) with
  | false => rfl
  | true =>
    exfalso
    obtain ⟨t, ht, _⟩ := rows_split (k := k) (n := n) (by omega)
    obtain ⟨u, hu⟩ := row_split (k := k) (j := j) hm.2
    have hin : (o, a) ∈ rows k ++ rowTo k j := by
      rcases hoa with hlt | ⟨e, hlt⟩
      · exact List.mem_append_left _ (rows_in hlt hao)
      · rw [e]; exact List.mem_append_right _ (rowTo_in hlt)
    have e : rows (n + 1) = (rows k ++ rowTo k j) ++ ((k, j) :: (u ++ t)) := by rw [ht, hu]; simp
    rw [e, List.find?_append] at h
    obtain ⟨z, hz⟩ : ∃ z, (rows k ++ rowTo k j).find? f = some z := by
      cases hz : (rows k ++ rowTo k j).find? f with
      | none => rw [List.find?_eq_none] at hz; exact absurd hfa (hz _ hin)
      | some z => exact ⟨z, rfl⟩
    rw [hz] at h
    simp at h
    subst h
    have := List.mem_of_find?_eq_some hz
    rcases List.mem_append.1 this with h1 | h1
    · have := rows_mem h1; omega
    · have := rowTo_mem h1; omega

theorem fewest_found {n : Nat} {r : Rl} (h1 : inB n 1 40 = true) (h2 : ruleB n r = true) :
    ∃ k j : Nat, k ≤ n ∧ j ≤ k ∧ fewestR n r = ((k : Int), (j : Int), 0) ∧ keepsB n r k j = true ∧ ∀ o a : Nat, (o < k ∨ o = k ∧ a < j) → a ≤ o → keepsB n r o a = false := by
  have hr := ruleB_true h2
  have hfull := keeps_full (N := n) (r := r) (by omega) h2
  obtain ⟨g, hg⟩ := Int.eq_ofNat_of_zero_le hr.1
  cases hz : (rows (n + 1)).find? (fun x => keepsB n r x.1 x.2) with
  | none =>
    exfalso
    rw [List.find?_eq_none] at hz
    have := hz (n, g) (rows_in (by omega) (by omega))
    rw [hg] at hfull
    exact this hfull
  | some x =>
    obtain ⟨k, j⟩ := x
    obtain ⟨a1, a2, a3, a4⟩ := first_before hz
    refine ⟨k, j, a1, a2, ?_, a3, a4⟩
    unfold fewestR
    rw [h1, h2, if_pos rfl, if_pos rfl, Int.toNat_natCast, hz]

end Go.Proofs.Ythpllmefbhjmmaa
