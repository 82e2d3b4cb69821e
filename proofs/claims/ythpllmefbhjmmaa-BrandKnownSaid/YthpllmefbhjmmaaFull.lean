/-
  Plain laws on plans: all barrels opened; the first plan; the greatest Allow. Nothing of the program is run here.
-/
import Derived.Test.YthpllmefbhjmmaaPromised
namespace Go.Proofs.Ythpllmefbhjmmaa
open Plain

theorem term_full (N b k : Int) (h0 : 0 ≤ b) (h1 : b ≤ N) (_ : 0 ≤ k) : term N b N k = if k = b then 1 else 0 := by
  unfold term
  split
  · rename_i h; subst h; rw [cnt_self _ h0, cnt_self _ (by omega)]; rfl
  · rename_i h
    by_cases hb : b < k
    · rw [cnt_above b k h0 hb, Int.zero_mul]
    · rw [cnt_above (N - b) (N - k) (by omega) (by omega), Int.mul_zero]

theorem sum_full (N b : Int) (h0 : 0 ≤ b) (h1 : b ≤ N) : ∀ j : Nat, sumN (term N b N) 0 j = if b < j then 1 else 0
  | 0 => by rw [if_neg (by omega)]; rfl
  | j + 1 => by
    have ih := sum_full N b h0 h1 j
    show sumN (term N b N) 0 j + term N b N (0 + j) = _
    rw [ih, Int.zero_add, term_full N b j h0 h1 (by omega)]
    by_cases h : b < j
    · rw [if_pos h, if_neg (by omega), if_pos (by omega)]; rfl
    · by_cases h2 : (j : Int) = b
      · rw [if_neg h, if_pos h2, if_pos (by omega)]; rfl
      · rw [if_neg h, if_neg h2, if_neg (by omega)]; rfl

/-- All barrels opened: just those that are below are found. -/
theorem fnd_full (N b a : Int) (h0 : 0 ≤ b) (h1 : b ≤ N) (ha : 0 ≤ a) : fnd N b N 0 a = if b ≤ a then 1 else 0 := by
  unfold fnd
  rw [sum_full N b h0 h1]
  by_cases h : b ≤ a
  · rw [if_pos h, if_pos (by omega)]
  · rw [if_neg h, if_neg (by omega)]

/-- All barrels opened, and Good allowed: a rule is kept. -/
theorem keeps_full {N : Int} {r : Rl} (hN : 0 ≤ N) (h : ruleB N r = true) : keepsB N r N r.g = true := by
  obtain ⟨h1, h2, h3, h4, h5⟩ := ruleB_true h
  obtain ⟨p1, p2, p3, p4⟩ := oddsB_true h4
  obtain ⟨f1, f2, f3, f4⟩ := oddsB_true h5
  refine keepsB_true hN (fun j hj => ?_)
  unfold keepsAt
  rw [fnd_full N j r.g (by omega) hj h1, cnt_self N hN]
  by_cases hg : (j : Int) ≤ r.g
  · rw [if_pos hg]; simp; omega
  · rw [if_neg hg]; simp; omega

theorem row_mem {k : Nat} {x : Nat × Nat} (h : x ∈ row k) : x.1 = k ∧ x.2 ≤ k := by
  unfold row at h
  rw [List.mem_map] at h
  obtain ⟨a, ha, rfl⟩ := h
  rw [List.mem_range] at ha
  exact ⟨rfl, by omega⟩
theorem rows_mem {k : Nat} {x : Nat × Nat} (h : x ∈ rows k) : x.1 < k ∧ x.2 ≤ x.1 := by
  unfold rows at h
  rw [List.mem_flatMap] at h
  obtain ⟨o, ho, hx⟩ := h
  rw [List.mem_range] at ho
  have := row_mem hx
  omega
theorem rows_split {k n : Nat} (h : k ≤ n) : ∃ t, rows (n + 1) = rows k ++ row k ++ t ∧ ∀ x ∈ t, k < x.1 := by
  induction n with
  | zero => obtain rfl : k = 0 := by omega
            exact ⟨[], by rw [rows_succ, List.append_nil], by simp⟩
  | succ n ih =>
    by_cases hk : k = n + 1
    · subst hk
      exact ⟨[], by rw [rows_succ, List.append_nil], by simp⟩
    · obtain ⟨t, ht, hm⟩ := ih (by omega)
      refine ⟨t ++ row (n + 1), by rw [rows_succ (n + 1), ht]; simp, fun x hx => ?_⟩
      rcases List.mem_append.1 hx with hx | hx
      · exact hm x hx
      · have := row_mem hx; omega
theorem rowTo_mem {k j : Nat} {x : Nat × Nat} (h : x ∈ rowTo k j) : x.1 = k ∧ x.2 < j := by
  unfold rowTo at h
  rw [List.mem_map] at h
  obtain ⟨a, ha, rfl⟩ := h
  rw [List.mem_range] at ha
  exact ⟨rfl, ha⟩
theorem row_split {k j : Nat} (h : j ≤ k) : ∃ t, row k = rowTo k j ++ (k, j) :: t := by
  have key : ∀ d, ∃ t, rowTo k (j + 1 + d) = rowTo k j ++ (k, j) :: t := by
    intro d
    induction d with
    | zero => exact ⟨[], by rw [Nat.add_zero, rowTo_succ]⟩
    | succ d ih =>
      obtain ⟨t, ht⟩ := ih
      exact ⟨t ++ [(k, j + 1 + d)], by rw [← Nat.add_assoc, rowTo_succ, ht]; simp⟩
  obtain ⟨t, ht⟩ := key (k - j)
  exact ⟨t, by rw [← rowTo_all, ← ht]; congr 1; omega⟩

/-- The first plan. -/
theorem first_plan {f : Nat × Nat → Bool} {n k j : Nat} (hk : k ≤ n) (hj : j ≤ k) (h1 : ∀ o a : Nat, o < k → a ≤ o → f (o, a) = false) (h2 : ∀ a : Nat, a < j → f (k, a) = false) (h3 : f (k, j) = true) :
    (rows (n + 1)).find? f = some (k, j) := by
  obtain ⟨t, ht, _⟩ := rows_split hk
  obtain ⟨u, hu⟩ := row_split hj
  rw [List.find?_eq_some_iff_append]
  refine ⟨h3, rows k ++ rowTo k j, u ++ t, by rw [ht, hu]; simp, fun x hx => ?_⟩
  rcases List.mem_append.1 hx with hx | hx
  · have := rows_mem hx
    rw [show x = (x.1, x.2) from rfl, h1 x.1 x.2 this.1 this.2]; rfl
  · have := rowTo_mem hx
    obtain ⟨x1, x2⟩ := x
    simp only at this
    obtain ⟨rfl, hx2⟩ := this
    rw [h2 x2 hx2]; rfl
theorem first_plan_none {f : Nat × Nat → Bool} {n : Nat} (h1 : ∀ o a : Nat, o ≤ n → a ≤ o → f (o, a) = false) : (rows (n + 1)).find? f = none := by
  rw [List.find?_eq_none]
  intro x hx
  have := rows_mem hx
  rw [show x = (x.1, x.2) from rfl, h1 x.1 x.2 (by omega) this.2]; simp

theorem allow_skip {N : Int} {r : Rl} {n : Nat} : ∀ (l : List (Nat × Nat)) (z : Int), (∀ x ∈ l, x.1 ≠ n) → l.foldl (fun acc x => if (x.1 == n) && keepsB N r (x.1 : Int) (x.2 : Int) then (x.2 : Int) else acc) z = z
  | [], _, _ => rfl
  | x :: l, z, h => by
    rw [List.foldl_cons, beq_eq_false_iff_ne.2 (h x (by simp)), Bool.false_and, if_neg (by simp)]
    exact allow_skip l z (fun y hy => h y (by simp [hy]))

/-- The greatest Allow: only the plans that open so many count. -/
theorem allow_row {N : Int} {r : Rl} {n m : Nat} (h : n ≤ m) : allowFold N r n (rows (m + 1)) = allowFold N r n (row n) := by
  obtain ⟨t, ht, hm⟩ := rows_split h
  unfold allowFold
  rw [ht, List.foldl_append, List.foldl_append, allow_skip (rows n) _ (fun x hx => by have := rows_mem hx; omega), allow_skip t _ (fun x hx => by have := hm x hx; omega)]

end Go.Proofs.Ythpllmefbhjmmaa
