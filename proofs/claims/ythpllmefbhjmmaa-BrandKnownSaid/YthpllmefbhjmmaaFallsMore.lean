/-
  Plain laws on odds, more: none below, all allowed; odds against odds of the same plan.
-/
import Derived.Test.YthpllmefbhjmmaaFalls
namespace Go.Proofs.Ythpllmefbhjmmaa
open Plain

theorem cnt_nil (k : Int) (h : k ≠ 0) : cnt 0 k = 0 := by
  by_cases h0 : k < 0
  · exact cnt_neg 0 k h0
  · exact cnt_above 0 k (by omega) (by omega)

theorem sum_none (N n : Int) : ∀ j : Nat, sumN (term N 0 n) 0 (j + 1) = cnt N n
  | 0 => by
    show 0 + term N 0 n (0 + (0 : Nat)) = _
    unfold term
    rw [show (0 : Int) + ((0 : Nat) : Int) = 0 by omega, cnt_zero, Int.one_mul, Int.zero_add, show N - 0 = N by omega, show n - 0 = n by omega]
  | j + 1 => by
    have ih := sum_none N n j
    show sumN (term N 0 n) 0 (j + 1) + term N 0 n (0 + (j + 1 : Nat)) = _
    rw [ih]
    unfold term
    rw [cnt_nil _ (by omega), Int.zero_mul, Int.add_zero]

/-- None below: every choice passes. -/
theorem fnd_none (N n a : Int) (h : 0 ≤ a) : fnd N 0 n 0 a = cnt N n := by
  unfold fnd
  rw [show (a + 1 - 0).toNat = a.toNat + 1 by omega]
  exact sum_none N n _

/-- All that are opened may be below: every choice passes. -/
theorem fnd_all (N n : Int) (h : 0 ≤ n) : ∀ b : Nat, (b : Int) ≤ N → fnd N b n 0 n = cnt N n
  | 0, _ => fnd_none N n n h
  | b + 1, hb => by
    have ih := fnd_all N n h b (by omega)
    unfold fnd at ih ⊢
    have h1 := sum_falls N b n (by omega) (by omega) (n + 1 - 0).toNat
    rw [ih, show ((n + 1 - 0).toNat : Int) = n + 1 by omega, show n - (n + 1) = -1 by omega, cnt_neg _ (-1) (by omega), Int.mul_zero, Int.add_zero] at h1
    exact h1.symm

theorem fnd_le_all {N b n a : Int} (h0 : 0 ≤ b) (h1 : b ≤ N) (ha : 0 ≤ a) : fnd N b n 0 a ≤ cnt N n := by
  have := fnd_anti (N := N) (n := n) (a := a) (Int.le_refl 0) h0 h1
  rwa [fnd_none N n a ha] at this

theorem gcdI_same (c : Int) (h : 0 ≤ c) : gcdI c c = c := by
  unfold gcdI; rw [Nat.gcd_self]; omega

/-- Two odds of as many choices. -/
theorem less_two {F G C : Int} (hF : 0 ≤ F) (hG : 0 ≤ G) (hC : 0 < C) :
    lessB (F / gcdI F C) (C / gcdI F C) (G / gcdI G C) (C / gcdI G C) = decide (F < G) := by
  rw [less_red hF hC]
  have := red_less (p := F) (q := C) hG hC
  unfold lessB at this
  rw [this, decide_eq_decide]
  constructor
  · intro h; exact Int.lt_of_mul_lt_mul_right h (by omega)
  · intro h; exact Int.mul_lt_mul_of_pos_right h hC

theorem red_le {F C : Int} (hF : 0 ≤ F) (hC : 0 < C) (h : F ≤ C) : F / gcdI F C ≤ C / gcdI F C :=
  Int.ediv_le_ediv (gcdI_pos F C hF hC) h

end Go.Proofs.Ythpllmefbhjmmaa
