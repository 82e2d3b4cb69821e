/-
  Plain laws: the odds by the first barrel, as the law reckons them.
-/
import Derived.Test.YthpllmefbhjmmaaFirstLaw
import Derived.Test.YthpllmefbhjmmaaOddsLaw
namespace Go.Proofs.Ythpllmefbhjmmaa
open Plain

/-- With the first barrel below, and without: of how many choices. -/
def withF (N b o a : Int) : Int := if 0 < b ∧ 0 < a then fnd (N - 1) (b - 1) (o - 1) 0 (a - 1) else 0
def withoutF (N b o a : Int) : Int := if b < N then fnd (N - 1) b (o - 1) 0 (min (o - 1) a) else 0

theorem withF_nonneg (N b o a : Int) : 0 ≤ withF N b o a := by unfold withF; split; exact fnd_nonneg _ _ _ _ _; omega
theorem withoutF_nonneg (N b o a : Int) : 0 ≤ withoutF N b o a := by unfold withoutF; split; exact fnd_nonneg _ _ _ _ _; omega

theorem first_sum {N b o a : Int} (h0 : 0 ≤ b) (h1 : b ≤ N) (ho : 1 ≤ o) (ha : 0 ≤ a) (hao : a ≤ o) :
    o * fnd N b o 0 a = b * withF N b o a + (N - b) * withoutF N b o a := by
  rw [fnd_first h0 h1 ha]
  congr 1
  · unfold withF
    by_cases hb : 0 < b
    · by_cases ha0 : 0 < a
      · rw [if_pos ⟨hb, ha0⟩]
      · rw [if_neg (by omega)]
        obtain rfl : a = 0 := by omega
        rw [show (0 : Int) - 1 = -1 by omega, show fnd (N - 1) (b - 1) (o - 1) 0 (-1) = 0 from rfl]
    · obtain rfl : b = 0 := by omega
      rw [Int.zero_mul, Int.zero_mul]
  · unfold withoutF
    by_cases hb : b < N
    · rw [if_pos hb]
      by_cases hc : a ≤ o - 1
      · rw [Int.min_eq_right hc]
      · rw [Int.min_eq_left (by omega), fnd_clip (by omega) (by omega) h0 (by omega)]
    · obtain rfl : b = N := by omega
      rw [Int.sub_self, Int.zero_mul, Int.zero_mul]

theorem gcdI_nil (c : Int) (h : 0 < c) : gcdI 0 c = c := by unfold gcdI; simp; omega

/-- What reduced odds are equal to. -/
theorem red_cross {F C : Int} (hF : 0 ≤ F) (hC : 0 < C) : F / gcdI F C * C = F * (C / gcdI F C) := by
  have hg := gcdI_pos F C hF hC
  obtain ⟨f, hf⟩ := gcdI_dvd_left F C hF
  obtain ⟨c, hc⟩ := gcdI_dvd_right F C (by omega)
  generalize gcdI F C = g at *
  subst hf; subst hc
  rw [Int.mul_ediv_cancel_left _ (by omega), Int.mul_ediv_cancel_left _ (by omega)]
  ac_rfl

theorem red_bounds {F C : Int} (hF : 0 ≤ F) (hC : 0 < C) (h : F ≤ C) : 0 ≤ F / gcdI F C ∧ F / gcdI F C ≤ C / gcdI F C ∧ 1 ≤ C / gcdI F C ∧ C / gcdI F C ≤ C := by
  have hg := gcdI_pos F C hF hC
  refine ⟨Int.ediv_nonneg hF (Int.le_of_lt hg), red_le hF hC h, ?_, Int.ediv_le_self _ (Int.le_of_lt hC)⟩
  obtain ⟨c, hc⟩ := gcdI_dvd_right F C (by omega)
  have hc0 : 0 < c := by
    rcases Int.lt_or_le 0 c with h | h
    · exact h
    · have := Int.mul_nonpos_of_nonneg_of_nonpos (Int.le_of_lt hg) h
      omega
  have : C / gcdI F C = c := by
    conv => lhs; lhs; rw [hc]
    exact Int.mul_ediv_cancel_left _ (by omega)
  omega
theorem withF_le {N b o a : Int} (h1 : b ≤ N) : withF N b o a ≤ cnt (N - 1) (o - 1) := by
  unfold withF
  split
  · exact fnd_le_all (by omega) (by omega) (by omega)
  · exact cnt_nonneg _ _
theorem withoutF_le {N b o a : Int} (h0 : 0 ≤ b) (ho : 1 ≤ o) (ha : 0 ≤ a) : withoutF N b o a ≤ cnt (N - 1) (o - 1) := by
  unfold withoutF
  split
  · exact fnd_le_all h0 (by omega) (by omega)
  · exact cnt_nonneg _ _

/-- The sum of both, over a number that both divide. -/
theorem first_is {N b o a w1 w2 v1 v2 : Int} (h0 : 0 ≤ b) (h1 : b ≤ N) (ho : 1 ≤ o) (hoN : o ≤ N) (ha : 0 ≤ a) (hao : a ≤ o)
    (hw : w1 * cnt (N - 1) (o - 1) = withF N b o a * w2) (hv : v1 * cnt (N - 1) (o - 1) = withoutF N b o a * v2)
    (w10 : 0 ≤ w1) (w12 : w1 ≤ w2) (w20 : 1 ≤ w2) (v10 : 0 ≤ v1) (v12 : v1 ≤ v2) (v20 : 1 ≤ v2) :
    ∃ by' x y : Int, w2 / gcdI w2 v2 * v2 = by' ∧ by' / w2 = x ∧ by' / v2 = y ∧ 0 < by' ∧ 0 ≤ x ∧ 0 ≤ y ∧ x ≤ by' ∧ y ≤ by' ∧ w1 * x ≤ by' ∧ v1 * y ≤ by' ∧ 0 ≤ w1 * x ∧ 0 ≤ v1 * y ∧
      (b * w1 * x + (N - b) * v1 * y) / gcdI (b * w1 * x + (N - b) * v1 * y) (N * by') = fnd N b o 0 a / gcdI (fnd N b o 0 a) (cnt N o) ∧
      N * by' / gcdI (b * w1 * x + (N - b) * v1 * y) (N * by') = cnt N o / gcdI (fnd N b o 0 a) (cnt N o) := by
  have hC := cnt_pos N o (by omega) hoN
  have hC1 := cnt_pos (N - 1) (o - 1) (by omega) (by omega)
  have hCC := cnt_mul N o (by omega)
  have hS := first_sum (N := N) h0 h1 ho ha hao
  have hF := fnd_nonneg N b o 0 a
  have hg := gcdI_pos w2 v2 (by omega) (by omega)
  obtain ⟨w', hw'⟩ := gcdI_dvd_left w2 v2 (by omega)
  obtain ⟨v', hv'⟩ := gcdI_dvd_right w2 v2 (by omega)
  generalize gcdI w2 v2 = g at *
  generalize withF N b o a = Wt at *
  generalize withoutF N b o a = Vt at *
  generalize fnd N b o 0 a = F at *
  generalize cnt (N - 1) (o - 1) = C1 at *
  generalize cnt N o = C at *
  have hwp : 0 < w' := by
    rcases Int.lt_or_le 0 w' with h | h
    · exact h
    · have := Int.mul_nonpos_of_nonneg_of_nonpos (Int.le_of_lt hg) h; omega
  have hvp : 0 < v' := by
    rcases Int.lt_or_le 0 v' with h | h
    · exact h
    · have := Int.mul_nonpos_of_nonneg_of_nonpos (Int.le_of_lt hg) h; omega
  have e1 : w2 / g = w' := by rw [hw']; exact Int.mul_ediv_cancel_left _ (by omega)
  have e2 : w' * v2 / w2 = v' := by
    rw [show w' * v2 = w2 * v' by rw [hv']; conv => rhs; rw [hw']
                                  ac_rfl]
    exact Int.mul_ediv_cancel_left _ (by omega)
  have e3 : w' * v2 / v2 = w' := Int.mul_ediv_cancel _ (by omega)
  have hby : 0 < w' * v2 := Int.mul_pos hwp (by omega)
  have eby : w' * v2 = w2 * v' := by rw [hv']; conv => rhs; rw [hw']
                                     ac_rfl
  have b1 : w1 * v' ≤ w2 * v' := Int.mul_le_mul_of_nonneg_right w12 (by omega)
  have b2 : v1 * w' ≤ v2 * w' := Int.mul_le_mul_of_nonneg_right v12 (by omega)
  have b3 : 0 ≤ w1 * v' := Int.mul_nonneg w10 (by omega)
  have b4 : 0 ≤ v1 * w' := Int.mul_nonneg v10 (by omega)
  have b5 : 1 * v' ≤ w2 * v' := Int.mul_le_mul_of_nonneg_right w20 (by omega)
  have b6 : w' * 1 ≤ w' * v2 := Int.mul_le_mul_of_nonneg_left v20 (by omega)
  have hsum : (b * w1 * v' + (N - b) * v1 * w') * C1 = w' * v2 * (o * F) := by
    rw [hS, Int.add_mul, Int.mul_add]
    congr 1
    · rw [show b * w1 * v' * C1 = b * v' * (w1 * C1) by ac_rfl, hw, eby]; ac_rfl
    · rw [show (N - b) * v1 * w' * C1 = (N - b) * w' * (v1 * C1) by ac_rfl, hv]; ac_rfl
  have s0 : 0 ≤ b * w1 * v' + (N - b) * v1 * w' := by
    have i1 : 0 ≤ b * w1 * v' := by rw [Int.mul_assoc]; exact Int.mul_nonneg h0 b3
    have i2 : 0 ≤ (N - b) * v1 * w' := by rw [Int.mul_assoc]; exact Int.mul_nonneg (by omega) b4
    omega
  have hN : 0 < N * (w' * v2) := Int.mul_pos (by omega) hby
  have hx : (b * w1 * v' + (N - b) * v1 * w') * C = F * (N * (w' * v2)) := by
    have h : ((b * w1 * v' + (N - b) * v1 * w') * C) * C1 = (F * (N * (w' * v2))) * C1 := by
      rw [Int.mul_right_comm, hsum, show w' * v2 * (o * F) * C = w' * v2 * F * (o * C) by ac_rfl, hCC]; ac_rfl
    exact Int.eq_of_mul_eq_mul_right (by omega) h
  obtain ⟨r1, r2⟩ := red_eq s0 hN hF hC hx
  exact ⟨w' * v2, v', w', by rw [e1], e2, e3, hby, by omega, by omega, by omega, by omega, by omega, by rw [Int.mul_comm w' v2]; omega, b3, b4, r1, r2⟩

end Go.Proofs.Ythpllmefbhjmmaa
