/-
  Plain laws on doubt, more: the odds of finding at least so many, as the law reckons them.
-/
import Derived.Test.YthpllmefbhjmmaaDoubtLaw
import Derived.Test.YthpllmefbhjmmaaOddsLaw
namespace Go.Proofs.Ythpllmefbhjmmaa
open Plain

/-- One less odds, reduced, against others. -/
theorem less_sub {F C p q : Int} (hF : 0 ≤ F) (hC : 0 < C) : lessB p q (C / gcdI F C - F / gcdI F C) (C / gcdI F C) = decide (p * C < (C - F) * q) := by
  have hg := gcdI_pos F C hF hC
  obtain ⟨f, hf⟩ := gcdI_dvd_left F C hF
  obtain ⟨c, hc⟩ := gcdI_dvd_right F C (by omega)
  generalize gcdI F C = g at *
  subst hf; subst hc
  unfold lessB
  rw [Int.mul_ediv_cancel_left _ (by omega), Int.mul_ediv_cancel_left _ (by omega), decide_eq_decide]
  rw [← Int.mul_sub, Int.mul_assoc g, Int.mul_left_comm p]
  constructor
  · intro h; exact Int.mul_lt_mul_of_pos_left h hg
  · intro h; exact Int.lt_of_mul_lt_mul_left h (by omega)

/-- The odds of finding at least f. -/
def many1 (N b o f : Int) : Int := if 0 < f then cnt N o / gcdI (fnd N b o 0 (f - 1)) (cnt N o) - fnd N b o 0 (f - 1) / gcdI (fnd N b o 0 (f - 1)) (cnt N o) else 1
def many2 (N b o f : Int) : Int := if 0 < f then cnt N o / gcdI (fnd N b o 0 (f - 1)) (cnt N o) else 1

theorem many_less {N b o f dof din : Int} (h2 : inB o 0 N = true) (h3 : inB f 0 o = true) (hb0 : 0 ≤ b) (hb : b ≤ N) :
    lessB dof din (many1 N b o f) (many2 N b o f) = decide (dof * cnt N o < fnd N b o f o * din) := by
  obtain ⟨g3, g4⟩ := inB_true h2
  obtain ⟨g5, g6⟩ := inB_true h3
  have hC := cnt_pos N o g3 g4
  rw [fnd_rest hb0 hb g5 g6]
  unfold many1 many2
  by_cases hf : 0 < f
  · rw [if_pos hf, if_pos hf, less_sub (fnd_nonneg N b o 0 (f - 1)) hC]
  · obtain rfl : f = 0 := by omega
    rw [if_neg hf, if_neg hf, show fnd N b o 0 (0 - 1) = 0 from rfl]
    unfold lessB
    rw [decide_eq_decide, Int.sub_zero, Int.mul_one, Int.one_mul, Int.mul_comm dof]
    constructor
    · intro h; exact Int.mul_lt_mul_of_pos_left h hC
    · intro h; exact Int.lt_of_mul_lt_mul_left h (by omega)

theorem many_bounds {N b o f : Int} (h1 : inB N 1 40 = true) (hb : inB b 0 N = true) (h2 : inB o 0 N = true) (h3 : inB f 0 o = true) :
    0 ≤ many1 N b o f ∧ many1 N b o f ≤ 1099511627776 ∧ 1 ≤ many2 N b o f ∧ many2 N b o f ≤ 1099511627776 := by
  obtain ⟨g1, g2⟩ := inB_true h1
  obtain ⟨g3, g4⟩ := inB_true h2
  obtain ⟨g5, g6⟩ := inB_true h3
  obtain ⟨g7, g8⟩ := inB_true hb
  unfold many1 many2
  by_cases hf : 0 < f
  · have hr := odds_bounds h1 hb h2 (inB_mk (n := f - 1) (lo := 0) (hi := o) ⟨by omega, by omega⟩)
    have hle := red_le (fnd_nonneg N b o 0 (f - 1)) (cnt_pos N o g3 g4) (fnd_le_all (n := o) (a := f - 1) g7 g8 (by omega))
    rw [if_pos hf, if_pos hf]
    omega
  · rw [if_neg hf, if_neg hf]; omega

theorem can_is {N b o f dof din : Int} (hb : inB b 0 N = true) (h2 : inB o 0 N = true) (h3 : inB f 0 o = true) :
    canB N o f dof din b = (lessB dof din (fnd N b o 0 f / gcdI (fnd N b o 0 f) (cnt N o)) (cnt N o / gcdI (fnd N b o 0 f) (cnt N o)) && lessB dof din (many1 N b o f) (many2 N b o f)) := by
  obtain ⟨g3, g4⟩ := inB_true h2
  obtain ⟨g7, g8⟩ := inB_true hb
  have hC := cnt_pos N o g3 g4
  rw [many_less h2 h3 g7 g8, red_less (fnd_nonneg N b o 0 f) hC, Bool.eq_iff_iff, canB_true, Bool.and_eq_true, decide_eq_true_iff, decide_eq_true_iff]

end Go.Proofs.Ythpllmefbhjmmaa
