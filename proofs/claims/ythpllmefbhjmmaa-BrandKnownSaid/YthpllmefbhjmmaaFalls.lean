/-
  Plain laws on odds: with a barrel more below, or an Allow less, they are never greater; what a rule asks is asked at Good and at Bad alone.
-/
import Derived.Test.YthpllmefbhjmmaaLess
import Derived.Test.YthpllmefbhjmmaaFull
namespace Go.Proofs.Ythpllmefbhjmmaa
open Plain

theorem cnt_pascal (n k : Int) (h : 1 ≤ n) : cnt n k = cnt (n - 1) k + cnt (n - 1) (k - 1) := by
  by_cases h0 : k < 0
  · rw [cnt_neg n k h0, cnt_neg _ k h0, cnt_neg _ _ (by omega)]; rfl
  by_cases h1 : k = 0
  · subst h1; rw [cnt_zero, cnt_zero, cnt_neg _ _ (by omega)]; rfl
  by_cases h2 : n < k
  · rw [cnt_above n k (by omega) h2, cnt_above _ k (by omega) (by omega), cnt_above _ _ (by omega) (by omega)]; rfl
  · exact cnt_step n k (by omega) (by omega)

/-- The sums of b and b + 1, told apart: one product. -/
theorem sum_falls (N b n : Int) (h0 : 0 ≤ b) (h1 : b + 1 ≤ N) : ∀ j : Nat, sumN (term N b n) 0 j = sumN (term N (b + 1) n) 0 j + cnt b ((j : Int) - 1) * cnt (N - (b + 1)) (n - j)
  | 0 => by
    rw [show ((0 : Nat) : Int) - 1 = -1 by omega, cnt_neg b (-1) (by omega), Int.zero_mul]; rfl
  | j + 1 => by
    have ih := sum_falls N b n h0 h1 j
    show sumN (term N b n) 0 j + term N b n (0 + j) = sumN (term N (b + 1) n) 0 j + term N (b + 1) n (0 + j) + _
    have e1 : term N b n (0 + j) = cnt b j * cnt (N - (b + 1)) (n - j) + cnt b j * cnt (N - (b + 1)) (n - (j : Int) - 1) := by
      unfold term
      rw [Int.zero_add, cnt_pascal (N - b) (n - j) (by omega), Int.mul_add, show N - b - 1 = N - (b + 1) by omega]
    have e2 : term N (b + 1) n (0 + j) = cnt b j * cnt (N - (b + 1)) (n - j) + cnt b ((j : Int) - 1) * cnt (N - (b + 1)) (n - j) := by
      unfold term
      rw [Int.zero_add, cnt_pascal (b + 1) j (by omega), Int.add_mul, show b + 1 - 1 = b by omega]
    rw [e1, e2, ih, show ((j + 1 : Nat) : Int) - 1 = j by omega, show n - ((j + 1 : Nat) : Int) = n - (j : Int) - 1 by omega]
    generalize cnt b j * cnt (N - (b + 1)) (n - j) = x
    generalize cnt b ((j : Int) - 1) * cnt (N - (b + 1)) (n - j) = y
    generalize cnt b j * cnt (N - (b + 1)) (n - (j : Int) - 1) = z
    omega

theorem fnd_falls (N b n a : Int) (h0 : 0 ≤ b) (h1 : b + 1 ≤ N) : fnd N (b + 1) n 0 a ≤ fnd N b n 0 a := by
  unfold fnd
  rw [sum_falls N b n h0 h1]
  have := Int.mul_nonneg (cnt_nonneg b (((a + 1 - 0).toNat : Int) - 1)) (cnt_nonneg (N - (b + 1)) (n - ((a + 1 - 0).toNat : Int)))
  omega

theorem fnd_mono (N n a : Int) (b : Int) (h0 : 0 ≤ b) : ∀ d : Nat, b + d ≤ N → fnd N (b + d) n 0 a ≤ fnd N b n 0 a
  | 0, _ => by simp
  | d + 1, h => by
    have ih := fnd_mono N n a b h0 d (by omega)
    have := fnd_falls N (b + d) n a (by omega) (by omega)
    rw [show b + (d : Int) + 1 = b + ((d + 1 : Nat) : Int) by omega] at this
    omega
theorem fnd_anti {N n a b c : Int} (h0 : 0 ≤ b) (h1 : b ≤ c) (h2 : c ≤ N) : fnd N c n 0 a ≤ fnd N b n 0 a := by
  have := fnd_mono N n a b h0 (c - b).toNat (by omega)
  rwa [show b + ((c - b).toNat : Int) = c by omega] at this

theorem sumN_mono (f : Int → Int) (low : Int) (hf : ∀ k, 0 ≤ f k) (n : Nat) : ∀ d : Nat, sumN f low n ≤ sumN f low (n + d)
  | 0 => Int.le_refl _
  | d + 1 => by
    have := sumN_mono f low hf n d
    have := hf (low + (n + d : Nat))
    show _ ≤ sumN f low (n + d) + f (low + (n + d : Nat))
    omega
theorem fnd_allow {N n b a c : Int} (h : a ≤ c) : fnd N b n 0 a ≤ fnd N b n 0 c := by
  unfold fnd
  have := sumN_mono (term N b n) 0 (term_nonneg N b n) (a + 1 - 0).toNat ((c + 1 - 0).toNat - (a + 1 - 0).toNat)
  rwa [show (a + 1 - 0).toNat + ((c + 1 - 0).toNat - (a + 1 - 0).toNat) = (c + 1 - 0).toNat by omega] at this

theorem gcdI_dvd_left (a b : Int) (ha : 0 ≤ a) : gcdI a b ∣ a := by
  unfold gcdI
  have h := Nat.gcd_dvd_left a.toNat b.toNat
  have := Int.natCast_dvd_natCast.2 h
  rwa [Int.toNat_of_nonneg ha] at this
theorem gcdI_dvd_right (a b : Int) (hb : 0 ≤ b) : gcdI a b ∣ b := by
  unfold gcdI
  have h := Nat.gcd_dvd_right a.toNat b.toNat
  have := Int.natCast_dvd_natCast.2 h
  rwa [Int.toNat_of_nonneg hb] at this

/-- Reduced odds against others, and others against reduced ones. -/
theorem less_red {F C p q : Int} (hF : 0 ≤ F) (hC : 0 < C) : lessB (F / gcdI F C) (C / gcdI F C) p q = decide (F * q < p * C) := by
  have hg := gcdI_pos F C hF hC
  obtain ⟨f, hf⟩ := gcdI_dvd_left F C hF
  obtain ⟨c, hc⟩ := gcdI_dvd_right F C (by omega)
  generalize gcdI F C = g at *
  subst hf; subst hc
  unfold lessB
  rw [Int.mul_ediv_cancel_left _ (by omega), Int.mul_ediv_cancel_left _ (by omega), decide_eq_decide]
  rw [show g * f * q = g * (f * q) by rw [Int.mul_assoc], show p * (g * c) = g * (p * c) by rw [Int.mul_left_comm]]
  constructor
  · intro h; exact Int.mul_lt_mul_of_pos_left h hg
  · intro h; exact Int.lt_of_mul_lt_mul_left h (by omega)
theorem red_less {F C p q : Int} (hF : 0 ≤ F) (hC : 0 < C) : lessB p q (F / gcdI F C) (C / gcdI F C) = decide (p * C < F * q) := by
  have hg := gcdI_pos F C hF hC
  obtain ⟨f, hf⟩ := gcdI_dvd_left F C hF
  obtain ⟨c, hc⟩ := gcdI_dvd_right F C (by omega)
  generalize gcdI F C = g at *
  subst hf; subst hc
  unfold lessB
  rw [Int.mul_ediv_cancel_left _ (by omega), Int.mul_ediv_cancel_left _ (by omega), decide_eq_decide]
  rw [show g * f * q = g * (f * q) by rw [Int.mul_assoc], show p * (g * c) = g * (p * c) by rw [Int.mul_left_comm]]
  constructor
  · intro h; exact Int.mul_lt_mul_of_pos_left h hg
  · intro h; exact Int.lt_of_mul_lt_mul_left h (by omega)

/-- A plan keeps a rule just if it does at Good and at Bad. -/
theorem keepsB_iff {N : Int} {r : Rl} {o a : Int} (hN : 0 ≤ N) (hr : ruleB N r = true) :
    keepsB N r o a = (!decide (fnd N r.g o 0 a * r.pi < r.po * cnt N o) && !decide (r.fo * cnt N o < fnd N r.b o 0 a * r.fi)) := by
  obtain ⟨h1, h2, h3, h4, h5⟩ := ruleB_true hr
  obtain ⟨p1, p2, p3, p4⟩ := oddsB_true h4
  obtain ⟨f1, f2, f3, f4⟩ := oddsB_true h5
  by_cases hg : fnd N r.g o 0 a * r.pi < r.po * cnt N o
  · rw [decide_eq_true hg]
    obtain ⟨g, hgn⟩ := Int.eq_ofNat_of_zero_le h1
    refine (keepsB_false (j := g) (by omega) ?_).trans (by simp)
    unfold keepsAt
    rw [← hgn, decide_eq_true (Int.le_refl _), decide_eq_true (show fnd N r.g o 0 a * r.pi - r.po * cnt N o < 0 by omega)]
    rfl
  by_cases hb : r.fo * cnt N o < fnd N r.b o 0 a * r.fi
  · rw [decide_eq_true hb]
    obtain ⟨b, hbn⟩ := Int.eq_ofNat_of_zero_le (show 0 ≤ r.b by omega)
    refine (keepsB_false (j := b) (by omega) ?_).trans (by simp)
    unfold keepsAt
    rw [← hbn, decide_eq_true (Int.le_refl _), decide_eq_true (show 0 < fnd N r.b o 0 a * r.fi - r.fo * cnt N o by omega)]
    simp
  · rw [decide_eq_false hg, decide_eq_false hb]
    refine keepsB_true hN (fun j hj => ?_)
    unfold keepsAt
    by_cases hjg : (j : Int) ≤ r.g
    · have m1 := fnd_anti (N := N) (n := o) (a := a) (show (0 : Int) ≤ j by omega) hjg (by omega)
      have m2 := Int.mul_le_mul_of_nonneg_right m1 (show 0 ≤ r.pi by omega)
      rw [decide_eq_false (show ¬ fnd N j o 0 a * r.pi - r.po * cnt N o < 0 by omega), decide_eq_false (show ¬ r.b ≤ (j : Int) by omega)]
      simp
    · rw [decide_eq_false hjg]
      by_cases hjb : r.b ≤ (j : Int)
      · have m1 := fnd_anti (N := N) (n := o) (a := a) (show (0 : Int) ≤ r.b by omega) hjb hj
        have m2 := Int.mul_le_mul_of_nonneg_right m1 (show 0 ≤ r.fi by omega)
        rw [decide_eq_false (show ¬ 0 < fnd N j o 0 a * r.fi - r.fo * cnt N o by omega)]
        simp
      · rw [decide_eq_false hjb]; simp

end Go.Proofs.Ythpllmefbhjmmaa
