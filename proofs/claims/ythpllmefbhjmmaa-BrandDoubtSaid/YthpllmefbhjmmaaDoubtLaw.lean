/-
  Plain laws on doubt: what 'Below' tells holds a number just if it can be; all opened: just what was found.
-/
import Derived.Test.YthpllmefbhjmmaaBelow
import Derived.Test.YthpllmefbhjmmaaFallsMore
namespace Go.Proofs.Ythpllmefbhjmmaa
open Plain

theorem sumN_app (f : Int → Int) (low : Int) (m : Nat) : ∀ d : Nat, sumN f low (m + d) = sumN f low m + sumN f (low + m) d
  | 0 => by show sumN f low m = sumN f low m + 0; omega
  | d + 1 => by
    have ih := sumN_app f low m d
    show sumN f low (m + d) + f (low + (m + d : Nat)) = sumN f low m + (sumN f (low + m) d + f (low + m + d))
    rw [ih, show low + ((m + d : Nat) : Int) = low + m + d by omega]
    omega

/-- At least f are found: all choices but those that find fewer. -/
theorem fnd_rest {N b o f : Int} (h0 : 0 ≤ b) (h1 : b ≤ N) (hf : 0 ≤ f) (hfo : f ≤ o) : fnd N b o f o = cnt N o - fnd N b o 0 (f - 1) := by
  obtain ⟨c, rfl⟩ := Int.eq_ofNat_of_zero_le h0
  have h := fnd_all N o (by omega) c h1
  have e := sumN_app (term N c o) 0 (f - 1 + 1 - 0).toNat (o + 1 - f).toNat
  unfold fnd at h ⊢
  rw [show (o + 1 - 0).toNat = (f - 1 + 1 - 0).toNat + (o + 1 - f).toNat by omega, e, show (0 : Int) + (((f - 1 + 1 - 0).toNat : Nat) : Int) = f by omega] at h
  omega

theorem canB_true {N o f dof din j : Int} : canB N o f dof din j = true ↔ (dof * cnt N o < fnd N j o 0 f * din ∧ dof * cnt N o < fnd N j o f o * din) := by
  unfold canB
  rw [Bool.and_eq_true, decide_eq_true_iff, decide_eq_true_iff]
  omega

theorem can_between {N o f dof din : Int} {x y z : Int} (hx : 0 ≤ x) (hxy : x ≤ y) (hyz : y ≤ z) (hz : z ≤ N) (hf : 0 ≤ f) (hfo : f ≤ o) (hd : 1 ≤ din)
    (cx : canB N o f dof din x = true) (cz : canB N o f dof din z = true) : canB N o f dof din y = true := by
  rw [canB_true] at cx cz ⊢
  have m1 := Int.mul_le_mul_of_nonneg_right (fnd_anti (N := N) (n := o) (a := f) (show 0 ≤ y by omega) hyz hz) (show 0 ≤ din by omega)
  have r1 := fnd_rest (N := N) (b := x) (o := o) (f := f) hx (by omega) hf hfo
  have r2 := fnd_rest (N := N) (b := y) (o := o) (f := f) (by omega) (by omega) hf hfo
  have a1 := fnd_anti (N := N) (n := o) (a := f - 1) hx hxy (by omega)
  have m2 := Int.mul_le_mul_of_nonneg_right (show fnd N x o f o ≤ fnd N y o f o by omega) (show 0 ≤ din by omega)
  omega

theorem greatest_ge : ∀ (l : List Int) (x : Int), x ≤ greatestL x l ∧ ∀ y ∈ l, y ≤ greatestL x l
  | [], x => ⟨Int.le_refl _, fun y h => by cases h⟩
  | a :: l, x => by
    have ih := greatest_ge l (max x a)
    have e : greatestL x (a :: l) = greatestL (max x a) l := rfl
    rw [e]
    refine ⟨by omega, fun y hy => ?_⟩
    rcases List.mem_cons.1 hy with rfl | hy
    · omega
    · exact ih.2 y hy
theorem greatest_mem : ∀ (l : List Int) (x : Int), greatestL x l = x ∨ greatestL x l ∈ l
  | [], x => .inl rfl
  | a :: l, x => by
    have ih := greatest_mem l (max x a)
    have e : greatestL x (a :: l) = greatestL (max x a) l := rfl
    rw [e]
    rcases ih with h | h
    · rw [h]
      rcases Int.le_total x a with h1 | h1
      · right; rw [Int.max_eq_right h1]; exact List.mem_cons_self
      · left; rw [Int.max_eq_left h1]
    · right; exact List.mem_cons_of_mem _ h

/-- What 'Below' answers, where nothing is amiss. -/
theorem belowR_cases {N o f dof din : Int} (h1 : inB N 1 40 = true) (h2 : inB o 0 N = true) (h3 : inB f 0 o = true) :
    (oddsB dof din = false ∧ belowR N o f dof din = (0, 0, 71)) ∨
    (oddsB dof din = true ∧ ∃ x y e : Int, belowR N o f dof din = (x, y, e) ∧ (e = 0 ∧ 0 ≤ x ∧ x ≤ y ∧ y ≤ N ∨ e = 4 ∧ x = 0 ∧ y = 0) ∧ ∀ b : Int, 0 ≤ b → b ≤ N → ((decide (e = 0) && inB b x y) = canB N o f dof din b)) := by
  unfold belowR
  rw [if_pos ⟨h1, h2, h3⟩]
  cases h4 : oddsB dof din with
  | false => exact .inl ⟨rfl, by simp⟩
  | true =>
    right
    refine ⟨rfl, ?_⟩
    rw [if_pos rfl]
    obtain ⟨g1, g2⟩ := inB_true h1
    obtain ⟨g3, g4⟩ := inB_true h2
    obtain ⟨g5, g6⟩ := inB_true h3
    obtain ⟨g7, g8, g9, g10⟩ := oddsB_true h4
    have hmem : ∀ j : Nat, j ∈ outTo N o f dof din (N.toNat + 1) ↔ ((j : Int) ≤ N ∧ canB N o f dof din j = true) := by
      intro j
      unfold outTo
      rw [List.mem_filter, List.mem_range]
      constructor
      · rintro ⟨a, b⟩; exact ⟨by omega, b⟩
      · rintro ⟨a, b⟩; exact ⟨by omega, b⟩
    have hsort : (outTo N o f dof din (N.toNat + 1)).Pairwise (· < ·) := List.Pairwise.filter _ List.pairwise_lt_range
    generalize outTo N o f dof din (N.toNat + 1) = l at *
    cases l with
    | nil =>
      refine ⟨0, 0, 4, rfl, .inr ⟨rfl, rfl, rfl⟩, fun b hb0 hb => ?_⟩
      obtain ⟨c, rfl⟩ := Int.eq_ofNat_of_zero_le hb0
      cases hc : canB N o f dof din c with
      | false => rfl
      | true => exact absurd ((hmem c).2 ⟨hb, hc⟩) (by simp)
    | cons x l =>
      have hge := greatest_ge ((x :: l).map fun n : Nat => (n : Int)) x
      have hgm : ∃ z : Nat, z ∈ x :: l ∧ greatestL x ((x :: l).map fun n : Nat => (n : Int)) = z := by
        rcases greatest_mem ((x :: l).map fun n : Nat => (n : Int)) x with h | h
        · exact ⟨x, by simp, h⟩
        · obtain ⟨z, hz, he⟩ := List.mem_map.1 h
          exact ⟨z, hz, he.symm⟩
      obtain ⟨z, hz, he⟩ := hgm
      rw [he] at hge
      have hx := (hmem x).1 (by simp)
      have hzz := (hmem z).1 hz
      refine ⟨x, z, 0, by rw [← he], .inl ⟨rfl, by omega, hge.1, hzz.1⟩, fun b hb0 hb => ?_⟩
      obtain ⟨c, rfl⟩ := Int.eq_ofNat_of_zero_le hb0
      simp only [decide_true, Bool.true_and]
      rw [Bool.eq_iff_iff]
      constructor
      · intro h
        obtain ⟨a1, a2⟩ := inB_true h
        exact can_between (by omega) a1 a2 hzz.1 g5 g6 g7 hx.2 hzz.2
      · intro h
        have hm := (hmem c).2 ⟨hb, h⟩
        refine inB_mk ⟨?_, hge.2 c (List.mem_map.2 ⟨c, hm, rfl⟩)⟩
        rcases List.mem_cons.1 hm with rfl | hm
        · omega
        · have := List.rel_of_pairwise_cons hsort hm
          omega

/-- All are opened: just as many can be below as were found, if doubt is less than 1. -/
theorem canB_full {N f dof din j : Int} (hf : 0 ≤ f) (hfN : f ≤ N) (hj : 0 ≤ j) (hjN : j ≤ N) (hd : oddsB dof din = true) : canB N N f dof din j = (decide (j = f) && decide (dof < din)) := by
  obtain ⟨g7, g8, g9, g10⟩ := oddsB_true hd
  rw [Bool.eq_iff_iff, canB_true, Bool.and_eq_true, decide_eq_true_iff, decide_eq_true_iff]
  have hr := fnd_rest (N := N) (b := j) (o := N) (f := f) hj hjN hf hfN
  rw [hr, cnt_self N (by omega), fnd_full N j f hj hjN hf]
  by_cases hf0 : f = 0
  · subst hf0
    rw [show (0 : Int) - 1 = -1 by omega, show fnd N j N 0 (-1) = 0 from rfl]
    split <;> omega
  · rw [fnd_full N j (f - 1) hj hjN (by omega)]
    split <;> split <;> omega

theorem belowR_full {N f dof din : Int} (h1 : inB N 1 40 = true) (h3 : inB f 0 N = true) (hd : oddsB dof din = true) :
    belowR N N f dof din = if dof = din then (0, 0, 4) else (f, f, 0) := by
  obtain ⟨g1, g2⟩ := inB_true h1
  obtain ⟨g5, g6⟩ := inB_true h3
  obtain ⟨g7, g8, g9, g10⟩ := oddsB_true hd
  rcases belowR_cases (dof := dof) (din := din) h1 (inB_mk (n := N) (lo := 0) (hi := N) ⟨by omega, by omega⟩) h3 with ⟨hx, _⟩ | ⟨_, x, y, e, hb, he, hall⟩
  · rw [hd] at hx; cases hx
  rw [hb]
  have hcan : ∀ b : Int, 0 ≤ b → b ≤ N → ((decide (e = 0) && inB b x y) = (decide (b = f) && decide (dof < din))) := fun b h0 hN => (hall b h0 hN).trans (canB_full g5 g6 h0 hN hd)
  rcases he with ⟨rfl, x0, xy, yN⟩ | ⟨rfl, rfl, rfl⟩
  · have c1 := hcan x x0 (by omega)
    have c2 := hcan y (by omega) yN
    rw [inB_mk ⟨Int.le_refl _, xy⟩] at c1
    rw [inB_mk ⟨xy, Int.le_refl _⟩] at c2
    simp only [decide_true, Bool.true_and] at c1 c2
    have c1' := c1.symm
    have c2' := c2.symm
    rw [Bool.and_eq_true, decide_eq_true_iff, decide_eq_true_iff] at c1' c2'
    rw [if_neg (by omega), c1'.1, c2'.1]
  · have c1 := hcan f g5 g6
    rw [if_pos]
    rw [decide_eq_false (show ¬ (4 : Int) = 0 by omega), Bool.false_and, decide_eq_true (rfl : f = f), Bool.true_and] at c1
    have := of_decide_eq_false c1.symm
    omega

end Go.Proofs.Ythpllmefbhjmmaa
