/-
  The small functions of the outright laws: the rest of a division, lots and rules as small as they can be.
-/
import Derived.Test.YthpllmefbhjmmaaRefGrade
import Derived.Test.YthpllmefbhjmmaaSmall
namespace Go.Proofs.Ythpllmefbhjmmaa
open Go.RowKit Go.Maps Plain

set_option maxHeartbeats 800000 in
theorem sized_is (N : Int) (w : World) (h1 : 1 ≤ N) (h2 : N ≤ 40) :
    Calls Try.prog 95 #[.int .i64 N] w fun e w' => e = .returned (.bool true) ∧ w = w' := by
  go_enter Try.func95, Try.ntmps95
  go_wp2_with (go_at_call 34; refine (in_is _ _ _ _ (inB_mk ⟨by omega, by omega⟩)).mono ?_; rintro e w1 ⟨rfl, rfl⟩)
  go_ret
  exact ⟨rfl, rfl⟩

set_option maxRecDepth 100000 in
set_option maxHeartbeats 1600000 in
theorem ruledLaw_is (N : Int) (r : Rl) (w : World) (h1 : inB N 1 40 = true) (h2 : ruleB N r = true) :
    Calls Try.prog 48 #[.int .i64 N, rlV r] w fun e w' => e = .returned (.bool true) ∧ Below w.heap.size w w' := by
  obtain ⟨g1, g2⟩ := inB_true h1
  obtain ⟨k1, k2, k3, k4, k5⟩ := ruleB_true h2
  obtain ⟨p1, p2, p3, p4⟩ := oddsB_true k4
  obtain ⟨f1, f2, f3, f4⟩ := oddsB_true k5
  clear k4 k5 h1 h2
  obtain ⟨g, po, pi, b, fo, fi⟩ := r
  simp only at k1 k2 k3 p1 p2 p3 p4 f1 f2 f3 f4
  have hB := (below_alloc (w := w) (.cells #[.int .i64 g, .int .i64 po, .int .i64 pi, .int .i64 b, .int .i64 fo, .int .i64 fi] 39))
  go_enter Try.func48, Try.ntmps48
  go_wp2_with first
    | (go_at_call 95; refine (sized_is _ _ (by omega) (by omega)).mono ?_; rintro e w1 ⟨rfl, rfl⟩)
    | (go_at_call 34; refine (in_is _ _ _ _ (inB_mk ⟨by omega, by omega⟩)).mono ?_; rintro e w1 ⟨rfl, rfl⟩)
  go_ret
  exact ⟨rfl, hB⟩

set_option maxHeartbeats 800000 in
theorem mod_is (n b : Int) (w : World) (_ : -9223372036854775808 ≤ n) (_ : n ≤ 9223372036854775807) (h1 : 1 ≤ b) (h2 : b ≤ 1000000) :
    Calls Try.prog 33 #[.int .i64 n, .int .i64 b] w fun e w' => e = .returned (.int .i64 (n % b)) ∧ w = w' := by
  have hb : ¬ b = 0 := by omega
  have t0 := @Int.tmod_eq_emod n b
  have m0 := Int.emod_nonneg n hb
  have m1 := Int.emod_lt_of_pos n (show 0 < b by omega)
  obtain ⟨x, hx⟩ : ∃ x, n.tmod b = x := ⟨_, rfl⟩
  rw [hx] at t0
  by_cases hlt : x < 0
  · have he : x + b = n % b := by
      split at t0 <;> omega
    have hd : decide (x < 0) = true := by simpa using hlt
    have Hx := Lib.hid he
    clear t0
    go_enter Try.func33, Try.ntmps33
    go_wp2_with fail
    go_ret
    exact ⟨by rw [← Hx.out]; rfl, rfl⟩
  · have he : x = n % b := by
      split at t0 <;> omega
    have hd : decide (x < 0) = false := by simpa using hlt
    have Hx := Lib.hid he
    clear t0 he
    go_enter Try.func33, Try.ntmps33
    go_wp2_with fail
    go_ret
    exact ⟨by rw [← Hx.out]; rfl, rfl⟩

theorem mod_q (n b : Int) (w : World) (hn0 : -9223372036854775808 ≤ n) (hn : n ≤ 9223372036854775807) (h1 : 1 ≤ b) (h2 : b ≤ 1000000) :
    Calls Try.prog 33 #[.int .i64 n, .int .i64 b] w fun e w' => e = .returned (.int .i64 (n % b)) ∧ w' = w :=
  (mod_is n b w hn0 hn h1 h2).mono fun _ _ ⟨he, hw⟩ => ⟨he, hw.symm⟩

end Go.Proofs.Ythpllmefbhjmmaa
