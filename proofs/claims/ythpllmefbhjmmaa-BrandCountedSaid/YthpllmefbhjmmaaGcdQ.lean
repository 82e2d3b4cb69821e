/-
  The greatest divisor: a function that only draws.
-/
import Derived.Test.YthpllmefbhjmmaaRefOdds
import Derived.Deep.QuietTactic
namespace Go.Proofs.Ythpllmefbhjmmaa
open Go.RowKit Go.Maps Plain
attribute [local go_sem] Oper.semAt_some

set_option maxRecDepth 100000 in
set_option maxHeartbeats 800000 in
theorem gcd_q (a b : Int) (w : World) (ha0 : 0 ≤ a) (ha : a ≤ 9223372036854775807) (hb0 : 0 ≤ b) (hb : b ≤ 9223372036854775807) :
    Calls Try.prog 45 #[.int .i64 a, .int .i64 b] w fun e w' => e = .returned (.int .i64 (gcdI a b)) ∧ ∃ m, w' = w.drewN m := by
  go_enter Try.func45, Try.ntmps45
  go_wp2_with (go_at_call 94; refine (abs_is _ _ (by omega) (by omega)).mono ?_; rintro e w1 ⟨rfl, rfl⟩)
  go_loopw [0, 1] (fun x y wr => ∃ p q : Int, x = .int .i64 p ∧ y = .int .i64 q ∧ 0 ≤ p ∧ 0 ≤ q ∧ p ≤ 9223372036854775807 ∧ q ≤ 9223372036854775807 ∧ gcdI p q = gcdI a b ∧ ∃ m, wr = w.drewN m) (fun _ y _ => (intOf y).toNat)
  case atStart => exact ⟨a, b, rfl, rfl, ha0, hb0, ha, hb, rfl, 0, rfl⟩
  case round =>
    obtain ⟨x, y, rfl, rfl, hx, hy, hx1, hy1, hg, m, rfl⟩ := hrel
    have Hg := Lib.hid hg
    clear hg
    by_cases hz : y = 0
    · subst hz
      have He : Hid (gcdI a b = x) := by show gcdI a b = x; rw [← Hg.out, gcdI_zero x hx]
      go_wp2_with fail
      go_ret
      exact ⟨by rw [He.out]; rfl, m, rfl⟩
    · have hy0 : 1 ≤ y := by omega
      have hz1 : (y == 0) = false := by simp; omega
      have hz2 : (y != 0) = true := by simp; omega
      have Hn := Lib.hid (gcdI_step x y hx (by omega))
      have hm := Int.emod_nonneg x hz
      have hm2 := Int.emod_lt_of_pos x (show 0 < y by omega)
      go_wp2
      go_quiet (fail)
      go_wp2
      go_roundw
      case rel => exact ⟨_, _, rfl, rfl, by omega, hm, by omega, by omega, by rw [Hn.out]; exact Hg.out, _, World.drewN_drewN ..⟩
      case measure => simp [intOf]; omega

theorem gcd_ex {g : Int} (a b : Int) (w : World) (ha0 : 0 ≤ a) (ha : a ≤ 9223372036854775807) (hb0 : 0 ≤ b) (hb : b ≤ 9223372036854775807) (h : gcdI a b = g) :
    Calls Try.prog 45 #[.int .i64 a, .int .i64 b] w fun e w' => e = .returned (.int .i64 g) ∧ ∃ m, w' = w.drewN m := by
  rw [← h]; exact gcd_q a b w ha0 ha hb0 hb

end Go.Proofs.Ythpllmefbhjmmaa
