/-
  The reference: choices, what is found, the greatest divisor, plans, 'Odds'.
-/
import Derived.Test.YthpllmefbhjmmaaRefGrade
import Derived.Lib.MinMax
import Derived.BigQuiet
namespace Go.Proofs.Ythpllmefbhjmmaa
open Go.RowKit Go.Maps Plain
attribute [local go_sem] Oper.semAt_some

theorem choices_step (d j : Nat) (_ : d + j + 1 ≤ 40) : ((ch (d + j) j : Int) * ((d : Int) + ((j : Int) + 1))).tdiv ((j : Int) + 1) = (ch (d + j + 1) (j + 1) : Nat) := by
  have h1 := ch_mul (d + j) j
  have h2 : ((ch (d + j) j : Int) * ((d : Int) + ((j : Int) + 1))) = (((j + 1) * ch (d + j + 1) (j + 1) : Nat) : Int) := by
    rw [h1]; push_cast; rw [Int.mul_comm]; congr 1
  rw [h2, Int.natCast_mul, show ((j : Int) + 1) = ((j + 1 : Nat) : Int) by omega, Int.mul_tdiv_cancel_left _ (by omega)]

set_option maxHeartbeats 800000 in
theorem choices_any (n k : Int) (w : World) (h0 : 0 ≤ n) (h1 : n ≤ 40) :
    Calls Try.prog 69 #[.int .i64 n, .int .i64 k] w fun e w' => e = .returned (.int .i64 (cnt n k)) ∧ w = w' := by
  by_cases h : 0 ≤ k ∧ k ≤ n
  · obtain ⟨hk0, hk1⟩ := h
    have Hin := Lib.hid (inB_mk (n := k) (lo := 0) (hi := n) ⟨hk0, hk1⟩)
    obtain ⟨c, rfl⟩ := Int.eq_ofNat_of_zero_le hk0
    obtain ⟨d, hd⟩ := Int.eq_ofNat_of_zero_le (show 0 ≤ n - c by omega)
    obtain rfl : n = (d : Int) + (c : Int) := by omega
    have hw0 : IntKind.i64.wrap ((d : Int) + (c : Int) - (c : Int)) = (d : Int) := by rw [IntWalk.i64_in _ (by omega)]; omega
    have Hc : Hid (cnt ((d : Int) + (c : Int)) c = (ch (d + c) c : Nat)) := by show _ = _; rw [show (d : Int) + (c : Int) = ((d + c : Nat) : Int) by omega, cnt_nat]
    clear hd
    go_enter Try.func69, Try.ntmps69
    go_wp2_with fail
    refine (in_is _ _ _ _ Hin.out).mono ?_
    rintro e w1 ⟨rfl, rfl⟩
    go_wp2_with fail
    go_loopw [5, 6] (fun s i wr => ∃ j : Nat, j ≤ c ∧ i = .int .i64 ((j : Int) + 1) ∧ s = .int .i64 (ch (d + j) j : Nat) ∧ w = wr) (fun _ i _ => (c + 1 - (intOf i).toNat))
    case atStart => exact ⟨0, by omega, rfl, by simp, by first | rfl | trivial⟩
    case round =>
      obtain ⟨j, hj, rfl, rfl, rfl⟩ := hrel
      by_cases hlt : j < c
      · have hb := ch_le (d + j) j
        have hp : 2 ^ (d + j) ≤ 2 ^ 40 := two_pow_le (by omega)
        have e40 : (2 : Nat) ^ 40 = 1099511627776 := by decide
        have hb2 := ch_le (d + j + 1) (j + 1)
        have hp2 : 2 ^ (d + j + 1) ≤ 2 ^ 40 := two_pow_le (by omega)
        have hs := choices_step d j (by omega)
        generalize hz : ch (d + j + 1) (j + 1) = z at hb2 hs
        generalize hx : ch (d + j) j = x at hb hs
        have hx40 : x ≤ 1099511627776 := by omega
        have hz40 : z ≤ 1099511627776 := by omega
        have Hz : Hid (ch (d + (j + 1)) (j + 1) = z) := by show _ = _; rw [← hz]; rfl
        have hpos : (0 : Int) ≤ (x : Int) * ((d : Int) + ((j : Int) + 1)) := Int.mul_nonneg (by omega) (by omega)
        have hup : (x : Int) * ((d : Int) + ((j : Int) + 1)) ≤ 1099511627776 * 40 := Int.mul_le_mul (by omega) (by omega) (by omega) (by omega)
        have hm1 : IntKind.i64.wrap ((x : Int) * ((d : Int) + ((j : Int) + 1))) = (x : Int) * ((d : Int) + ((j : Int) + 1)) := IntWalk.i64_in _ (by omega)
        have hm2 : IntKind.i64.wrap (((x : Int) * ((d : Int) + ((j : Int) + 1))).tdiv ((j : Int) + 1)) = (z : Int) := by rw [hs, IntWalk.i64_in _ (by omega)]
        have hne : (((j : Int) + 1) == 0) = false := by simp; omega
        have hne' : ¬ ((j : Int) + 1 = 0) := by omega
        clear hs hpos hup hb hb2 hz hx
        go_wp2_with fail
        go_roundw
        case rel => exact ⟨j + 1, by omega, by go_num, by rw [Hz.out], by first | rfl | trivial⟩
        case measure => simp [intOf]; omega
      · obtain rfl : j = c := by omega
        go_wp2_with fail
        go_ret
        exact ⟨by rw [Hc.out]; rfl, rfl⟩
  · have Hin := Lib.hid (inB_no (n := k) (lo := 0) (hi := n) h)
    have Hc : Hid (cnt n k = 0) := by
      show _ = _
      by_cases hk : k < 0
      · exact cnt_neg n k hk
      · exact cnt_above n k h0 (by omega)
    go_enter Try.func69, Try.ntmps69
    go_wp2_with fail
    refine (in_is _ _ _ _ Hin.out).mono ?_
    rintro e w1 ⟨rfl, rfl⟩
    go_wp2_with fail
    go_ret
    exact ⟨by rw [Hc.out]; rfl, rfl⟩

theorem choices_b (n k : Int) (w : World) (h0 : 0 ≤ n) (h1 : n ≤ 40) :
    Calls Try.prog 69 #[.int .i64 n, .int .i64 k] w fun e w' => e = .returned (.int .i64 (cnt n k)) ∧ Below w.heap.size w w' :=
  (choices_any n k w h0 h1).mono fun _ _ ⟨he, hw⟩ => ⟨he, by subst hw; exact Below.refl _ _⟩

theorem wrap_termR {N b n low : Int} (j : Nat) (hN : N ≤ 40) (hb0 : 0 ≤ b) (hb : b ≤ N) (hj : j ≤ 40) :
    IntKind.i64.wrap (cnt b (low + j) * cnt (N - b) (n - (low + j))) = cnt b (low + j) * cnt (N - b) (n - (low + j)) ∧
      IntKind.i64.wrap (sumN (term N b n) low j + cnt b (low + j) * cnt (N - b) (n - (low + j))) = sumN (term N b n) low (j + 1) := by
  have h1 := term_le N b n (low + j) hb0 hb hN
  have h2 := term_nonneg N b n (low + j)
  have h3 := sumTo_le N b n low hb0 hb hN j (by omega)
  have h4 := sumN_nonneg (term N b n) low (term_nonneg N b n) j
  have e : cnt b (low + j) * cnt (N - b) (n - (low + j)) = term N b n (low + j) := rfl
  rw [e]
  exact ⟨IntWalk.i64_in _ (by omega), by rw [IntWalk.i64_in _ (by omega)]; rfl⟩

set_option maxRecDepth 100000 in
set_option maxHeartbeats 800000 in
theorem foundR_any (N b n low high : Int) (w : World) (hN : N ≤ 40) (hb0 : 0 ≤ b) (hb : b ≤ N) (hn0 : 0 ≤ n) (hn : n ≤ N) (hl0 : 0 ≤ low) (hl : low ≤ high + 1) (hh : high ≤ n) :
    Calls Try.prog 68 #[.int .i64 N, .int .i64 b, .int .i64 n, .int .i64 low, .int .i64 high] w fun e w' => e = .returned (.int .i64 (fnd N b n low high)) ∧ w = w' := by
  have hw1 : IntKind.i64.wrap (N - b) = N - b := IntWalk.i64_in _ (by omega)
  go_enter Try.func68, Try.ntmps68
  go_wp2_with fail
  go_loopw [11, 12] (fun s k wr => ∃ j : Nat, low + j ≤ high + 1 ∧ k = .int .i64 (low + j) ∧ s = .int .i64 (sumN (term N b n) low j) ∧ w = wr) (fun _ k _ => (high + 1 - intOf k).toNat)
  case atStart => exact ⟨0, by omega, by simp, rfl, by first | rfl | trivial⟩
  case round =>
    obtain ⟨j, hj, rfl, rfl, rfl⟩ := hrel
    have hw2 : IntKind.i64.wrap (n - (low + j)) = n - (low + j) := IntWalk.i64_in _ (by omega)
    by_cases hlt : low + j ≤ high
    · obtain ⟨hwm, hws⟩ := wrap_termR (N := N) (b := b) (n := n) (low := low) j hN hb0 hb (by omega)
      go_wp2_with (go_at_call 69; refine (choices_any _ _ _ (by omega) (by omega)).mono ?_; rintro e w1 ⟨rfl, rfl⟩)
      go_roundw
      case rel => exact ⟨j + 1, by omega, by go_num, rfl, by first | rfl | trivial⟩
      case measure => simp [intOf]; omega
    · have hlt' : high < low + j := by omega
      have He : Hid (fnd N b n low high = sumN (term N b n) low j) := by
        show fnd N b n low high = sumN (term N b n) low j
        unfold fnd; rw [show (high + 1 - low).toNat = j by omega]
      go_wp2_with fail
      go_ret
      exact ⟨by rw [He.out]; rfl, rfl⟩

theorem foundR_b (N b n low high : Int) (w : World) (hN : N ≤ 40) (hb0 : 0 ≤ b) (hb : b ≤ N) (hn0 : 0 ≤ n) (hn : n ≤ N) (hl0 : 0 ≤ low) (hl : low ≤ high + 1) (hh : high ≤ n) :
    Calls Try.prog 68 #[.int .i64 N, .int .i64 b, .int .i64 n, .int .i64 low, .int .i64 high] w fun e w' => e = .returned (.int .i64 (fnd N b n low high)) ∧ Below w.heap.size w w' :=
  (foundR_any N b n low high w hN hb0 hb hn0 hn hl0 hl hh).mono fun _ _ ⟨he, hw⟩ => ⟨he, by subst hw; exact Below.refl _ _⟩

set_option maxHeartbeats 400000 in
theorem abs_is (a : Int) (w : World) (h0 : 0 ≤ a) (h1 : a ≤ 9223372036854775807) :
    Calls Try.prog 94 #[.int .i64 a] w fun e w' => e = .returned (.int .i64 a) ∧ w = w' := by
  have hm : max (-a) a = a := by omega
  go_enter Try.func94, Try.ntmps94
  go_wp2_with fail
  go_ret
  exact ⟨rfl, rfl⟩

set_option maxRecDepth 100000 in
set_option maxHeartbeats 800000 in
theorem gcd_any (a b : Int) (w : World) (ha0 : 0 ≤ a) (ha : a ≤ 9223372036854775807) (hb0 : 0 ≤ b) (hb : b ≤ 9223372036854775807) :
    Calls Try.prog 45 #[.int .i64 a, .int .i64 b] w fun e w' => e = .returned (.int .i64 (gcdI a b)) ∧ Below w.heap.size w w' := by
  go_enter Try.func45, Try.ntmps45
  go_wp2_with (go_at_call 94; refine (abs_is _ _ (by omega) (by omega)).mono ?_; rintro e w1 ⟨rfl, rfl⟩)
  go_loopw [0, 1] (fun x y wr => ∃ p q : Int, x = .int .i64 p ∧ y = .int .i64 q ∧ 0 ≤ p ∧ 0 ≤ q ∧ p ≤ 9223372036854775807 ∧ q ≤ 9223372036854775807 ∧ gcdI p q = gcdI a b ∧ Below w.heap.size w wr) (fun _ y _ => (intOf y).toNat)
  case atStart => exact ⟨a, b, rfl, rfl, ha0, hb0, ha, hb, rfl, Below.refl _ _⟩
  case round =>
    obtain ⟨x, y, rfl, rfl, hx, hy, hx1, hy1, hg, hB⟩ := hrel
    have Hg := Lib.hid hg
    clear hg
    by_cases hz : y = 0
    · subst hz
      have He : Hid (gcdI a b = x) := by show gcdI a b = x; rw [← Hg.out, gcdI_zero x hx]
      go_wp2_with fail
      go_ret
      exact ⟨by rw [He.out]; rfl, hB⟩
    · have hy0 : 1 ≤ y := by omega
      have hz1 : (y == 0) = false := by simp; omega
      have hz2 : (y != 0) = true := by simp; omega
      have Hn := Lib.hid (gcdI_step x y hx (by omega))
      have hm := Int.emod_nonneg x hz
      have hm2 := Int.emod_lt_of_pos x (show 0 < y by omega)
      go_wp2
      go_quiet (fail)
      go_wp2
      go_roundw
      case rel => exact ⟨_, _, rfl, rfl, by omega, hm, by omega, by omega, by rw [Hn.out]; exact Hg.out, below_drewN hB _⟩
      case measure => simp [intOf]; omega

end Go.Proofs.Ythpllmefbhjmmaa
