/-
  How many numbers are in a set: the function 'Bits'; a set cut to its first barrels.
-/
import Derived.Test.YthpllmefbhjmmaaCountLaw
import Derived.Test.YthpllmefbhjmmaaFirstMore
import Derived.Laws.Bits64b
namespace Go.Proofs.Ythpllmefbhjmmaa
open Go.RowKit Go.Maps Plain

theorem bitsN_le : ∀ n : Nat, bitsN n ≤ n := by
  intro n
  induction n using Nat.strongRecOn with
  | _ n ih =>
    by_cases h : n = 0
    · subst h; rw [bitsN_zero]; omega
    · rw [bitsN_half]
      have := ih (n / 2) (by omega)
      omega

theorem bits_mask (s b : Nat) (hs : s < 4611686018427387904) (hb : 2 ^ b ≤ 4611686018427387904) : bits .and .i64 (s : Int) ((2 ^ b - 1 : Nat) : Int) = ((s % 2 ^ b : Nat) : Int) := by
  have h1 : (BitVec.ofInt 64 (s : Int)).toNat = s := by
    rw [BitVec.ofInt_natCast, BitVec.toNat_ofNat]; exact Nat.mod_eq_of_lt (by omega)
  have h2 : (BitVec.ofInt 64 ((2 ^ b - 1 : Nat) : Int)).toNat = 2 ^ b - 1 := by
    rw [BitVec.ofInt_natCast, BitVec.toNat_ofNat]; exact Nat.mod_eq_of_lt (by omega)
  have h3 : s % 2 ^ b ≤ s := Nat.mod_le _ _
  show IntKind.i64.wrap ((BitVec.ofInt 64 (s : Int) &&& BitVec.ofInt 64 ((2 ^ b - 1 : Nat) : Int)).toNat : Int) = _
  rw [BitVec.toNat_and, h1, h2, Nat.and_two_pow_sub_one_eq_mod]
  exact IntWalk.i64_in _ (by omega)

theorem gcdI_red {F C : Int} (hF : 0 ≤ F) (hC : 0 < C) : gcdI (F / gcdI F C) (C / gcdI F C) = 1 := by
  obtain ⟨f, rfl⟩ := Int.eq_ofNat_of_zero_le hF
  obtain ⟨c, rfl⟩ := Int.eq_ofNat_of_zero_le (Int.le_of_lt hC)
  have hg : gcdI (f : Int) (c : Int) = (Nat.gcd f c : Nat) := by unfold gcdI; simp
  have hp : 0 < Nat.gcd f c := Nat.gcd_pos_of_pos_right _ (by omega)
  rw [hg]
  have h1 : ((f : Int) / ((Nat.gcd f c : Nat) : Int)) = ((f / Nat.gcd f c : Nat) : Int) := by omega
  have h2 : ((c : Int) / ((Nat.gcd f c : Nat) : Int)) = ((c / Nat.gcd f c : Nat) : Int) := by omega
  rw [h1, h2]
  unfold gcdI
  rw [Int.toNat_natCast, Int.toNat_natCast, Nat.gcd_div (Nat.gcd_dvd_left f c) (Nat.gcd_dvd_right f c), Nat.div_self hp]
  rfl

set_option maxRecDepth 100000 in
set_option maxHeartbeats 800000 in
theorem bits_is (s : Nat) (w : World) (hs : s < 4611686018427387904) :
    Calls Try.prog 43 #[.int .i64 (s : Int)] w fun e w' => e = .returned (.int .i64 (bitsN s : Nat)) ∧ w = w' := by
  have hle := bitsN_le s
  go_enter Try.func43, Try.ntmps43
  go_wp2_with fail
  go_loop [0, 3] (fun x n => ∃ k m : Nat, x = .int .i64 (k : Nat) ∧ n = .int .i64 (m : Nat) ∧ k ≤ s ∧ m + bitsN k = bitsN s) (fun x _ => (intOf x).toNat)
  case atStart => exact ⟨s, 0, rfl, rfl, Nat.le_refl _, by omega⟩
  case round =>
    obtain ⟨k, m, rfl, rfl, hk, hm⟩ := hrel
    by_cases hz : 0 < k
    · have hh := bitsN_half k
      have Hr : Hid (m + k % 2 + bitsN (k / 2) = bitsN s) := by show _ = _; omega
      have hb : m ≤ s := by omega
      clear hh hm
      go_wp2_with fail
      go_round
      case rel => exact ⟨k / 2, m + k % 2, by go_num, by go_num, by omega, Hr.out⟩
      case measure => simp [intOf]; omega
    · obtain rfl : k = 0 := by omega
      rw [bitsN_zero] at hm
      have Hm : Hid (bitsN s = m) := by show _ = _; omega
      clear hm hle
      go_wp2_with fail
      go_ret
      exact ⟨by rw [Hm.out]; rfl, rfl⟩

end Go.Proofs.Ythpllmefbhjmmaa
