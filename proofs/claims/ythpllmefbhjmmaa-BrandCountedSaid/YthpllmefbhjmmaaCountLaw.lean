/-
  Plain laws on sets of barrels: of all choices, how many pass a plan.
-/
import Derived.Test.YthpllmefbhjmmaaFallsMore
namespace Go.Proofs.Ythpllmefbhjmmaa
open Plain

/-- How many numbers are in a set. -/
def bitsN (n : Nat) : Nat := if h : n = 0 then 0 else n % 2 + bitsN (n / 2)
termination_by n
decreasing_by omega

theorem bitsN_zero : bitsN 0 = 0 := by unfold bitsN; simp
theorem bitsN_half (n : Nat) : bitsN n = n % 2 + bitsN (n / 2) := by
  by_cases h : n = 0
  · subst h; simp [bitsN_zero]
  · conv => lhs; unfold bitsN
    rw [dif_neg h]
theorem bitsN_top : ∀ (N s : Nat), s < 2 ^ N → bitsN (2 ^ N + s) = bitsN s + 1
  | 0, s, h => by
    have : s = 0 := by simpa using h
    subst this
    show bitsN 1 = bitsN 0 + 1
    rw [bitsN_half 1, bitsN_zero]
  | N + 1, s, h => by
    have h2 : 2 ^ (N + 1) = 2 * 2 ^ N := by rw [Nat.pow_succ, Nat.mul_comm]
    have ih := bitsN_top N (s / 2) (by omega)
    rw [bitsN_half, bitsN_half s, show (2 ^ (N + 1) + s) / 2 = 2 ^ N + s / 2 by omega, ih, show (2 ^ (N + 1) + s) % 2 = s % 2 by omega]
    omega

theorem range_two (N : Nat) : List.range (2 ^ (N + 1)) = List.range (2 ^ N) ++ (List.range (2 ^ N)).map (2 ^ N + ·) := by
  rw [Nat.pow_succ, Nat.mul_two, List.range_add]

theorem count_split (N : Nat) (p : Nat → Bool) : (List.range (2 ^ (N + 1))).countP p = (List.range (2 ^ N)).countP p + (List.range (2 ^ N)).countP fun s => p (2 ^ N + s) := by
  rw [range_two, List.countP_append, List.countP_map]; rfl

theorem count_all : ∀ N o : Nat, (List.range (2 ^ N)).countP (fun s => bitsN s == o) = ch N o
  | 0, 0 => by simp [bitsN_zero]
  | 0, o + 1 => by simp [bitsN_zero]
  | N + 1, o => by
    rw [count_split, count_all N o]
    have e : (List.range (2 ^ N)).countP (fun s => bitsN (2 ^ N + s) == o) = (List.range (2 ^ N)).countP (fun s => bitsN s + 1 == o) :=
      List.countP_congr fun s hs => by rw [bitsN_top N s (List.mem_range.1 hs)]
    rw [e]
    cases o with
    | zero => simp
    | succ o =>
      have := count_all N o
      simp only [Nat.reduceBeqDiff] at this ⊢
      rw [ch_succ, ← this]

theorem fnd_pascal {N b o a : Int} (h1 : b ≤ N) : fnd (N + 1) b o 0 a = fnd N b o 0 a + fnd N b (o - 1) 0 a := by
  have key : ∀ j : Nat, sumN (term (N + 1) b o) 0 j = sumN (term N b o) 0 j + sumN (term N b (o - 1)) 0 j := by
    intro j
    induction j with
    | zero => rfl
    | succ j ih =>
      show sumN (term (N + 1) b o) 0 j + term (N + 1) b o (0 + j) = sumN (term N b o) 0 j + term N b o (0 + j) + (sumN (term N b (o - 1)) 0 j + term N b (o - 1) (0 + j))
      have e : term (N + 1) b o (0 + j) = term N b o (0 + j) + term N b (o - 1) (0 + j) := by
        unfold term
        rw [cnt_pascal (N + 1 - b) (o - (0 + (j : Int))) (by omega), Int.mul_add, show N + 1 - b - 1 = N - b by omega, show o - (0 + (j : Int)) - 1 = o - 1 - (0 + (j : Int)) by omega]
      rw [ih, e]; omega
  exact key _

theorem fnd_neg (N b a : Int) : ∀ o : Int, o < 0 → fnd N b o 0 a = 0 := by
  intro o ho
  have key : ∀ j : Nat, sumN (term N b o) 0 j = 0 := by
    intro j
    induction j with
    | zero => rfl
    | succ j ih =>
      show sumN (term N b o) 0 j + term N b o (0 + j) = 0
      rw [ih]; unfold term; rw [cnt_neg _ (o - (0 + (j : Int))) (by omega), Int.mul_zero]; rfl
  exact key _

theorem fnd_own (b o a : Nat) : fnd b b o 0 a = if o ≤ a then (ch b o : Int) else 0 := by
  have key : ∀ j : Nat, sumN (term b b o) 0 j = if o < j then (ch b o : Int) else 0 := by
    intro j
    induction j with
    | zero => simp [sumN]
    | succ j ih =>
      show sumN (term b b o) 0 j + term b b o (0 + j) = _
      rw [ih]
      have e : term b b o (0 + j) = if o = j then (ch b o : Int) else 0 := by
        unfold term
        rw [show (b : Int) - b = 0 by omega, show (0 : Int) + (j : Int) = (j : Nat) by omega, cnt_nat]
        by_cases h : o = j
        · subst h; rw [if_pos rfl, show (o : Int) - o = 0 by omega, cnt_zero, Int.mul_one]
        · rw [if_neg h, cnt_nil _ (by omega), Int.mul_zero]
      rw [e]
      split <;> split <;> split <;> first | omega | (exfalso; omega)
  unfold fnd
  rw [key, show ((a : Int) + 1 - 0).toNat = a + 1 by omega]
  by_cases h : o ≤ a
  · rw [if_pos h, if_pos (by omega)]
  · rw [if_neg h, if_neg (by omega)]

/-- Of all choices of o out of b + d, those pass of which at most a are of the first b. -/
theorem count_pass (b a : Nat) : ∀ d o : Nat, (((List.range (2 ^ (b + d))).countP (fun s => (bitsN s == o) && decide (bitsN (s % 2 ^ b) ≤ a)) : Nat) : Int) = fnd (b + d : Nat) b o 0 a
  | 0, o => by
    rw [Nat.add_zero, fnd_own]
    have e : (List.range (2 ^ b)).countP (fun s => (bitsN s == o) && decide (bitsN (s % 2 ^ b) ≤ a)) = (List.range (2 ^ b)).countP (fun s => (bitsN s == o) && decide (o ≤ a)) :=
      List.countP_congr fun s hs => by
        rw [Nat.mod_eq_of_lt (List.mem_range.1 hs)]
        by_cases h : bitsN s = o
        · rw [h]
        · simp [h]
    rw [e]
    by_cases h : o ≤ a
    · rw [if_pos h, ← count_all b o]; simp [h]
    · rw [if_neg h]; simp [h]
  | d + 1, o => by
    have hp : 0 < 2 ^ b := Nat.two_pow_pos b
    rw [← Nat.add_assoc, count_split, Int.natCast_add, count_pass b a d o, show ((b + d + 1 : Nat) : Int) = ((b + d : Nat) : Int) + 1 by omega, fnd_pascal (by omega)]
    congr 1
    have e : (List.range (2 ^ (b + d))).countP (fun s => (bitsN (2 ^ (b + d) + s) == o) && decide (bitsN ((2 ^ (b + d) + s) % 2 ^ b) ≤ a)) = (List.range (2 ^ (b + d))).countP (fun s => (bitsN s + 1 == o) && decide (bitsN (s % 2 ^ b) ≤ a)) :=
      List.countP_congr fun s hs => by
        rw [bitsN_top _ s (List.mem_range.1 hs), Nat.pow_add, Nat.mul_add_mod]
    rw [e]
    cases o with
    | zero => rw [fnd_neg _ _ _ _ (by omega)]; simp
    | succ o =>
      have := count_pass b a d o
      rw [show ((o + 1 : Nat) : Int) - 1 = o by omega, ← this]
      simp

end Go.Proofs.Ythpllmefbhjmmaa
