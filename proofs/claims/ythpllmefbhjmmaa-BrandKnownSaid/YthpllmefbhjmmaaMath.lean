/-
  The plain mathematics of openings: binomial numbers, what is found, and their bounds. Nothing of the program stands here.
-/
namespace Go.Proofs.Ythpllmefbhjmmaa.Plain

/-- How many choices there are of k out of n. -/
def ch : Nat → Nat → Nat
  | _, 0 => 1
  | 0, _ + 1 => 0
  | n + 1, k + 1 => ch n (k + 1) + ch n k

@[simp] theorem ch_zero (n : Nat) : ch n 0 = 1 := by cases n <;> rfl
theorem ch_succ (n k : Nat) : ch (n + 1) (k + 1) = ch n (k + 1) + ch n k := rfl
@[simp] theorem ch_nil (k : Nat) : ch 0 (k + 1) = 0 := rfl

theorem ch_above : ∀ (n k : Nat), n < k → ch n k = 0
  | 0, 0, h => by omega
  | 0, _ + 1, _ => rfl
  | n + 1, 0, h => by omega
  | n + 1, k + 1, h => by rw [ch_succ, ch_above n (k + 1) (by omega), ch_above n k (by omega)]

@[simp] theorem ch_self : ∀ (n : Nat), ch n n = 1
  | 0 => rfl
  | n + 1 => by rw [ch_succ, ch_above n (n + 1) (by omega), ch_self n]

theorem ch_le : ∀ (n k : Nat), ch n k ≤ 2 ^ n
  | 0, 0 => by simp
  | 0, _ + 1 => by simp
  | n + 1, 0 => by simp [Nat.one_le_two_pow]
  | n + 1, k + 1 => by
    have h1 := ch_le n (k + 1)
    have h2 := ch_le n k
    rw [ch_succ, Nat.pow_succ]
    omega

theorem ch_pos : ∀ (n k : Nat), k ≤ n → 0 < ch n k
  | 0, 0, _ => by simp
  | 0, _ + 1, h => by omega
  | n + 1, 0, _ => by simp
  | n + 1, k + 1, h => by
    have := ch_pos n k (by omega)
    rw [ch_succ]; omega

/-- (k + 1) C(n + 1, k + 1) = (n + 1) C(n, k). -/
theorem ch_mul : ∀ (n k : Nat), (k + 1) * ch (n + 1) (k + 1) = (n + 1) * ch n k
  | 0, 0 => rfl
  | 0, k + 1 => by simp [ch_succ]
  | n + 1, 0 => by
    have := ch_mul n 0
    rw [ch_succ, ch_zero]
    simp at this ⊢
    omega
  | n + 1, k + 1 => by
    have h1 := ch_mul n (k + 1)
    have h2 := ch_mul n k
    have e : ch (n + 2) (k + 2) = ch (n + 1) (k + 2) + ch (n + 1) (k + 1) := rfl
    have e2 : ch (n + 1) (k + 1) = ch n (k + 1) + ch n k := rfl
    show (k + 2) * ch (n + 2) (k + 2) = (n + 2) * ch (n + 1) (k + 1)
    have e3 : (k + 2) * ch (n + 2) (k + 2) = (k + 2) * ch (n + 1) (k + 2) + ((k + 1) * ch (n + 1) (k + 1) + ch (n + 1) (k + 1)) := by
      rw [e, Nat.mul_add]; congr 1; rw [show k + 2 = (k + 1) + 1 from rfl, Nat.add_mul, Nat.one_mul]
    have h1' : (k + 2) * ch (n + 1) (k + 2) = (n + 1) * ch n (k + 1) := h1
    rw [e3, h1', h2]
    have e4 : (n + 1) * ch (n + 1) (k + 1) = (n + 1) * ch n (k + 1) + (n + 1) * ch n k := by rw [e2, Nat.mul_add]
    have e5 : (n + 2) * ch (n + 1) (k + 1) = (n + 1) * ch (n + 1) (k + 1) + ch (n + 1) (k + 1) := by rw [show n + 2 = (n + 1) + 1 from rfl, Nat.add_mul, Nat.one_mul]
    omega

/-- The same over whole numbers: 0 where nothing can be chosen. -/
def cnt (n k : Int) : Int := if k < 0 then 0 else (ch n.toNat k.toNat : Int)

theorem cnt_zero (n : Int) : cnt n 0 = 1 := by simp [cnt]
theorem cnt_self (n : Int) (h : 0 ≤ n) : cnt n n = 1 := by simp [cnt, show ¬ n < 0 by omega]
theorem cnt_neg (n k : Int) (h : k < 0) : cnt n k = 0 := by simp [cnt, h]
theorem cnt_above (n k : Int) (h0 : 0 ≤ n) (h : n < k) : cnt n k = 0 := by
  simp [cnt, show ¬ k < 0 by omega, ch_above n.toNat k.toNat (by omega)]
theorem cnt_step (n k : Int) (h0 : 0 < k) (h : k ≤ n) : cnt n k = cnt (n - 1) k + cnt (n - 1) (k - 1) := by
  obtain ⟨a, rfl⟩ : ∃ a : Nat, n = (a : Int) + 1 := ⟨(n - 1).toNat, by omega⟩
  obtain ⟨b, rfl⟩ : ∃ b : Nat, k = (b : Int) + 1 := ⟨(k - 1).toNat, by omega⟩
  simp only [cnt, show ¬ ((b : Int) + 1 < 0) by omega, show ¬ ((b : Int) + 1 - 1 < 0) by omega, if_false]
  rw [show ((a : Int) + 1).toNat = a + 1 by omega, show ((b : Int) + 1).toNat = b + 1 by omega, show ((a : Int) + 1 - 1).toNat = a by omega, show ((b : Int) + 1 - 1).toNat = b by omega, ch_succ]
  omega
theorem cnt_nonneg (n k : Int) : 0 ≤ cnt n k := by unfold cnt; split <;> omega
theorem two_pow_le {n m : Nat} (h : n ≤ m) : 2 ^ n ≤ 2 ^ m := Nat.pow_le_pow_right (by omega) h
theorem cnt_le (n k : Int) (h : n ≤ 40) : cnt n k ≤ 1099511627776 := by
  unfold cnt
  split
  · omega
  · have h1 := ch_le n.toNat k.toNat
    have h2 : 2 ^ n.toNat ≤ 2 ^ 40 := two_pow_le (by omega)
    have h3 : (2 : Nat) ^ 40 = 1099511627776 := by decide
    omega
theorem cnt_pos (n k : Int) (h0 : 0 ≤ k) (h : k ≤ n) : 0 < cnt n k := by
  unfold cnt
  rw [if_neg (by omega)]
  have := ch_pos n.toNat k.toNat (by omega)
  omega
theorem cnt_nat (n k : Nat) : cnt n k = ch n k := by simp [cnt, show ¬ (k : Int) < 0 by omega]

/-- A product of two is not above a power of two. -/
theorem cnt_mul_le (a b k j : Int) (ha : 0 ≤ a) (hb : 0 ≤ b) (h : a + b ≤ 40) : cnt a k * cnt b j ≤ 1099511627776 := by
  by_cases hk : k < 0
  · rw [cnt_neg a k hk]; omega
  by_cases hj : j < 0
  · rw [cnt_neg b j hj]; omega
  unfold cnt
  rw [if_neg hk, if_neg hj]
  have h1 := Nat.mul_le_mul (ch_le a.toNat k.toNat) (ch_le b.toNat j.toNat)
  rw [← Nat.pow_add] at h1
  have h2 : 2 ^ (a.toNat + b.toNat) ≤ 2 ^ 40 := two_pow_le (by omega)
  have h3 : (2 : Nat) ^ 40 = 1099511627776 := by decide
  have h4 : ((ch a.toNat k.toNat * ch b.toNat j.toNat : Nat) : Int) ≤ 1099511627776 := by omega
  rw [Int.natCast_mul] at h4
  exact h4

/-- The terms from 'low' on, n of them. -/
def sumN (f : Int → Int) (low : Int) : Nat → Int
  | 0 => 0
  | n + 1 => sumN f low n + f (low + n)

/-- One term of what is found. -/
def term (N b n k : Int) : Int := cnt b k * cnt (N - b) (n - k)

/-- With how many choices from 'low' to 'high' of the opened ones are below, if b of N are and n are opened. -/
def fnd (N b n low high : Int) : Int := sumN (term N b n) low (high + 1 - low).toNat

theorem term_nonneg (N b n k : Int) : 0 ≤ term N b n k := Int.mul_nonneg (cnt_nonneg _ _) (cnt_nonneg _ _)
theorem term_le (N b n k : Int) (h0 : 0 ≤ b) (h1 : b ≤ N) (h : N ≤ 40) : term N b n k ≤ 1099511627776 :=
  cnt_mul_le b (N - b) k (n - k) h0 (by omega) (by omega)
theorem sumN_nonneg (f : Int → Int) (low : Int) (hf : ∀ k, 0 ≤ f k) : ∀ n, 0 ≤ sumN f low n
  | 0 => Int.le_refl _
  | n + 1 => by have := sumN_nonneg f low hf n; have := hf (low + n); simp only [sumN]; omega
theorem sumN_le (f : Int → Int) (low B : Int) (hf : ∀ k, f k ≤ B) : ∀ n : Nat, sumN f low n ≤ n * B
  | 0 => by simp [sumN]
  | n + 1 => by
    have := sumN_le f low B hf n
    have := hf (low + n)
    simp only [sumN]
    have e : ((n + 1 : Nat) : Int) * B = n * B + B := by rw [Int.natCast_add, Int.add_mul]; omega
    omega
theorem fnd_nonneg (N b n low high : Int) : 0 ≤ fnd N b n low high := sumN_nonneg _ _ (term_nonneg N b n) _
theorem sumTo_le (N b n low : Int) (h0 : 0 ≤ b) (h1 : b ≤ N) (h : N ≤ 40) (m : Nat) (hm : m ≤ 41) : sumN (term N b n) low m ≤ 45079976738816 := by
  have := sumN_le (term N b n) low 1099511627776 (fun k => term_le N b n k h0 h1 h) m
  omega
theorem fnd_le (N b n low high : Int) (h0 : 0 ≤ b) (h1 : b ≤ N) (h : N ≤ 40) (hl : 0 ≤ low) (hh : high ≤ 40) : fnd N b n low high ≤ 45079976738816 :=
  sumTo_le N b n low h0 h1 h _ (by omega)

end Go.Proofs.Ythpllmefbhjmmaa.Plain
