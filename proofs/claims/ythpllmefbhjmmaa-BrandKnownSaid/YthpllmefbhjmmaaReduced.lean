/-
  Odds, reduced; and the greatest divisor of the specification.
-/
import Derived.Test.YthpllmefbhjmmaaLot
import Derived.BigRegion
namespace Go.Proofs.Ythpllmefbhjmmaa
open Go.RowKit Go.Maps Plain

/-- The greatest divisor of two numbers that are not below 0. -/
def gcdI (a b : Int) : Int := (Nat.gcd a.toNat b.toNat : Nat)
theorem gcdI_step (a b : Int) (h0 : 0 ≤ a) (h : 0 < b) : gcdI b (a % b) = gcdI a b := by
  unfold gcdI
  obtain ⟨x, rfl⟩ := Int.eq_ofNat_of_zero_le h0
  obtain ⟨y, rfl⟩ := Int.eq_ofNat_of_zero_le (Int.le_of_lt h)
  rw [show ((x : Int) % (y : Int)).toNat = x % y by omega]
  simp only [Int.toNat_natCast]
  rw [Nat.gcd_comm y, ← Nat.gcd_rec, Nat.gcd_comm]
theorem gcdI_zero (a : Int) (h : 0 ≤ a) : gcdI a 0 = a := by
  unfold gcdI; simp; omega
theorem gcdI_pos (a b : Int) (_ : 0 ≤ a) (h : 0 < b) : 0 < gcdI a b := by
  unfold gcdI
  have := Nat.gcd_pos_of_pos_right a.toNat (n := b.toNat) (by omega)
  omega

abbrev RedS (w : World) (o i : Int) (w' : World) : Prop :=
  w'.cell? ⟨w.heap.size, 0, none⟩ = some (.int .i64 o) ∧ w'.cell? ⟨w.heap.size, 1, none⟩ = some (.int .i64 i) ∧ w'.cell? ⟨w.heap.size + 1, 0, none⟩ = some (.int .i64 0) ∧ w'.cell? ⟨w.heap.size + 1, 1, none⟩ = some (.int .i64 0) ∧
    w'.frozen? ⟨w.heap.size + 1, 0, none⟩ = false ∧ w'.frozen? ⟨w.heap.size + 1, 1, none⟩ = false ∧ Below w.heap.size w w'

theorem below_drewN {B : Nat} {a w : World} (h : Below B a w) (n : Nat) : Below B a (w.drewN n) := ⟨h.os, h.tape, h.output, h.size, h.block⟩
theorem RedS.drewN {w : World} {o i : Int} {w' : World} (h : RedS w o i w') (n : Nat) : RedS w o i (w'.drewN n) :=
  ⟨h.1, h.2.1, h.2.2.1, h.2.2.2.1, h.2.2.2.2.1, h.2.2.2.2.2.1, below_drewN h.2.2.2.2.2.2 n⟩
theorem RedS.start (w : World) (o i : Int) : RedS w o i ((w.alloc (.cells #[.int .i64 o, .int .i64 i] 107)).alloc (.cells #[.int .i64 0, .int .i64 0] 34)) :=
  ⟨by go_simp, by go_simp, by go_simp, by go_simp, by go_simp, by go_simp, (below_alloc _).alloc (by simp) _⟩

set_option maxRecDepth 100000 in
set_option maxHeartbeats 800000 in
theorem reduced_any (o i : Int) (w : World) (h0 : 0 ≤ o) (h1 : o ≤ 45079976738816) (h2 : 0 < i) (h3 : i ≤ 1099511627776) :
    Calls Try.prog 66 #[.agg #[.int .i64 o, .int .i64 i]] w fun e w' => e = .returned (.agg #[.int .i64 (o / gcdI o i), .int .i64 (i / gcdI o i)]) ∧ Below w.heap.size w w' := by
  have Hst := Lib.hid (RedS.start w o i)
  go_enter Try.func66, Try.ntmps66
  go_wp2
  go_quiet (fail)
  go_wp2
  go_loopw [3, 4] (fun a b wr => ∃ x y : Int, a = .int .i64 x ∧ b = .int .i64 y ∧ 0 ≤ x ∧ 0 ≤ y ∧ x ≤ 45079976738816 ∧ y ≤ 1099511627776 ∧ 0 < gcdI o i ∧ gcdI x y = gcdI o i ∧ RedS w o i wr) (fun _ b _ => (intOf b).toNat)
  case atStart =>
    exact ⟨o, i, rfl, rfl, h0, by omega, h1, h3, gcdI_pos o i h0 h2, rfl, Hst.out.drewN _⟩
  case round =>
    obtain ⟨x, y, rfl, rfl, hx, hy, hx1, hy1, hp, hg, hS⟩ := hrel
    have Hg := Lib.hid hg
    have Hs := Lib.hid hS
    obtain ⟨c1, c2, c3, c4, f1, f2, hB⟩ := hS
    clear hg
    by_cases hz : y = 0
    · subst hz
      have He : Hid (gcdI o i = x) := by
        show gcdI o i = x
        rw [← Hg.out, gcdI_zero x hx]
      have hx0 : 1 ≤ x := by have := He.out; omega
      have hx' : ¬ x = 0 := by omega
      have hq1 : IntKind.i64.wrap (o.tdiv x) = o / x := by
        have := Int.ediv_nonneg h0 hx
        have := Int.ediv_le_self x h0
        rw [Int.tdiv_eq_ediv_of_nonneg h0, IntWalk.i64_in _ (by omega)]
      have hq2 : IntKind.i64.wrap (i.tdiv x) = i / x := by
        have := Int.ediv_nonneg (Int.le_of_lt h2) hx
        have := Int.ediv_le_self x (Int.le_of_lt h2)
        rw [Int.tdiv_eq_ediv_of_nonneg (Int.le_of_lt h2), IntWalk.i64_in _ (by omega)]
      go_wp2
      go_region_held3 (fun w' => w'.cell? ⟨w.heap.size, 0, none⟩ = some (.int .i64 o) ∧ w'.cell? ⟨w.heap.size, 1, none⟩ = some (.int .i64 i)) (go_keep) (fail)
      go_wp2
      refine bodyPost_ret (v := .agg #[.int .i64 (o / x), .int .i64 (i / x)]) (by simp [results, Try.results66, go_sem, c3, c4]) rfl ⟨by rw [He.out], ?_⟩
      exact ((hB.setCell (p := ⟨w.heap.size + 1, 0, none⟩) (by simp) _).setCell (p := ⟨w.heap.size + 1, 1, none⟩) (by simp) _).drew
    · have hy0 : 1 ≤ y := by omega
      have hz1 : (y == 0) = false := by simp; omega
      have hz2 : (y != 0) = true := by simp; omega
      have Hn := Lib.hid (gcdI_step x y hx (by omega))
      have hm := Int.emod_nonneg x hz
      have hm2 := Int.emod_lt_of_pos x (show 0 < y by omega)
      go_wp2
      go_quiet (fail)
      go_wp2
      go_roundw
      case rel => exact ⟨_, _, rfl, rfl, by omega, hm, by omega, by omega, hp, by rw [Hn.out]; exact Hg.out, Hs.out.drewN _⟩
      case measure => simp [intOf]; omega

end Go.Proofs.Ythpllmefbhjmmaa
