/-
  'less': odds compared by whole parts, and what is left of them, turned about.
-/
import Derived.Test.YthpllmefbhjmmaaSmall
import Derived.BigQuiet
import Derived.Test.YthpllmefbhjmmaaSplit
namespace Go.Proofs.Ythpllmefbhjmmaa
open Go.RowKit Go.Maps Plain
attribute [local go_sem] Oper.semAt_some

/-- Odds less than others, as fractions. -/
def lessB (p q r s : Int) : Bool := decide (p * s < r * q)

/-- How small odds are, n rounds gone. -/
def small (n : Nat) (p q : Int) : Prop := ∃ e : Nat, (2 * e + n ≤ 98 ∧ q < 2 ^ e) ∨ (2 * e + n ≤ 99 ∧ q < p ∧ p < 2 ^ e)

theorem small_step {n : Nat} {p q : Int} (h : small n p q) (hp : 0 ≤ p) (hq : 1 ≤ q) : small (n + 1) q (p % q) := by
  have h0 := Int.emod_nonneg p (show q ≠ 0 by omega)
  have h1 := Int.emod_lt_of_pos p (show 0 < q by omega)
  obtain ⟨e, ⟨h2, h3⟩ | ⟨h2, h3, h4⟩⟩ := h
  · exact ⟨e, .inr ⟨by omega, h1, h3⟩⟩
  · cases e with
    | zero => simp at h4; omega
    | succ e =>
      refine ⟨e, .inl ⟨by omega, ?_⟩⟩
      have h5 := Int.emod_add_mul_ediv p q
      have h6 : 1 ≤ p / q := by
        have := Int.le_ediv_of_mul_le (c := q) (a := 1) (b := p) (by omega) (by omega)
        exact this
      have h7 : q * 1 ≤ q * (p / q) := Int.mul_le_mul_of_nonneg_left h6 (by omega)
      rw [Int.pow_succ] at h4
      omega
theorem small_end {n : Nat} {p q : Int} (h : small n p q) : n < 100 := by
  obtain ⟨e, ⟨h2, _⟩ | ⟨h2, _, _⟩⟩ := h <;> omega
theorem small_start {p q : Int} (hq : q < 562949953421312) : small 0 p q := ⟨49, .inl ⟨by omega, by simpa using hq⟩⟩

theorem less_ne {p q r s : Int} (hq : 1 ≤ q) (hs : 1 ≤ s) (h : p / q ≠ r / s) : lessB p q r s = decide (p / q < r / s) := by
  unfold lessB
  have a1 := Int.emod_add_mul_ediv p q
  have a2 := Int.emod_nonneg p (show q ≠ 0 by omega)
  have a3 := Int.emod_lt_of_pos p (show 0 < q by omega)
  have b1 := Int.emod_add_mul_ediv r s
  have b2 := Int.emod_nonneg r (show s ≠ 0 by omega)
  have b3 := Int.emod_lt_of_pos r (show 0 < s by omega)
  generalize p / q = x at *
  generalize r / s = y at *
  generalize p % q = u at *
  generalize r % s = v at *
  rw [decide_eq_decide]
  subst a1; subst b1
  have e1 : (u + q * x) * s = u * s + q * s * x := by rw [Int.add_mul, Int.mul_assoc, Int.mul_comm x s, ← Int.mul_assoc]
  have e2 : (v + s * y) * q = v * q + q * s * y := by rw [Int.add_mul, Int.mul_assoc, Int.mul_comm y q, ← Int.mul_assoc, Int.mul_comm s q]
  rw [e1, e2]
  have u1 : u * s ≤ (q - 1) * s := Int.mul_le_mul_of_nonneg_right (by omega) (by omega)
  have v1 : v * q ≤ (s - 1) * q := Int.mul_le_mul_of_nonneg_right (by omega) (by omega)
  have u0 : 0 ≤ u * s := Int.mul_nonneg a2 (by omega)
  have v0 : 0 ≤ v * q := Int.mul_nonneg b2 (by omega)
  have d1 : (q - 1) * s = q * s - s := by rw [Int.sub_mul, Int.one_mul]
  have d2 : (s - 1) * q = q * s - q := by rw [Int.sub_mul, Int.one_mul, Int.mul_comm]
  have hqs : 0 ≤ q * s := Int.mul_nonneg (by omega) (by omega)
  constructor
  · intro hlt
    by_cases hxy : x < y
    · exact hxy
    · exfalso
      have : q * s * (y + 1) ≤ q * s * x := Int.mul_le_mul_of_nonneg_left (by omega) hqs
      rw [Int.mul_add, Int.mul_one] at this
      omega
  · intro hlt
    have : q * s * (x + 1) ≤ q * s * y := Int.mul_le_mul_of_nonneg_left (by omega) hqs
    rw [Int.mul_add, Int.mul_one] at this
    omega

theorem less_eq {p q r s : Int} (_ : 1 ≤ q) (_ : 1 ≤ s) (h : p / q = r / s) : lessB p q r s = lessB (p % q) q (r % s) s := by
  unfold lessB
  have a1 := Int.emod_add_mul_ediv p q
  have b1 := Int.emod_add_mul_ediv r s
  rw [decide_eq_decide]
  rw [← h] at b1
  generalize p / q = x at *
  generalize p % q = u at *
  generalize r % s = v at *
  subst a1; subst b1
  have e1 : (u + q * x) * s = u * s + q * s * x := by rw [Int.add_mul, Int.mul_assoc, Int.mul_comm x s, ← Int.mul_assoc]
  have e2 : (v + s * x) * q = v * q + q * s * x := by rw [Int.add_mul, Int.mul_assoc, Int.mul_comm x q, ← Int.mul_assoc, Int.mul_comm s q]
  rw [e1, e2]
  omega

theorem less_zero {u q v s : Int} (hq : 1 ≤ q) (hs : 1 ≤ s) (hu : 0 ≤ u) (hv : 0 ≤ v) (h : u = 0 ∨ v = 0) : lessB u q v s = (decide (u = 0) && decide (0 < v)) := by
  unfold lessB
  rcases h with rfl | rfl
  · rw [Int.zero_mul]
    by_cases hv0 : 0 < v
    · have := Int.mul_pos hv0 (show 0 < q by omega)
      simp [hv0, this]
    · obtain rfl : v = 0 := by omega
      simp
  · rw [Int.zero_mul]
    have := Int.mul_nonneg hu (show 0 ≤ s by omega)
    simp; omega

/-- Turned about, the second ones first. -/
theorem less_turn (u q v s : Int) : lessB s v q u = lessB u q v s := by
  unfold lessB
  rw [Int.mul_comm s u, Int.mul_comm q v]

/-- The cells that a round reads and writes. -/
def LeR (w0 : World) (A : Nat) (p q r s : Int) (w' : World) : Prop :=
  w'.cell? ⟨A, 0, none⟩ = some (.int .i64 p) ∧ w'.cell? ⟨A, 1, none⟩ = some (.int .i64 q) ∧ w'.cell? ⟨A + 1, 0, none⟩ = some (.int .i64 r) ∧ w'.cell? ⟨A + 1, 1, none⟩ = some (.int .i64 s) ∧
    w'.frozen? ⟨A, 0, none⟩ = false ∧ w'.frozen? ⟨A, 1, none⟩ = false ∧ w'.frozen? ⟨A + 1, 0, none⟩ = false ∧ w'.frozen? ⟨A + 1, 1, none⟩ = false ∧ Below w0.heap.size w0 w'
theorem LeR.drew {w0 : World} {A : Nat} {p q r s : Int} {w' : World} (h : LeR w0 A p q r s w') : LeR w0 A p q r s w'.drew := by
  obtain ⟨h0, h1, h2, h3, f0, f1, f2, f3, hb⟩ := h
  exact ⟨h0, h1, h2, h3, f0, f1, f2, f3, hb.drew⟩
theorem LeR.below {w0 : World} {A : Nat} {p q r s : Int} {w' w2 : World} (h : LeR w0 A p q r s w') (hB : Below w'.heap.size w' w2) : LeR w0 A p q r s w2 := by
  obtain ⟨h0, h1, h2, h3, f0, f1, f2, f3, hb⟩ := h
  have la : A < w'.heap.size := World.block_lt_of_cell? _ _ h0
  have lb : A + 1 < w'.heap.size := World.block_lt_of_cell? _ _ h2
  have ka : ∀ i, w2.cell? ⟨A, i, none⟩ = w'.cell? ⟨A, i, none⟩ := fun i => World.cell?_of_block (a := ⟨A, i, none⟩) (hB.block _ la)
  have kb : ∀ i, w2.cell? ⟨A + 1, i, none⟩ = w'.cell? ⟨A + 1, i, none⟩ := fun i => World.cell?_of_block (a := ⟨A + 1, i, none⟩) (hB.block _ lb)
  have ga : ∀ i, w2.frozen? ⟨A, i, none⟩ = w'.frozen? ⟨A, i, none⟩ := fun i => World.frozen?_of_block (a := ⟨A, i, none⟩) (hB.block _ la)
  have gb : ∀ i, w2.frozen? ⟨A + 1, i, none⟩ = w'.frozen? ⟨A + 1, i, none⟩ := fun i => World.frozen?_of_block (a := ⟨A + 1, i, none⟩) (hB.block _ lb)
  exact ⟨(ka _).trans h0, (ka _).trans h1, (kb _).trans h2, (kb _).trans h3, (ga _).trans f0, (ga _).trans f1, (gb _).trans f2, (gb _).trans f3, below_trans hb hB⟩

/-- The two blocks. -/
def LeS (w : World) (p q r s : Int) (w' : World) : Prop :=
  TwoAt w' w.heap.size (.int .i64 p) (.int .i64 q) ∧ TwoAt w' (w.heap.size + 1) (.int .i64 r) (.int .i64 s) ∧
    (w'.frozen? ⟨w.heap.size, 0, none⟩ = false ∧ w'.frozen? ⟨w.heap.size, 1, none⟩ = false) ∧ (w'.frozen? ⟨w.heap.size + 1, 0, none⟩ = false ∧ w'.frozen? ⟨w.heap.size + 1, 1, none⟩ = false) ∧ Below w.heap.size w w'
theorem LeS.start (w : World) (p q r s : Int) : LeS w p q r s ((w.alloc (.cells #[.int .i64 p, .int .i64 q] 34)).alloc (.cells #[.int .i64 r, .int .i64 s] 34)) := by
  have key : ∀ W : World, TwoAt (W.alloc (.cells #[.int .i64 r, .int .i64 s] 34)) W.heap.size (.int .i64 r) (.int .i64 s) := fun W => by unfold TwoAt; go_simp
  have HP := key (w.alloc (.cells #[.int .i64 p, .int .i64 q] 34))
  rw [World.size_alloc] at HP
  exact ⟨by unfold TwoAt; go_simp, HP, ⟨by go_simp, by go_simp⟩, ⟨by go_simp, by go_simp⟩, (below_alloc _).alloc (by simp) _⟩
theorem LeR.set {w W w2 : World} {a b c d : Int} (h : LeR W w.heap.size a b c d w2) (hb : Below w.heap.size w W) (x y z t : Int) :
    LeS w x y z t ((((w2.setCell ⟨w.heap.size, 0, none⟩ (.int .i64 x)).setCell ⟨w.heap.size, 1, none⟩ (.int .i64 y)).setCell ⟨w.heap.size + 1, 0, none⟩ (.int .i64 z)).setCell ⟨w.heap.size + 1, 1, none⟩ (.int .i64 t)) := by
  obtain ⟨h0, h1, h2, h3, f0, f1, f2, f3, hB⟩ := h
  have hb2 : Below w.heap.size w w2 := below_trans hb hB
  refine ⟨⟨by go_simp, by go_simp⟩, ⟨by go_simp, by go_simp⟩, ⟨?_, ?_⟩, ⟨?_, ?_⟩, ?_⟩
  · simp only [World.frozen?_setCell]; exact f0
  · simp only [World.frozen?_setCell]; exact f1
  · simp only [World.frozen?_setCell]; exact f2
  · simp only [World.frozen?_setCell]; exact f3
  · exact (((hb2.setCell (p := ⟨w.heap.size, 0, none⟩) (by simp) _).setCell (p := ⟨w.heap.size, 1, none⟩) (by simp) _).setCell (p := ⟨w.heap.size + 1, 0, none⟩) (by simp) _).setCell (p := ⟨w.heap.size + 1, 1, none⟩) (by simp) _
theorem LeS.drewN {w : World} {p q r s : Int} {w' : World} (h : LeS w p q r s w') (n : Nat) : LeS w p q r s (w'.drewN n) := ⟨h.1, h.2.1, h.2.2.1, h.2.2.2.1, below_drewN h.2.2.2.2 n⟩

set_option maxRecDepth 100000 in
set_option maxHeartbeats 1600000 in
theorem less_is (p q r s : Int) (w : World) (hp : 0 ≤ p) (hp1 : p ≤ 9223372036854775807) (hq : 1 ≤ q) (hq1 : q < 562949953421312) (hr : 0 ≤ r) (hr1 : r ≤ 9223372036854775807) (hs : 1 ≤ s) (hs1 : s < 562949953421312) :
    Calls Try.prog 47 #[planV p q, planV r s] w fun e w' => e = .returned (.bool (lessB p q r s)) ∧ Below w.heap.size w w' := by
  have Hst := Lib.hid (LeS.start w p q r s)
  obtain ⟨ans, hans⟩ : ∃ ans, lessB p q r s = ans := ⟨_, rfl⟩
  rw [hans]
  go_enter Try.func47, Try.ntmps47
  go_wp2_with fail
  go_loopw [5] (fun i wr => ∃ (n : Nat) (a b c d : Int), i = .int .i64 n ∧ Hid (small n a b ∧ small n c d) ∧ lessB a b c d = ans ∧ (0 ≤ a ∧ a ≤ 9223372036854775807 ∧ 1 ≤ b ∧ b ≤ 9223372036854775807) ∧ (0 ≤ c ∧ c ≤ 9223372036854775807 ∧ 1 ≤ d ∧ d ≤ 9223372036854775807) ∧ LeS w a b c d wr) (fun i _ => (100 - intOf i).toNat)
  case atStart => exact ⟨0, p, q, r, s, rfl, ⟨small_start hq1, small_start hs1⟩, hans, ⟨hp, hp1, hq, by omega⟩, ⟨hr, hr1, hs, by omega⟩, Hst.out⟩
  case round =>
    clear hp hp1 hq hq1 hr hr1 hs hs1 Hst hans
    obtain ⟨n, a, b, c, d, rfl, Hsm, hl, ⟨ha, ha1, hb, hb1⟩, ⟨hc, hc1, hd, hd1⟩, hS⟩ := hrel
    have hn := small_end Hsm.out.1
    have HL := Lib.hid hl
    have HS := Lib.hid hS
    obtain ⟨⟨a0, a1⟩, ⟨b0, b1⟩, ⟨f0, f1⟩, ⟨f2, f3⟩, _⟩ := hS
    have l1 : w.heap.size + 1 < wr.heap.size := World.block_lt_of_cell? _ _ b0
    have l0 : w.heap.size < wr.heap.size := by omega
    have hnn : (n : Int) < 100 := by omega
    have t1 : decide (b < 1) = false := by simp; omega
    have t2 : decide (d < 1) = false := by simp; omega
    have nb : ¬ b = 0 := by omega
    have nd : ¬ d = 0 := by omega
    have hx0 := Int.ediv_nonneg ha (show 0 ≤ b by omega)
    have hx1 := Int.ediv_le_self b ha
    have hy0 := Int.ediv_nonneg hc (show 0 ≤ d by omega)
    have hy1 := Int.ediv_le_self d hc
    have e1 : IntKind.i64.wrap (a.tdiv b) = a / b := by rw [Int.tdiv_eq_ediv_of_nonneg ha, IntWalk.i64_in _ (by omega)]
    have e2 : IntKind.i64.wrap (c.tdiv d) = c / d := by rw [Int.tdiv_eq_ediv_of_nonneg hc, IntWalk.i64_in _ (by omega)]
    clear hl
    by_cases hxy : a / b = c / d
    · have Hl2 : Hid (lessB (a % b) b (c % d) d = ans) := by show _ = _; rw [← less_eq hb hd hxy]; exact HL.out
      have m0 := Int.emod_nonneg a nb
      have m1 := Int.emod_lt_of_pos a (show 0 < b by omega)
      have m2 := Int.emod_nonneg c nd
      have m3 := Int.emod_lt_of_pos c (show 0 < d by omega)
      have e3 : IntKind.i64.wrap (a.tmod b) = a % b := by rw [Int.tmod_eq_emod_of_nonneg ha, IntWalk.i64_in _ (by omega)]
      have e4 : IntKind.i64.wrap (c.tmod d) = c % d := by rw [Int.tmod_eq_emod_of_nonneg hc, IntWalk.i64_in _ (by omega)]
      go_wp2_with fail
      go_quiet (fail)
      go_wp2_with fail
      obtain ⟨W, hW⟩ : ∃ W, wr.drewN nq = W := ⟨_, rfl⟩
      have HSd : Hid (LeS w a b c d W) := by show LeS _ _ _ _ _ W; rw [← hW]; exact HS.out.drewN nq
      clear HS a0 a1 b0 b1 f0 f1 f2 f3 l0 l1
      obtain ⟨⟨a0, a1⟩, ⟨b0, b1⟩, ⟨f0, f1⟩, ⟨f2, f3⟩, _⟩ := HSd.out
      have HR : Hid (LeR W w.heap.size a b c d W) := ⟨a0, a1, b0, b1, f0, f1, f2, f3, Below.refl _ _⟩
      rw [hW]
      clear hW
      refine wp_region_split (S := fun w' => w'.cell? ⟨w.heap.size, 0, none⟩ = some (.int .i64 a) ∧ w'.cell? ⟨w.heap.size, 1, none⟩ = some (.int .i64 b) ∧ w'.cell? ⟨w.heap.size + 1, 0, none⟩ = some (.int .i64 c) ∧ w'.cell? ⟨w.heap.size + 1, 1, none⟩ = some (.int .i64 d) ∧
          w'.frozen? ⟨w.heap.size, 0, none⟩ = false ∧ w'.frozen? ⟨w.heap.size, 1, none⟩ = false ∧ w'.frozen? ⟨w.heap.size + 1, 0, none⟩ = false ∧ w'.frozen? ⟨w.heap.size + 1, 1, none⟩ = false ∧ Below W.heap.size W w') 16 (by kernel_rfl) (by kernel_rfl) HR.out.drew (fun hHeld => ?_)
      simp only [List.take_succ_cons, List.take_zero]
      refine wpAnyH_take (i := 0) (v := ?v0) rfl (by kernel_rfl) (by kernel_rfl) (by kernel_rfl) (fun _ _ _ h => h) (Or.inl ⟨by rfl, ?y0⟩) (by assumption) ?r0
      case y0 => intro w hSw; (try dsimp only at hSw); go_simp; try with_reducible rfl
      simp only [Act.put, List.setIfInBounds_toArray]
      refine wpAnyH_take (i := 1) (v := ?v1) rfl (by kernel_rfl) (by kernel_rfl) (by kernel_rfl) (fun _ _ _ h => h) (Or.inl ⟨by rfl, ?y1⟩) (by assumption) ?r1
      case y1 => intro w hSw; (try dsimp only at hSw); go_simp; try with_reducible rfl
      simp only [Act.put]
      refine wpAnyH_take (i := 2) (v := ?v2) rfl (by kernel_rfl) (by kernel_rfl) (by kernel_rfl) (fun _ _ _ h => h) (Or.inl ⟨by rfl, ?y2⟩) (by assumption) ?r2
      case y2 => intro w hSw; (try dsimp only at hSw); go_simp; try with_reducible rfl
      simp only [Act.put]
      refine wpAnyH_take (i := 3) (v := ?v3) rfl (by kernel_rfl) (by kernel_rfl) (by kernel_rfl) (fun _ _ _ h => h) (Or.inl ⟨by rfl, ?y3⟩) (by assumption) ?r3
      case y3 => intro w hSw; (try dsimp only at hSw); go_simp; try with_reducible rfl
      simp only [Act.put]
      refine wpAnyH_take (i := 4) (v := ?v4) rfl (by kernel_rfl) (by kernel_rfl) (by kernel_rfl) (fun _ _ _ h => h) (Or.inl ⟨by rfl, ?y4⟩) (by assumption) ?r4
      case y4 => intro w hSw; (try dsimp only at hSw); go_simp; try with_reducible rfl
      simp only [Act.put]
      refine wpAnyH_take (i := 5) (v := ?v5) rfl (by kernel_rfl) (by kernel_rfl) (by kernel_rfl) (fun _ _ _ h => h) (Or.inl ⟨by rfl, ?y5⟩) (by assumption) ?r5
      case y5 => intro w hSw; (try dsimp only at hSw); go_simp; try with_reducible rfl
      simp only [Act.put]
      refine wpAnyH_take (i := 6) (v := ?v6) rfl (by kernel_rfl) (by kernel_rfl) (by kernel_rfl) (fun _ _ _ h => h) (Or.inl ⟨by rfl, ?y6⟩) (by assumption) ?r6
      case y6 => intro w hSw; (try dsimp only at hSw); go_simp; try with_reducible rfl
      simp only [Act.put]
      refine wpAnyH_take (i := 8) (v := ?v8) rfl (by kernel_rfl) (by kernel_rfl) (by kernel_rfl) (fun _ _ _ h => h) (Or.inl ⟨by rfl, ?y8⟩) (by assumption) ?r8
      case y8 => intro w hSw; (try dsimp only at hSw); go_simp; try with_reducible rfl
      simp only [Act.put]
      refine wpAnyH_take (i := 9) (v := ?v9) rfl (by kernel_rfl) (by kernel_rfl) (by kernel_rfl) (fun _ _ _ h => h) (Or.inl ⟨by rfl, ?y9⟩) (by assumption) ?r9
      case y9 => intro w hSw; (try dsimp only at hSw); go_simp; try with_reducible rfl
      simp only [Act.put]
      refine wpAnyH_take (i := 10) (v := ?v10) rfl (by kernel_rfl) (by kernel_rfl) (by kernel_rfl) (fun _ _ _ h => h) (Or.inl ⟨by rfl, ?y10⟩) (by assumption) ?r10
      case y10 => intro w hSw; (try dsimp only at hSw); go_simp; try with_reducible rfl
      simp only [Act.put]
      refine wpAnyH_take (i := 11) (v := ?v11) rfl (by kernel_rfl) (by kernel_rfl) (by kernel_rfl) (fun _ _ _ h => h) (Or.inl ⟨by rfl, ?y11⟩) (by assumption) ?r11
      case y11 => intro w hSw; (try dsimp only at hSw); go_simp; try with_reducible rfl
      simp only [Act.put]
      refine wpAnyH_take (i := 12) (v := ?v12) rfl (by kernel_rfl) (by kernel_rfl) (by kernel_rfl) (fun _ _ _ h => h) (Or.inl ⟨by rfl, ?y12⟩) (by assumption) ?r12
      case y12 => intro w hSw; (try dsimp only at hSw); go_simp; try with_reducible rfl
      simp only [Act.put]
      refine wpAnyH_take (i := 13) (v := ?v13) rfl (by kernel_rfl) (by kernel_rfl) (by kernel_rfl) (fun _ _ _ h => h) (Or.inl ⟨by rfl, ?y13⟩) (by assumption) ?r13
      case y13 => intro w hSw; (try dsimp only at hSw); go_simp; try with_reducible rfl
      simp only [Act.put]
      refine wpAnyH_take (i := 14) (v := ?v14) rfl (by kernel_rfl) (by kernel_rfl) (by kernel_rfl) (fun _ _ _ h => h) (Or.inl ⟨by rfl, ?y14⟩) (by assumption) ?r14
      case y14 => intro w hSw; (try dsimp only at hSw); go_simp; try with_reducible rfl
      simp only [Act.put]
      refine wpAnyH_ready (rs := [7]) (by kernel_rfl) (by simp) ?_
      refine AllReadyH.cons rfl (fun K hK => ?_) AllReadyH.nil
      go_simp
      go_at_call 46
      refine (of_is _ _ _).mono ?_
      rintro e w1 ⟨rfl, hB1⟩
      have HR1 := Lib.hid (LeR.below HR.out.drew hB1)
      clear hB1
      refine hK.out _ _ HR1.out (fun hHeld1 => ?_)
      clear hK K hHeld
      refine wpAnyH_ready (rs := [15]) (by kernel_rfl) (by simp) ?_
      refine AllReadyH.cons rfl (fun K hK => ?_) AllReadyH.nil
      go_simp
      go_at_call 46
      refine (of_is _ _ _).mono ?_
      rintro e w2 ⟨rfl, hB2⟩
      have HR2 := Lib.hid (LeR.below HR1.out hB2)
      clear hB2
      refine hK.out _ _ HR2.out (fun hHeld2 => ?_)
      clear hK K hHeld1
      refine wpAnyH_done (by kernel_rfl) ?_ _
      obtain ⟨c0, c1, c2, c3, j0, j1, j2, j3, hBw⟩ := hHeld2
      clear hBw
      change wpList _ _ _ _ _ _
      simp only [List.drop_succ_cons, List.drop_zero]
      rw [Int.tmod_eq_emod_of_nonneg ha, Int.tmod_eq_emod_of_nonneg hc]
      have HSt := Lib.hid (LeR.set HR2.out HSd.out.2.2.2.2 (a % b) b (c % d) d)
      have Hz : Hid (a % b = 0 ∨ c % d = 0 → ans = (decide (a % b = 0) && decide (0 < c % d))) := fun h => by rw [← Hl2.out]; exact less_zero hb hd m0 m2 h
      have Hs1 := Lib.hid (small_step Hsm.out.1 ha hb)
      have Hs2 := Lib.hid (small_step Hsm.out.2 hc hd)
      clear a0 a1 b0 b1 f0 f1 f2 f3 HR HR1 HR2 HSd e1 e2 e3 e4
      generalize a % b = u at *
      generalize c % d = v at *
      clear t1 t2 nb nd
      by_cases hu : u = 0
      · have Ha := Lib.hid (Hz.out (.inl hu))
        subst hu
        clear Hz
        by_cases hv : 0 < v
        · have dv : decide (0 < v) = true := by simpa using hv
          have Hans : Hid (ans = true) := by show _ = _; rw [Ha.out, dv]; rfl
          go_wp2_with fail
          go_ret
          exact ⟨by rw [Hans.out]; rfl, HSt.out.2.2.2.2⟩
        · have dv : decide (0 < v) = false := by simpa using hv
          have Hans : Hid (ans = false) := by show _ = _; rw [Ha.out, dv]; rfl
          go_wp2_with fail
          go_ret
          exact ⟨by rw [Hans.out]; rfl, HSt.out.2.2.2.2⟩
      by_cases hv : v = 0
      · have Ha := Lib.hid (Hz.out (.inr hv))
        have du : (u == 0) = false := beq_eq_false_iff_ne.2 hu
        have Hans : Hid (ans = false) := by show _ = _; rw [Ha.out, decide_eq_false hu]; rfl
        subst hv
        clear Hz Ha
        go_wp2_with fail
        go_ret
        exact ⟨by rw [Hans.out]; rfl, HSt.out.2.2.2.2⟩
      · have du : (u == 0) = false := beq_eq_false_iff_ne.2 hu
        have dv : (v == 0) = false := beq_eq_false_iff_ne.2 hv
        have Hl3 : Hid (lessB d v b u = ans) := by show _ = _; rw [less_turn]; exact Hl2.out
        clear Hz Hl2
        go_wp2_with fail
        obtain ⟨WS, hWS⟩ : ∃ WS, (((w2.setCell ⟨w.heap.size, 0, none⟩ (.int .i64 u)).setCell ⟨w.heap.size, 1, none⟩ (.int .i64 b)).setCell ⟨w.heap.size + 1, 0, none⟩ (.int .i64 v)).setCell ⟨w.heap.size + 1, 1, none⟩ (.int .i64 d) = WS := ⟨_, rfl⟩
        rw [hWS] at HSt ⊢
        clear hWS c0 c1 c2 c3 j0 j1 j2 j3
        obtain ⟨⟨a0, a1⟩, ⟨b0, b1⟩, ⟨f0, f1⟩, ⟨f2, f3⟩, _⟩ := HSt.out
        have HR : Hid (LeR WS w.heap.size u b v d WS) := ⟨a0, a1, b0, b1, f0, f1, f2, f3, Below.refl _ _⟩
        refine wp_region_split (S := fun w' => w'.cell? ⟨w.heap.size, 0, none⟩ = some (.int .i64 u) ∧ w'.cell? ⟨w.heap.size, 1, none⟩ = some (.int .i64 b) ∧ w'.cell? ⟨w.heap.size + 1, 0, none⟩ = some (.int .i64 v) ∧ w'.cell? ⟨w.heap.size + 1, 1, none⟩ = some (.int .i64 d) ∧
            w'.frozen? ⟨w.heap.size, 0, none⟩ = false ∧ w'.frozen? ⟨w.heap.size, 1, none⟩ = false ∧ w'.frozen? ⟨w.heap.size + 1, 0, none⟩ = false ∧ w'.frozen? ⟨w.heap.size + 1, 1, none⟩ = false ∧ Below WS.heap.size WS w') 10 (by kernel_rfl) (by kernel_rfl) HR.out.drew (fun hHeld => ?_)
        simp only [List.take_succ_cons, List.take_zero]
        refine wpAnyH_take (i := 0) (v := ?w0) rfl (by kernel_rfl) (by kernel_rfl) (by kernel_rfl) (fun _ _ _ h => h) (Or.inl ⟨by rfl, ?z0⟩) (by assumption) ?s0
        case z0 => intro w hSw; (try dsimp only at hSw); go_simp; try with_reducible rfl
        simp only [Act.put, List.setIfInBounds_toArray]
        refine wpAnyH_take (i := 1) (v := ?w1) rfl (by kernel_rfl) (by kernel_rfl) (by kernel_rfl) (fun _ _ _ h => h) (Or.inl ⟨by rfl, ?z1⟩) (by assumption) ?s1
        case z1 => intro w hSw; (try dsimp only at hSw); go_simp; try with_reducible rfl
        simp only [Act.put]
        refine wpAnyH_take (i := 2) (v := ?w2) rfl (by kernel_rfl) (by kernel_rfl) (by kernel_rfl) (fun _ _ _ h => h) (Or.inl ⟨by rfl, ?z2⟩) (by assumption) ?s2
        case z2 => intro w hSw; (try dsimp only at hSw); go_simp; try with_reducible rfl
        simp only [Act.put]
        refine wpAnyH_take (i := 3) (v := ?w3) rfl (by kernel_rfl) (by kernel_rfl) (by kernel_rfl) (fun _ _ _ h => h) (Or.inl ⟨by rfl, ?z3⟩) (by assumption) ?s3
        case z3 => intro w hSw; (try dsimp only at hSw); go_simp; try with_reducible rfl
        simp only [Act.put]
        refine wpAnyH_take (i := 5) (v := ?w5) rfl (by kernel_rfl) (by kernel_rfl) (by kernel_rfl) (fun _ _ _ h => h) (Or.inl ⟨by rfl, ?z5⟩) (by assumption) ?s5
        case z5 => intro w hSw; (try dsimp only at hSw); go_simp; try with_reducible rfl
        simp only [Act.put]
        refine wpAnyH_take (i := 6) (v := ?w6) rfl (by kernel_rfl) (by kernel_rfl) (by kernel_rfl) (fun _ _ _ h => h) (Or.inl ⟨by rfl, ?z6⟩) (by assumption) ?s6
        case z6 => intro w hSw; (try dsimp only at hSw); go_simp; try with_reducible rfl
        simp only [Act.put]
        refine wpAnyH_take (i := 7) (v := ?w7) rfl (by kernel_rfl) (by kernel_rfl) (by kernel_rfl) (fun _ _ _ h => h) (Or.inl ⟨by rfl, ?z7⟩) (by assumption) ?s7
        case z7 => intro w hSw; (try dsimp only at hSw); go_simp; try with_reducible rfl
        simp only [Act.put]
        refine wpAnyH_take (i := 8) (v := ?w8) rfl (by kernel_rfl) (by kernel_rfl) (by kernel_rfl) (fun _ _ _ h => h) (Or.inl ⟨by rfl, ?z8⟩) (by assumption) ?s8
        case z8 => intro w hSw; (try dsimp only at hSw); go_simp; try with_reducible rfl
        simp only [Act.put]
        refine wpAnyH_ready (rs := [4]) (by kernel_rfl) (by simp) ?_
        refine AllReadyH.cons rfl (fun K hK => ?_) AllReadyH.nil
        go_simp
        go_at_call 46
        refine (of_is _ _ _).mono ?_
        rintro e w3 ⟨rfl, hB1⟩
        have HR1 := Lib.hid (LeR.below HR.out.drew hB1)
        clear hB1
        refine hK.out _ _ HR1.out (fun hHeld1 => ?_)
        clear hK K hHeld
        refine wpAnyH_ready (rs := [9]) (by kernel_rfl) (by simp) ?_
        refine AllReadyH.cons rfl (fun K hK => ?_) AllReadyH.nil
        go_simp
        go_at_call 46
        refine (of_is _ _ _).mono ?_
        rintro e w4 ⟨rfl, hB2⟩
        have HR2 := Lib.hid (LeR.below HR1.out hB2)
        clear hB2
        refine hK.out _ _ HR2.out (fun hHeld2 => ?_)
        clear hK K hHeld1
        refine wpAnyH_done (by kernel_rfl) ?_ _
        obtain ⟨c0, c1, c2, c3, j0, j1, j2, j3, hBw⟩ := hHeld2
        clear hBw
        change wpList _ _ _ _ _ _
        simp only [List.drop_succ_cons, List.drop_zero]
        have HSu := Lib.hid (LeR.set HR2.out HSt.out.2.2.2.2 d v b u)
        clear a0 a1 b0 b1 f0 f1 f2 f3 HR HR1 HR2 HSt
        go_wp2_with fail
        go_roundw
        case rel => exact ⟨n + 1, d, v, b, u, by go_num, ⟨Hs2.out, Hs1.out⟩, Hl3.out, ⟨by omega, by omega, by omega, by omega⟩, ⟨by omega, by omega, by omega, by omega⟩, HSu.out⟩
        case measure => simp [intOf]; omega
    · have Hl2 : Hid (ans = decide (a / b < c / d)) := by show _ = _; rw [← HL.out]; exact less_ne hb hd hxy
      generalize a / b = x at *
      generalize c / d = y at *
      have hne : (x != y) = true := by simpa using hxy
      go_wp2_with fail
      go_quiet (fail)
      go_wp2_with fail
      go_ret
      exact ⟨by rw [Hl2.out]; rfl, below_drewN HS.out.2.2.2.2 _⟩

end Go.Proofs.Ythpllmefbhjmmaa
