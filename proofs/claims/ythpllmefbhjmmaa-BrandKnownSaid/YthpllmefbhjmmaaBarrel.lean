/-
  Barrels and brands: whether they are valid, and whether a barrel is below a brand.
-/
import Derived.Test.YthpllmefbhjmmaaKept
import Derived.LoopN
import Derived.Lib.MinMax
import Derived.StillTailTactics
namespace Go.Proofs.Ythpllmefbhjmmaa
open Go.RowKit Go.Maps Plain

/-- A barrel's four numbers. -/
structure Br where
  b0 : Int
  b1 : Int
  b2 : Int
  b3 : Int

abbrev brV (x : Br) : Value := .agg #[.int .i64 x.b0, .int .i64 x.b1, .int .i64 x.b2, .int .i64 x.b3]
def barB (x : Br) : Bool := inB x.b0 0 1000 && inB x.b1 0 1000 && inB x.b2 0 1000 && inB x.b3 0 1000

set_option maxRecDepth 100000 in
set_option maxHeartbeats 1600000 in
theorem isBarrel_any (x : Br) (w : World) :
    Calls Try.prog 56 #[brV x] w fun e w' => e = .returned (.bool (barB x)) ∧ Below w.heap.size w w' := by
  obtain ⟨x0, x1, x2, x3⟩ := x
  have i0 : ∀ w, (Instr.index 24 (.agg #[.int .i64 x0, .int .i64 x1, .int .i64 x2, .int .i64 x3]) (.int .i64 0)).run Try.prog w = .ok (.int .i64 x0) w := fun _ => by kernel_rfl
  have i1 : ∀ w, (Instr.index 24 (.agg #[.int .i64 x0, .int .i64 x1, .int .i64 x2, .int .i64 x3]) (.int .i64 1)).run Try.prog w = .ok (.int .i64 x1) w := fun _ => by kernel_rfl
  have i2 : ∀ w, (Instr.index 24 (.agg #[.int .i64 x0, .int .i64 x1, .int .i64 x2, .int .i64 x3]) (.int .i64 2)).run Try.prog w = .ok (.int .i64 x2) w := fun _ => by kernel_rfl
  have i3 : ∀ w, (Instr.index 24 (.agg #[.int .i64 x0, .int .i64 x1, .int .i64 x2, .int .i64 x3]) (.int .i64 3)).run Try.prog w = .ok (.int .i64 x3) w := fun _ => by kernel_rfl
  have hB := below_alloc (w := w) (.cells #[.int .i64 x0, .int .i64 x1, .int .i64 x2, .int .i64 x3] 24)
  obtain ⟨q0, h0⟩ : ∃ q, inB x0 0 1000 = q := ⟨_, rfl⟩
  obtain ⟨q1, h1⟩ : ∃ q, inB x1 0 1000 = q := ⟨_, rfl⟩
  obtain ⟨q2, h2⟩ : ∃ q, inB x2 0 1000 = q := ⟨_, rfl⟩
  obtain ⟨q3, h3⟩ : ∃ q, inB x3 0 1000 = q := ⟨_, rfl⟩
  have He : Hid (barB ⟨x0, x1, x2, x3⟩ = (q0 && q1 && q2 && q3)) := by show barB _ = _; simp only [barB, h0, h1, h2, h3]
  have H0 := Lib.hid h0
  have H1 := Lib.hid h1
  have H2 := Lib.hid h2
  have H3 := Lib.hid h3
  clear h0 h1 h2 h3
  rw [He.out]
  clear He
  go_enter Try.func56, Try.ntmps56
  go_wp2_with fail
  refine wp_loop_rounds 5 ?_
  rw [rounds_succ]
  go_wp2_with fail
  refine (within_is _ _ _ _ H0.out).mono ?_
  rintro e w1 ⟨rfl, rfl⟩
  cases q0 with
  | false =>
    go_wp2_with fail
    go_ret
    exact ⟨rfl, hB⟩
  | true =>
  go_wp2_with fail
  rw [rounds_succ]
  go_wp2_with fail
  refine (within_is _ _ _ _ H1.out).mono ?_
  rintro e w1 ⟨rfl, rfl⟩
  cases q1 with
  | false =>
    go_wp2_with fail
    go_ret
    exact ⟨rfl, hB⟩
  | true =>
  go_wp2_with fail
  rw [rounds_succ]
  go_wp2_with fail
  refine (within_is _ _ _ _ H2.out).mono ?_
  rintro e w1 ⟨rfl, rfl⟩
  cases q2 with
  | false =>
    go_wp2_with fail
    go_ret
    exact ⟨rfl, hB⟩
  | true =>
  go_wp2_with fail
  rw [rounds_succ]
  go_wp2_with fail
  refine (within_is _ _ _ _ H3.out).mono ?_
  rintro e w1 ⟨rfl, rfl⟩
  cases q3 with
  | false =>
    go_wp2_with fail
    go_ret
    exact ⟨rfl, hB⟩
  | true =>
  go_wp2_with fail
  rw [rounds_succ]
  go_wp2_with fail
  go_ret
  exact ⟨rfl, hB⟩

theorem isBarrel_is {q : Bool} (x : Br) (w : World) (h : barB x = q) :
    Calls Try.prog 56 #[brV x] w fun e w' => e = .returned (.bool q) ∧ Below w.heap.size w w' := by
  rw [← h]; exact isBarrel_any x w

/-- A span, and a brand's four spans. -/
structure Sp where
  lo : Int
  hi : Int
structure Mk where
  s0 : Sp
  s1 : Sp
  s2 : Sp
  s3 : Sp

abbrev mkV (m : Mk) : Value := .agg #[.int .i64 m.s0.lo, .int .i64 m.s0.hi, .int .i64 m.s1.lo, .int .i64 m.s1.hi, .int .i64 m.s2.lo, .int .i64 m.s2.hi, .int .i64 m.s3.lo, .int .i64 m.s3.hi]

/-- A number brought within a span. -/
def clamp (b : Int) (s : Sp) : Int := min (max b s.lo) s.hi

def Br.at (x : Br) : Nat → Int
  | 0 => x.b0
  | 1 => x.b1
  | 2 => x.b2
  | _ => x.b3
def Mk.at (m : Mk) : Nat → Sp
  | 0 => m.s0
  | 1 => m.s1
  | 2 => m.s2
  | _ => m.s3

/-- Is a barrel below a brand? -/
def belowB (m : Mk) (x : Br) : Bool := !((clamp x.b0 m.s0 == x.b0) && (clamp x.b1 m.s1 == x.b1) && (clamp x.b2 m.s2 == x.b2) && (clamp x.b3 m.s3 == x.b3))

/-- What holds at each round's head, k numbers having been brought within their spans. -/
def BelS (w : World) (m : Mk) (x : Br) (k : Nat) (W : World) : Prop :=
  (∀ j, j < 4 → W.cell? ⟨w.heap.size + 1 + 1, j, none⟩ = some (.int .i64 (if j < k then clamp (x.at j) (m.at j) else x.at j)) ∧ W.frozen? ⟨w.heap.size + 1 + 1, j, none⟩ = false) ∧
    (∀ j, j < 4 → W.cell? ⟨w.heap.size + 1, j, none⟩ = some (.int .i64 (x.at j))) ∧ Below w.heap.size w W

theorem four {P : Nat → Prop} (h0 : P 0) (h1 : P 1) (h2 : P 2) (h3 : P 3) : ∀ j, j < 4 → P j := by
  intro j hj
  obtain rfl | rfl | rfl | rfl : j = 0 ∨ j = 1 ∨ j = 2 ∨ j = 3 := by omega
  · exact h0
  · exact h1
  · exact h2
  · exact h3

theorem BelS.start (w : World) (m : Mk) (x : Br) : BelS w m x 0 (((w.alloc (.cells #[.int .i64 m.s0.lo, .int .i64 m.s0.hi, .int .i64 m.s1.lo, .int .i64 m.s1.hi, .int .i64 m.s2.lo, .int .i64 m.s2.hi, .int .i64 m.s3.lo, .int .i64 m.s3.hi] 98)).alloc (.cells #[.int .i64 x.b0, .int .i64 x.b1, .int .i64 x.b2, .int .i64 x.b3] 24)).alloc (.cells #[.int .i64 x.b0, .int .i64 x.b1, .int .i64 x.b2, .int .i64 x.b3] 24)) := by
  refine ⟨four ?_ ?_ ?_ ?_, four ?_ ?_ ?_ ?_, ((below_alloc _).alloc (by simp) _).alloc (by simp; omega) _⟩
  all_goals (simp only [Br.at]; go_simp)

theorem BelS.step {w : World} {m : Mk} {x : Br} {k : Nat} {W : World} (h : BelS w m x k W) (hk : k < 4) :
    BelS w m x (k + 1) ((W.alloc (.cells #[.int .i64 (m.at k).lo, .int .i64 (m.at k).hi] 47)).setCell ⟨w.heap.size + 1 + 1, k, none⟩ (.int .i64 (clamp (x.at k) (m.at k)))).drew := by
  obtain ⟨h1, h2, hB⟩ := h
  have hb : w.heap.size + 1 + 1 < W.heap.size := by have := World.block_lt_of_cell? W _ (h1 0 (by omega)).1; exact this
  refine ⟨fun j hj => ?_, fun j hj => ?_, ((hB.alloc hB.size _).setCell (p := ⟨w.heap.size + 1 + 1, k, none⟩) (by simp; omega) _).drew⟩
  · obtain ⟨c1, f1⟩ := h1 j hj
    have c2 : (W.alloc (.cells #[.int .i64 (m.at k).lo, .int .i64 (m.at k).hi] 47)).cell? ⟨w.heap.size + 1 + 1, j, none⟩ = _ := (World.cell?_alloc_lt _ _ _ hb).trans c1
    constructor
    · by_cases e : j = k
      · subst e
        rw [if_pos (by omega)]
        exact World.cell?_setCell_same' _ _ _ (by rw [c2]; rfl)
      · have hne : (⟨w.heap.size + 1 + 1, j, none⟩ : Addr) ≠ ⟨w.heap.size + 1 + 1, k, none⟩ := fun h => e (by injection h)
        show (World.setCell _ _ _).cell? _ = _
        rw [World.cell?_setCell_other _ _ _ _ hne.symm, c2]
        by_cases h : j < k
        · rw [if_pos h, if_pos (by omega)]
        · rw [if_neg h, if_neg (by omega)]
    · show (World.setCell _ _ _).frozen? _ = _
      rw [World.frozen?_setCell]
      exact (World.frozen?_of_block (Below.heap_alloc W _ _ hb)).trans f1
  · show (World.setCell _ _ _).cell? _ = _
    rw [World.cell?_setCell_far _ _ _ _ (by simp)]
    exact (World.cell?_alloc_lt _ _ _ (by simp; omega)).trans (h2 j hj)

set_option maxRecDepth 100000 in
theorem mark_index (m : Mk) (k : Nat) (hk : k < 4) : ∀ w, (Instr.index 98 (mkV m) (.int .i64 (k : Int))).run Try.prog w = .ok (.agg #[.int .i64 (m.at k).lo, .int .i64 (m.at k).hi]) w := by
  revert k
  refine four ?_ ?_ ?_ ?_
  all_goals (obtain ⟨⟨l0, g0⟩, ⟨l1, g1⟩, ⟨l2, g2⟩, ⟨l3, g3⟩⟩ := m; exact fun _ => by kernel_rfl)

theorem eq24 (a b c d x y z u : Int) (w : World) : (Op.equalIn 10000 24 (.agg #[.int .i64 a, .int .i64 b, .int .i64 c, .int .i64 d]) (.agg #[.int .i64 x, .int .i64 y, .int .i64 z, .int .i64 u])).run Try.prog w = .ok ((a == x) && (b == y) && (c == z) && (d == u)) w := by
  have u3 := Try.underlying3
  have a3 := Try.isAgg3
  have z3 := Try.sizeOf3
  rw [show (10000 : Nat) = 9999 + 1 from rfl, Op.equalIn]
  simp only [Sem.run_bind, run_underlying Try.underlying24, Result.andThen_ok]
  simp only [Std.Legacy.Range.forIn_eq_forIn_range', Std.Legacy.Range.size, Nat.sub_zero, Nat.add_sub_cancel, Nat.div_one, List.range'_succ, List.range'_zero, List.forIn_cons, List.forIn_nil]
  go_simp
  by_cases h1 : a = x <;> by_cases h2 : b = y <;> by_cases h3 : c = z <;> by_cases h4 : d = u <;> simp [h1, h2, h3, h4]

set_option maxRecDepth 100000 in
set_option maxHeartbeats 1600000 in
theorem isBelow_any (m : Mk) (x : Br) (w : World) :
    Calls Try.prog 57 #[mkV m, brV x] w fun e w' => e = .returned (.bool (belowB m x)) ∧ Below w.heap.size w w' := by
  have Hst := Lib.hid (BelS.start w m x)
  have Hix := Lib.hid (mark_index m)
  go_enter Try.func57, Try.ntmps57
  go_wp2_with fail
  go_loopw [10] (fun i wr => ∃ k : Nat, k ≤ 4 ∧ i = .int .i64 k ∧ BelS w m x k wr) (fun i _ => (4 - (intOf i).toNat))
  case atStart => exact ⟨0, by omega, rfl, Hst.out⟩
  case round =>
    obtain ⟨k, hk, rfl, hS⟩ := hrel
    have Hs := Lib.hid hS
    have hB := hS.2.2
    have hz := hB.size
    by_cases hlt : k < 4
    · have hk0 : (0 : Int) ≤ k := by omega
      have hk4 : (k : Int) < 4 := by omega
      obtain ⟨hc, hf⟩ := hS.1 k hlt
      rw [if_neg (by omega)] at hc
      have hbl := World.block_lt_of_cell? wr _ hc
      simp only at hbl
      have hix := Hix.out k hlt
      clear hS
      go_wp2_with fail
      have hc1 : (wr.alloc (.cells #[.int .i64 (m.at k).lo, .int .i64 (m.at k).hi] 47)).cell? ⟨w.heap.size + 1 + 1, k, none⟩ = some (.int .i64 (x.at k)) := (World.cell?_alloc_lt _ _ _ (by simp; omega)).trans hc
      have hf1 : (wr.alloc (.cells #[.int .i64 (m.at k).lo, .int .i64 (m.at k).hi] 47)).frozen? ⟨w.heap.size + 1 + 1, k, none⟩ = false := by go_simp
      have s0 : (wr.alloc (.cells #[.int .i64 (m.at k).lo, .int .i64 (m.at k).hi] 47)).cell? ⟨wr.heap.size, 0, none⟩ = some (.int .i64 (m.at k).lo) := by go_simp
      have s1 : (wr.alloc (.cells #[.int .i64 (m.at k).lo, .int .i64 (m.at k).hi] 47)).cell? ⟨wr.heap.size, 1, none⟩ = some (.int .i64 (m.at k).hi) := by go_simp
      have Hstep := Lib.hid (Hs.out.step hlt)
      obtain ⟨W1, hW1⟩ : ∃ W1, wr.alloc (.cells #[.int .i64 (m.at k).lo, .int .i64 (m.at k).hi] 47) = W1 := ⟨_, rfl⟩
      rw [hW1] at hc1 hf1 s0 s1 Hstep ⊢
      clear hW1 hc hf
      go_still_tail 11, (by kernel_rfl)
      change wpList _ _ _ _ _ W1.drew
      go_wp2
      go_roundw
      case rel => exact ⟨k + 1, by omega, by go_num, Hstep.out⟩
      case measure => simp [intOf]; omega
    · obtain rfl : k = 4 := by omega
      obtain ⟨h1, h2, _⟩ := hS
      have n0 := (h1 0 (by omega)).1
      have n1 := (h1 1 (by omega)).1
      have n2 := (h1 2 (by omega)).1
      have n3 := (h1 3 (by omega)).1
      have y0 := h2 0 (by omega)
      have y1 := h2 1 (by omega)
      have y2 := h2 2 (by omega)
      have y3 := h2 3 (by omega)
      rw [if_pos (by omega)] at n0 n1 n2 n3
      clear h1 h2
      simp only [Br.at, Mk.at] at n0 n1 n2 n3 y0 y1 y2 y3
      obtain ⟨x0, x1, x2, x3⟩ := x
      have He : Hid (belowB m ⟨x0, x1, x2, x3⟩ = !((clamp x0 m.s0 == x0) && (clamp x1 m.s1 == x1) && (clamp x2 m.s2 == x2) && (clamp x3 m.s3 == x3))) := rfl
      simp only at n0 n1 n2 n3 y0 y1 y2 y3
      generalize clamp x0 m.s0 = c0 at *
      generalize clamp x1 m.s1 = c1 at *
      generalize clamp x2 m.s2 = c2 at *
      generalize clamp x3 m.s3 = c3 at *
      have heq := fun w => eq24 c0 c1 c2 c3 x0 x1 x2 x3 w
      generalize ((c0 == x0) && (c1 == x1) && (c2 == x2) && (c3 == x3)) = q at He heq
      go_wp2_with fail
      go_ret
      exact ⟨by rw [He.out]; rfl, hB⟩

theorem isBelow_is {q : Bool} (m : Mk) (x : Br) (w : World) (h : belowB m x = q) :
    Calls Try.prog 57 #[mkV m, brV x] w fun e w' => e = .returned (.bool q) ∧ Below w.heap.size w w' := by
  rw [← h]; exact isBelow_any m x w

end Go.Proofs.Ythpllmefbhjmmaa
