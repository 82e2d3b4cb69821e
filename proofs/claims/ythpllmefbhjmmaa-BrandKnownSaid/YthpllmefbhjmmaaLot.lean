/-
  The small functions of a lot: within, plans, rules, the odds of a plan, compared and reduced.
-/
import Derived.Test.YthpllmefbhjmmaaFound
import Derived.Deep.QuietTactic
import Derived.BigQuiet
namespace Go.Proofs.Ythpllmefbhjmmaa
open Go.RowKit Go.Maps Plain

/-- Does a number lie from a least one to a greatest one? -/
def inB (n lo hi : Int) : Bool := decide (lo ≤ n) && decide (n ≤ hi)
theorem inB_true {n lo hi : Int} (h : inB n lo hi = true) : lo ≤ n ∧ n ≤ hi := by simpa [inB] using h
theorem inB_mk {n lo hi : Int} (h : lo ≤ n ∧ n ≤ hi) : inB n lo hi = true := by simpa [inB] using h
theorem inB_false {n lo hi : Int} (h : inB n lo hi = false) : ¬ (lo ≤ n ∧ n ≤ hi) := fun h' => by rw [inB_mk h'] at h; cases h
theorem inB_no {n lo hi : Int} (h : ¬ (lo ≤ n ∧ n ≤ hi)) : inB n lo hi = false := by
  cases hb : inB n lo hi
  · rfl
  · exact absurd (inB_true hb) h

set_option maxHeartbeats 400000 in
theorem within_any (n lo hi : Int) (w : World) :
    Calls Try.prog 62 #[.int .i64 n, .int .i64 lo, .int .i64 hi] w fun e w' => e = .returned (.bool (inB n lo hi)) ∧ w = w' := by
  by_cases h1 : lo ≤ n
  · have hd : decide (lo ≤ n) = true := by simpa using h1
    go_enter Try.func62, Try.ntmps62
    go_wp2
    go_ret
    exact ⟨by simp [inB, h1], rfl⟩
  · have hd : decide (lo ≤ n) = false := by simpa using h1
    go_enter Try.func62, Try.ntmps62
    go_wp2
    go_ret
    exact ⟨by rw [inB_no (by omega)]; rfl, rfl⟩

theorem within_is {r : Bool} (n lo hi : Int) (w : World) (h : inB n lo hi = r) :
    Calls Try.prog 62 #[.int .i64 n, .int .i64 lo, .int .i64 hi] w fun e w' => e = .returned (.bool r) ∧ w = w' := by
  rw [← h]; exact within_any n lo hi w

theorem grown_of_below {a w : World} (h : Below a.heap.size a w) (row : Option Nat) : a.grownBy w row := ⟨h.os, h.tape, h.output, h.size, fun i hi _ => h.block i hi⟩

theorem below_alloc {w : World} (o : Obj) : Below w.heap.size w (w.alloc o) := (Below.refl _ _).alloc (Nat.le_refl _) _

set_option maxHeartbeats 400000 in
/-- 'isPlan'. -/
theorem isPlan_any (N o a : Int) (m : Nat) (w : World) :
    Calls Try.prog 64 #[lotV N m, .agg #[.int .i64 o, .int .i64 a]] w fun e w' => e = .returned (.bool (inB o 0 N && inB a 0 o)) ∧ Below w.heap.size w w' := by
  cases h1 : inB o 0 N with
  | true =>
    have H1 := Lib.hid h1
    clear h1
    cases h2 : inB a 0 o with
    | true =>
      have H2 := Lib.hid h2
      clear h2
      go_enter Try.func64, Try.ntmps64
      go_wp2_with fail
      refine (within_is _ _ _ _ H1.out).mono ?_
      rintro e w1 ⟨rfl, rfl⟩
      go_wp2_with fail
      refine (within_is _ _ _ _ H2.out).mono ?_
      rintro e w1 ⟨rfl, rfl⟩
      go_wp2
      go_ret
      exact ⟨rfl, (below_alloc _).alloc (by simp) _⟩
    | false =>
      have H2 := Lib.hid h2
      clear h2
      go_enter Try.func64, Try.ntmps64
      go_wp2_with fail
      refine (within_is _ _ _ _ H1.out).mono ?_
      rintro e w1 ⟨rfl, rfl⟩
      go_wp2_with fail
      refine (within_is _ _ _ _ H2.out).mono ?_
      rintro e w1 ⟨rfl, rfl⟩
      go_wp2
      go_ret
      exact ⟨rfl, (below_alloc _).alloc (by simp) _⟩
  | false =>
    have H1 := Lib.hid h1
    clear h1
    go_enter Try.func64, Try.ntmps64
    go_wp2_with fail
    refine (within_is _ _ _ _ H1.out).mono ?_
    rintro e w1 ⟨rfl, rfl⟩
    go_wp2
    go_ret
    exact ⟨rfl, (below_alloc _).alloc (by simp) _⟩

set_option maxHeartbeats 400000 in
/-- 'areOdds'. -/
theorem areOdds_any (o i : Int) (w : World) :
    Calls Try.prog 75 #[.agg #[.int .i64 o, .int .i64 i]] w fun e w' => e = .returned (.bool (inB i 1 1000 && inB o 0 i)) ∧ Below w.heap.size w w' := by
  cases h1 : inB i 1 1000 with
  | true =>
    have H1 := Lib.hid h1
    clear h1
    obtain ⟨r, h2⟩ : ∃ r, inB o 0 i = r := ⟨_, rfl⟩
    rw [h2]
    have H2 := Lib.hid h2
    clear h2
    go_enter Try.func75, Try.ntmps75
    go_wp2_with fail
    refine (within_is _ _ _ _ H1.out).mono ?_
    rintro e w1 ⟨rfl, rfl⟩
    go_wp2_with fail
    refine (within_is _ _ _ _ H2.out).mono ?_
    rintro e w1 ⟨rfl, rfl⟩
    go_wp2
    go_ret
    exact ⟨rfl, below_alloc _⟩
  | false =>
    have H1 := Lib.hid h1
    clear h1
    go_enter Try.func75, Try.ntmps75
    go_wp2_with fail
    refine (within_is _ _ _ _ H1.out).mono ?_
    rintro e w1 ⟨rfl, rfl⟩
    go_wp2
    go_ret
    exact ⟨rfl, below_alloc _⟩

set_option maxHeartbeats 400000 in
/-- 'lotOf'. -/
theorem lotOf_any (N : Int) (w : World) :
    Calls Try.prog 63 #[.int .i64 N] w fun e w' => e = .returned (lotV N (w.heap.size + 1)) ∧ Memo w' (w.heap.size + 1) ∧ Below w.heap.size w w' := by
  have hmm := @run_makeMap Try.prog
  go_enter Try.func63, Try.ntmps63
  go_wp2
  refine bodyPost_ret (v := lotV N (w.heap.size + 1)) (by simp [results, Try.results63, go_sem]) rfl ⟨rfl, ?_, ?_⟩
  · have := Memo.made (w.alloc (.cells #[.int .i64 N, .map (some (w.heap.size + 1))] 103))
    rwa [World.size_alloc] at this
  · exact (below_alloc _).alloc (by simp) _

set_option maxHeartbeats 400000 in
/-- 'compare'. -/
theorem compare_any (o i xo xi : Int) (w : World) (h0 : 0 ≤ o) (h1 : o ≤ 45079976738816) (h2 : 0 ≤ i) (h3 : i ≤ 1099511627776) (h4 : 0 ≤ xo) (h5 : xo ≤ 1000) (h6 : 0 ≤ xi) (h7 : xi ≤ 1000) :
    Calls Try.prog 78 #[.agg #[.int .i64 o, .int .i64 i], .agg #[.int .i64 xo, .int .i64 xi]] w fun e w' => e = .returned (.int .i64 (o * xi - xo * i)) ∧ Below w.heap.size w w' := by
  have g1 : 0 ≤ o * xi := Int.mul_nonneg h0 h6
  have g2 : o * xi ≤ 45079976738816000 := Int.le_trans (Int.mul_le_mul h1 h7 h6 (by omega)) (by omega)
  have g3 : 0 ≤ xo * i := Int.mul_nonneg h4 h2
  have g4 : xo * i ≤ 1099511627776000 := Int.le_trans (Int.mul_le_mul h5 h3 h2 (by omega)) (by omega)
  go_enter Try.func78, Try.ntmps78
  go_wp2
  go_ret
  exact ⟨rfl, (below_alloc _).alloc (by simp) _⟩

set_option maxHeartbeats 400000 in
/-- 'passes'. -/
theorem passes_any (N b o a : Int) (w : World) (m : Nat) (hN : N ≤ 40) (hb0 : 0 ≤ b) (hb : b ≤ N) (hn : o ≤ N) (ha0 : 0 ≤ a) (ha : a ≤ o) (hM : Memo w m) :
    Calls Try.prog 65 #[lotV N m, .int .i64 b, .agg #[.int .i64 o, .int .i64 a]] w fun e w' =>
      e = .returned (.agg #[.int .i64 (fnd N b o 0 a), .int .i64 (cnt N o)]) ∧ Memo w' m ∧ w.grownBy w' (some m) := by
  go_enter Try.func65, Try.ntmps65
  go_wp2_with fail
  refine (found_any N b o 0 a _ m hN hb0 hb (by omega) hn (by omega) (by omega) ha (((hM.kept (World.grownBy_alloc _ _ none) (by simp)).kept (World.grownBy_alloc _ _ none) (by simp)).kept (World.grownBy_alloc _ _ none) (by simp))).mono ?_
  rintro e w1 ⟨rfl, hM1, hG1⟩
  have hlt := hM.lt
  have hG : w.grownBy w1 (some m) := (((World.grownBy_alloc _ _ _).trans (World.grownBy_alloc _ _ _)).trans (World.grownBy_alloc _ _ _)).trans hG1
  have d1 : w1.cell? ⟨w.heap.size + 1 + 1, 0, none⟩ = some (.int .i64 0) := hG1.cell (by go_simp) (by simp; omega)
  have d2 : w1.cell? ⟨w.heap.size + 1 + 1, 1, none⟩ = some (.int .i64 0) := hG1.cell (by go_simp) (by simp; omega)
  have d3 : w1.frozen? ⟨w.heap.size + 1 + 1, 0, none⟩ = false := (World.frozen?_of_block (hG1.block (w.heap.size + 1 + 1) (by simp) (by simp; omega))).trans (by go_simp)
  have d4 : w1.frozen? ⟨w.heap.size + 1 + 1, 1, none⟩ = false := (World.frozen?_of_block (hG1.block (w.heap.size + 1 + 1) (by simp) (by simp; omega))).trans (by go_simp)
  clear hG1
  go_wp2_with fail
  refine bodyPost_ret (v := .agg #[.int .i64 (fnd N b o 0 a), .int .i64 (cnt N o)]) (by simp [results, Try.results65, go_sem, d1, d2]) rfl ⟨rfl, ?_, ?_⟩
  · exact (hM1.setCell (by simp; omega) _).setCell (by simp; omega) _
  · exact grown_setCell (grown_setCell hG (by simp; omega) _) (by simp; omega) _

end Go.Proofs.Ythpllmefbhjmmaa
