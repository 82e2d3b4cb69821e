/-
  Rules: whether one is valid; a lot and a rule, checked.
-/
import Derived.Test.YthpllmefbhjmmaaReduced
namespace Go.Proofs.Ythpllmefbhjmmaa
open Go.RowKit Go.Maps Plain

/-- A rule's six numbers. -/
structure Rl where
  g : Int
  po : Int
  pi : Int
  b : Int
  fo : Int
  fi : Int

abbrev rlV (r : Rl) : Value := .agg #[.int .i64 r.g, .int .i64 r.po, .int .i64 r.pi, .int .i64 r.b, .int .i64 r.fo, .int .i64 r.fi]

def oddsB (o i : Int) : Bool := inB i 1 1000 && inB o 0 i
def ruleB (N : Int) (r : Rl) : Bool := decide (0 ≤ r.g) && decide (r.g < r.b) && decide (r.b ≤ N) && oddsB r.po r.pi && oddsB r.fo r.fi

theorem oddsB_true {o i : Int} (h : oddsB o i = true) : 1 ≤ i ∧ i ≤ 1000 ∧ 0 ≤ o ∧ o ≤ i := by
  simp only [oddsB, Bool.and_eq_true] at h
  have h1 := inB_true h.1
  have h2 := inB_true h.2
  omega
theorem ruleB_true {N : Int} {r : Rl} (h : ruleB N r = true) : 0 ≤ r.g ∧ r.g < r.b ∧ r.b ≤ N ∧ oddsB r.po r.pi = true ∧ oddsB r.fo r.fi = true := by
  simp only [ruleB, Bool.and_eq_true, decide_eq_true_eq] at h
  exact ⟨h.1.1.1.1, h.1.1.1.2, h.1.1.2, h.1.2, h.2⟩

theorem below_trans {a b c : World} (h : Below a.heap.size a b) (k : Below b.heap.size b c) : Below a.heap.size a c := h.trans (k.mono h.size)

theorem areOdds_is {r : Bool} (o i : Int) (w : World) (h : oddsB o i = r) :
    Calls Try.prog 75 #[.agg #[.int .i64 o, .int .i64 i]] w fun e w' => e = .returned (.bool r) ∧ Below w.heap.size w w' := by
  rw [← h]; exact areOdds_any o i w

theorem isPlan_is {r : Bool} (N o a : Int) (m : Nat) (w : World) (h : (inB o 0 N && inB a 0 o) = r) :
    Calls Try.prog 64 #[lotV N m, .agg #[.int .i64 o, .int .i64 a]] w fun e w' => e = .returned (.bool r) ∧ Below w.heap.size w w' := by
  rw [← h]; exact isPlan_any N o a m w

set_option maxRecDepth 100000 in
set_option maxHeartbeats 800000 in
theorem isRule_any (N : Int) (m : Nat) (r : Rl) (w : World) :
    Calls Try.prog 97 #[lotV N m, rlV r] w fun e w' => e = .returned (.bool (ruleB N r)) ∧ Below w.heap.size w w' := by
  obtain ⟨g, po, pi, b, fo, fi⟩ := r
  have hB := (below_alloc (w := w) (.cells #[.int .i64 N, .map (some m)] 103)).alloc (by simp) (.cells #[.int .i64 g, .int .i64 po, .int .i64 pi, .int .i64 b, .int .i64 fo, .int .i64 fi] 39)
  by_cases h1 : 0 ≤ g
  case neg =>
    have d1 : decide (0 ≤ g) = false := by simpa using h1
    have He : Hid (ruleB N ⟨g, po, pi, b, fo, fi⟩ = false) := by show ruleB _ _ = false; simp [ruleB, d1]
    go_enter Try.func97, Try.ntmps97
    go_wp2
    go_ret
    exact ⟨by rw [He.out]; rfl, hB⟩
  have d1 : decide (0 ≤ g) = true := by simpa using h1
  by_cases h2 : g < b
  case neg =>
    have d2 : decide (g < b) = false := by simpa using h2
    have He : Hid (ruleB N ⟨g, po, pi, b, fo, fi⟩ = false) := by show ruleB _ _ = false; simp [ruleB, d2]
    go_enter Try.func97, Try.ntmps97
    go_wp2
    go_ret
    exact ⟨by rw [He.out]; rfl, hB⟩
  have d2 : decide (g < b) = true := by simpa using h2
  by_cases h3 : b ≤ N
  case neg =>
    have d3 : decide (b ≤ N) = false := by simpa using h3
    have He : Hid (ruleB N ⟨g, po, pi, b, fo, fi⟩ = false) := by show ruleB _ _ = false; simp [ruleB, d3]
    go_enter Try.func97, Try.ntmps97
    go_wp2
    go_ret
    exact ⟨by rw [He.out]; rfl, hB⟩
  have d3 : decide (b ≤ N) = true := by simpa using h3
  cases h4 : oddsB po pi with
  | false =>
    have He : Hid (ruleB N ⟨g, po, pi, b, fo, fi⟩ = false) := by show ruleB _ _ = false; simp [ruleB, h4]
    have H4 := Lib.hid h4
    clear h4
    go_enter Try.func97, Try.ntmps97
    go_wp2_with fail
    refine (areOdds_is _ _ _ H4.out).mono ?_
    rintro e w1 ⟨rfl, hB1⟩
    have hB2 := below_trans hB hB1
    clear hB1 hB
    go_wp2
    go_ret
    exact ⟨by rw [He.out]; rfl, hB2⟩
  | true =>
    obtain ⟨q, h5⟩ : ∃ q, oddsB fo fi = q := ⟨_, rfl⟩
    have He : Hid (ruleB N ⟨g, po, pi, b, fo, fi⟩ = q) := by show ruleB _ _ = q; simp [ruleB, h4, h5, d1, d2, d3]
    have H4 := Lib.hid h4
    have H5 := Lib.hid h5
    clear h4 h5
    go_enter Try.func97, Try.ntmps97
    go_wp2_with fail
    refine (areOdds_is _ _ _ H4.out).mono ?_
    rintro e w1 ⟨rfl, hB1⟩
    have hB2 := below_trans hB hB1
    have c1 : w1.cell? ⟨w.heap.size + 1, 4, none⟩ = some (.int .i64 fo) := (hB1.cell (by simp)).trans (by go_simp)
    have c2 : w1.cell? ⟨w.heap.size + 1, 5, none⟩ = some (.int .i64 fi) := (hB1.cell (by simp)).trans (by go_simp)
    have hsz := hB1.size
    simp only [World.size_alloc] at hsz
    clear hB1 hB
    go_wp2_with fail
    refine (areOdds_is _ _ _ H5.out).mono ?_
    rintro e w2 ⟨rfl, hB1⟩
    have hB3 := below_trans hB2 hB1
    clear hB1 hB2
    go_wp2
    go_ret
    exact ⟨by rw [He.out]; rfl, hB3⟩

theorem isRule_is {q : Bool} (N : Int) (m : Nat) (r : Rl) (w : World) (h : ruleB N r = q) :
    Calls Try.prog 97 #[lotV N m, rlV r] w fun e w' => e = .returned (.bool q) ∧ Below w.heap.size w w' := by
  rw [← h]; exact isRule_any N m r w

set_option maxRecDepth 100000 in
set_option maxHeartbeats 800000 in
/-- 'ruled': a number of barrels that is out of its range. -/
theorem ruled_range (N : Int) (r : Rl) (w : World) (h : inB N 1 40 = false) :
    Calls Try.prog 70 #[.int .i64 N, rlV r] w fun e w' => e = .returned (.tuple #[.agg #[.int .i64 0, .map none], .int .i64 7]) ∧ Below w.heap.size w w' := by
  obtain ⟨g, po, pi, b, fo, fi⟩ := r
  have H := Lib.hid h
  clear h
  have hB := (below_alloc (w := w) (.cells #[.int .i64 g, .int .i64 po, .int .i64 pi, .int .i64 b, .int .i64 fo, .int .i64 fi] 39)).alloc (by simp) (.cells #[.int .i64 0, .map none] 103)
  go_enter Try.func70, Try.ntmps70
  go_wp2_with fail
  refine (within_is _ _ _ _ H.out).mono ?_
  rintro e w1 ⟨rfl, rfl⟩
  go_wp2_with fail
  refine bodyPost_ret (v := .tuple #[.agg #[.int .i64 0, .map none], .int .i64 7]) (by simp [results, Try.results70, go_sem]) rfl ⟨rfl, hB⟩

set_option maxRecDepth 100000 in
set_option maxHeartbeats 800000 in
/-- 'ruled': a number of barrels within its range. -/
theorem ruled_in (N : Int) (r : Rl) (w : World) (h : inB N 1 40 = true) :
    Calls Try.prog 70 #[.int .i64 N, rlV r] w fun e w' => e = .returned (.tuple #[lotV N (w.heap.size + 1 + 1 + 1), .int .i64 (if ruleB N r = true then 0 else 71)]) ∧ Memo w' (w.heap.size + 1 + 1 + 1) ∧ Below w.heap.size w w' := by
  obtain ⟨q, h2⟩ : ∃ q, ruleB N r = q := ⟨_, rfl⟩
  rw [h2]
  have H := Lib.hid h
  have H2 := Lib.hid h2
  clear h h2
  obtain ⟨g, po, pi, b, fo, fi⟩ := r
  go_enter Try.func70, Try.ntmps70
  go_wp2_with fail
  refine (within_is _ _ _ _ H.out).mono ?_
  rintro e w1 ⟨rfl, rfl⟩
  go_wp2_with fail
  refine (lotOf_any _ _).mono ?_
  rintro e w1 ⟨rfl, hM1, hB1⟩
  have hB := below_trans ((below_alloc (w := w) (.cells #[.int .i64 g, .int .i64 po, .int .i64 pi, .int .i64 b, .int .i64 fo, .int .i64 fi] 39)).alloc (by simp) (.cells #[.int .i64 0, .map none] 103)) hB1
  have r0 : w1.cell? ⟨w.heap.size, 0, none⟩ = some (.int .i64 g) := (hB1.cell (by simp <;> omega)).trans (by go_simp)
  have r1 : w1.cell? ⟨w.heap.size, 1, none⟩ = some (.int .i64 po) := (hB1.cell (by simp <;> omega)).trans (by go_simp)
  have r2 : w1.cell? ⟨w.heap.size, 2, none⟩ = some (.int .i64 pi) := (hB1.cell (by simp <;> omega)).trans (by go_simp)
  have r3 : w1.cell? ⟨w.heap.size, 3, none⟩ = some (.int .i64 b) := (hB1.cell (by simp <;> omega)).trans (by go_simp)
  have r4 : w1.cell? ⟨w.heap.size, 4, none⟩ = some (.int .i64 fo) := (hB1.cell (by simp <;> omega)).trans (by go_simp)
  have r5 : w1.cell? ⟨w.heap.size, 5, none⟩ = some (.int .i64 fi) := (hB1.cell (by simp <;> omega)).trans (by go_simp)
  have s0 : w1.cell? ⟨w.heap.size + 1, 0, none⟩ = some (.int .i64 0) := (hB1.cell (by simp)).trans (by go_simp)
  have s1 : w1.cell? ⟨w.heap.size + 1, 1, none⟩ = some (.map none) := (hB1.cell (by simp)).trans (by go_simp)
  have s2 : w1.frozen? ⟨w.heap.size + 1, 0, none⟩ = false := (hB1.frozen (by simp)).trans (by go_simp)
  have s3 : w1.frozen? ⟨w.heap.size + 1, 1, none⟩ = false := (hB1.frozen (by simp)).trans (by go_simp)
  have hsz := hB1.size
  simp only [World.size_alloc] at hsz hM1
  have hs0 : w.heap.size < w1.heap.size := by omega
  have hs1 : w.heap.size + 1 < w1.heap.size := by omega
  have hmlt := hM1.lt
  clear hB1
  go_wp2_with fail
  refine (isRule_is N _ ⟨g, po, pi, b, fo, fi⟩ _ H2.out).mono ?_
  rintro e w2 ⟨rfl, hB2⟩
  have hM2 : Memo w2 (w.heap.size + 1 + 1 + 1) := (hM1.kept (World.grownBy_alloc _ (.cells #[.int .i64 N, .map (some (w.heap.size + 1 + 1 + 1))] 103) none) (by simp)).kept (grown_of_below hB2 none) (by simp)
  have hB3 := below_trans (hB.alloc (by omega) (.cells #[.int .i64 N, .map (some (w.heap.size + 1 + 1 + 1))] 103)) hB2
  have t0 : w2.cell? ⟨w1.heap.size, 0, none⟩ = some (.int .i64 N) := (hB2.cell (by simp)).trans (by go_simp)
  have t1 : w2.cell? ⟨w1.heap.size, 1, none⟩ = some (.map (some (w.heap.size + 1 + 1 + 1))) := (hB2.cell (by simp)).trans (by go_simp)
  have u0 : w2.cell? ⟨w.heap.size + 1, 0, none⟩ = some (.int .i64 0) := (hB2.cell (by simp; omega)).trans (by go_simp)
  have u1 : w2.cell? ⟨w.heap.size + 1, 1, none⟩ = some (.map none) := (hB2.cell (by simp; omega)).trans (by go_simp)
  have u2 : w2.frozen? ⟨w.heap.size + 1, 0, none⟩ = false := (hB2.frozen (by simp; omega)).trans (by go_simp)
  have u3 : w2.frozen? ⟨w.heap.size + 1, 1, none⟩ = false := (hB2.frozen (by simp; omega)).trans (by go_simp)
  clear hB2 hB r0 r1 r2 r3 r4 r5 s0 s1 s2 s3
  have hfin : ∀ (x y : Value), Memo ((w2.setCell ⟨w.heap.size + 1, 0, none⟩ x).setCell ⟨w.heap.size + 1, 1, none⟩ y) (w.heap.size + 1 + 1 + 1) ∧ Below w.heap.size w ((w2.setCell ⟨w.heap.size + 1, 0, none⟩ x).setCell ⟨w.heap.size + 1, 1, none⟩ y) := fun x y =>
    ⟨(hM2.setCell (by simp; omega) _).setCell (by simp; omega) _, (hB3.setCell (p := ⟨w.heap.size + 1, 0, none⟩) (by simp) _).setCell (p := ⟨w.heap.size + 1, 1, none⟩) (by simp) _⟩
  have Hfin := Lib.hid hfin
  clear hfin
  cases q with
  | true =>
    go_wp2_with fail
    exact bodyPost_ret (v := .tuple #[lotV N (w.heap.size + 1 + 1 + 1), .int .i64 0]) (by simp [results, Try.results70, go_sem, u0, u1]) rfl ⟨rfl, Hfin.out _ _⟩
  | false =>
    go_wp2_with fail
    exact bodyPost_ret (v := .tuple #[lotV N (w.heap.size + 1 + 1 + 1), .int .i64 71]) (by simp [results, Try.results70, go_sem, u0, u1]) rfl ⟨rfl, Hfin.out _ _⟩

end Go.Proofs.Ythpllmefbhjmmaa
