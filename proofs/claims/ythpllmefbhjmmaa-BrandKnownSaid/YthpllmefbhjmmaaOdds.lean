/-
  'Odds' and 'Keeps'.
-/
import Derived.Test.YthpllmefbhjmmaaKeeps
namespace Go.Proofs.Ythpllmefbhjmmaa
open Go.RowKit Go.Maps Plain

/-- What 'Odds' answers: the odds, and the error. -/
def oddsR (N b o a : Int) : Int × Int × Int :=
  if inB N 1 40 = true ∧ inB b 0 N = true then
    if (inB o 0 N && inB a 0 o) = true then (fnd N b o 0 a / gcdI (fnd N b o 0 a) (cnt N o), cnt N o / gcdI (fnd N b o 0 a) (cnt N o), 0) else (0, 0, 72)
  else (0, 0, 7)

abbrev oddsV (x : Int × Int × Int) : Value := .tuple #[.agg #[.int .i64 x.1, .int .i64 x.2.1], .int .i64 x.2.2]

theorem below_of_grown {B : Nat} {a w : World} {m : Nat} (h : a.grownBy w (some m)) (hB : B ≤ a.heap.size) (hm : B ≤ m) : Below B a w :=
  (Below.refl B a).grown h hB (fun k e => by cases e; exact hm)

set_option maxRecDepth 100000 in
set_option maxHeartbeats 800000 in
theorem odds_range (N b o a : Int) (w : World) (h : ¬ (inB N 1 40 = true ∧ inB b 0 N = true)) :
    Calls Try.prog 22 #[.int .i64 N, .int .i64 b, planV o a] w fun e w' => e = .returned (oddsV (0, 0, 7)) ∧ Below w.heap.size w w' := by
  have hB := (below_alloc (w := w) (.cells #[.int .i64 o, .int .i64 a] 32)).alloc (by simp) (.cells #[.int .i64 0, .int .i64 0] 34)
  cases h1 : inB N 1 40 with
  | false =>
    have H1 := Lib.hid h1
    clear h1 h
    go_enter Try.func22, Try.ntmps22
    go_wp2_with fail
    refine (within_is _ _ _ _ H1.out).mono ?_
    rintro e w1 ⟨rfl, rfl⟩
    go_wp2_with fail
    exact bodyPost_ret (v := oddsV (0, 0, 7)) (by simp [results, Try.results22, go_sem]) rfl ⟨rfl, hB⟩
  | true =>
    have h2 : inB b 0 N = false := by
      cases hb : inB b 0 N
      · rfl
      · exact absurd ⟨h1, hb⟩ h
    have H1 := Lib.hid h1
    have H2 := Lib.hid h2
    clear h1 h h2
    go_enter Try.func22, Try.ntmps22
    go_wp2_with fail
    refine (within_is _ _ _ _ H1.out).mono ?_
    rintro e w1 ⟨rfl, rfl⟩
    go_wp2_with fail
    refine (within_is _ _ _ _ H2.out).mono ?_
    rintro e w1 ⟨rfl, rfl⟩
    go_wp2_with fail
    exact bodyPost_ret (v := oddsV (0, 0, 7)) (by simp [results, Try.results22, go_sem]) rfl ⟨rfl, hB⟩

set_option maxRecDepth 100000 in
set_option maxHeartbeats 1600000 in
theorem odds_in (N b o a : Int) (w : World) (h1 : inB N 1 40 = true) (h2 : inB b 0 N = true) {q : Bool} (h3 : (inB o 0 N && inB a 0 o) = q) :
    Calls Try.prog 22 #[.int .i64 N, .int .i64 b, planV o a] w fun e w' =>
      e = .returned (oddsV (if q = true then (fnd N b o 0 a / gcdI (fnd N b o 0 a) (cnt N o), cnt N o / gcdI (fnd N b o 0 a) (cnt N o), 0) else (0, 0, 72))) ∧ Below w.heap.size w w' := by
  have H1 := Lib.hid h1
  have H2 := Lib.hid h2
  have H3 := Lib.hid h3
  obtain ⟨g1, g2⟩ := inB_true h1
  obtain ⟨g3, g4⟩ := inB_true h2
  clear h1 h2 h3
  go_enter Try.func22, Try.ntmps22
  go_wp2_with fail
  refine (within_is _ _ _ _ H1.out).mono ?_
  rintro e w1 ⟨rfl, rfl⟩
  go_wp2_with fail
  refine (within_is _ _ _ _ H2.out).mono ?_
  rintro e w1 ⟨rfl, rfl⟩
  go_wp2_with fail
  refine (lotOf_any _ _).mono ?_
  rintro e w1 ⟨rfl, hM1, hB1⟩
  have hB := below_trans ((below_alloc (w := w) (.cells #[.int .i64 o, .int .i64 a] 32)).alloc (by simp) (.cells #[.int .i64 0, .int .i64 0] 34)) hB1
  have p0 : w1.cell? ⟨w.heap.size, 0, none⟩ = some (.int .i64 o) := (hB1.cell (by simp <;> omega)).trans (by go_simp)
  have p1 : w1.cell? ⟨w.heap.size, 1, none⟩ = some (.int .i64 a) := (hB1.cell (by simp <;> omega)).trans (by go_simp)
  have s0 : w1.cell? ⟨w.heap.size + 1, 0, none⟩ = some (.int .i64 0) := (hB1.cell (by simp)).trans (by go_simp)
  have s1 : w1.cell? ⟨w.heap.size + 1, 1, none⟩ = some (.int .i64 0) := (hB1.cell (by simp)).trans (by go_simp)
  have s2 : w1.frozen? ⟨w.heap.size + 1, 0, none⟩ = false := (hB1.frozen (by simp)).trans (by go_simp)
  have s3 : w1.frozen? ⟨w.heap.size + 1, 1, none⟩ = false := (hB1.frozen (by simp)).trans (by go_simp)
  have hsz := hB1.size
  simp only [World.size_alloc] at hsz hM1
  have hmlt := hM1.lt
  have z0 : w.heap.size < w1.heap.size := by omega
  have z1 : w.heap.size + 1 < w1.heap.size := by omega
  have hM1' := hM1.kept (World.grownBy_alloc _ (.cells #[.int .i64 N, .map (some (w.heap.size + 1 + 1 + 1))] 103) none) (by simp)
  have hB' := hB.alloc (by omega) (.cells #[.int .i64 N, .map (some (w.heap.size + 1 + 1 + 1))] 103)
  clear hB1 hB hM1
  go_wp2_with fail
  refine (isPlan_is N o a _ _ H3.out).mono ?_
  rintro e w2 ⟨rfl, hB2⟩
  have hM2 := hM1'.kept (grown_of_below hB2 none) (by simp)
  have hB3 := below_trans hB' hB2
  have hm2 := hM2.lt
  have t0 : w2.cell? ⟨w1.heap.size, 0, none⟩ = some (.int .i64 N) := (hB2.cell (by simp)).trans (by go_simp)
  have t1 : w2.cell? ⟨w1.heap.size, 1, none⟩ = some (.map (some (w.heap.size + 1 + 1 + 1))) := (hB2.cell (by simp)).trans (by go_simp)
  have u0 : w2.cell? ⟨w.heap.size + 1, 0, none⟩ = some (.int .i64 0) := (hB2.cell (by simp; omega)).trans (by go_simp)
  have u1 : w2.cell? ⟨w.heap.size + 1, 1, none⟩ = some (.int .i64 0) := (hB2.cell (by simp; omega)).trans (by go_simp)
  have u2 : w2.frozen? ⟨w.heap.size + 1, 0, none⟩ = false := (hB2.frozen (by simp; omega)).trans (by go_simp)
  have u3 : w2.frozen? ⟨w.heap.size + 1, 1, none⟩ = false := (hB2.frozen (by simp; omega)).trans (by go_simp)
  have v0 : w2.cell? ⟨w.heap.size, 0, none⟩ = some (.int .i64 o) := (hB2.cell (by simp; omega)).trans (by go_simp)
  have v1 : w2.cell? ⟨w.heap.size, 1, none⟩ = some (.int .i64 a) := (hB2.cell (by simp; omega)).trans (by go_simp)
  clear hB2 hM1' hB'
  cases q with
  | false =>
    go_wp2_with fail
    exact bodyPost_ret (v := oddsV (0, 0, 72)) (by simp [results, Try.results22, go_sem, u0, u1]) rfl ⟨rfl, (hB3.setCell (p := ⟨w.heap.size + 1, 0, none⟩) (by simp) _).setCell (p := ⟨w.heap.size + 1, 1, none⟩) (by simp) _⟩
  | true =>
    have h3 := H3.out
    simp only [Bool.and_eq_true] at h3
    obtain ⟨g5, g6⟩ := inB_true h3.1
    obtain ⟨g7, g8⟩ := inB_true h3.2
    clear h3
    go_wp2_with fail
    refine (passes_any N b o a _ _ g2 g3 g4 g6 g7 g8 hM2).mono ?_
    rintro e w3 ⟨rfl, hM3, hG3⟩
    have hB4 := hB3.trans (below_of_grown (B := w.heap.size) hG3 hB3.size (by omega))
    have hne : ∀ k, k < w.heap.size + 1 + 1 + 1 → w3.heap[k]? = w2.heap[k]? := fun k hk => hG3.block k (by omega) (by simp; omega)
    have x0 : w3.cell? ⟨w.heap.size + 1, 0, none⟩ = some (.int .i64 0) := (World.cell?_of_block (hne _ (by simp))).trans u0
    have x1 : w3.cell? ⟨w.heap.size + 1, 1, none⟩ = some (.int .i64 0) := (World.cell?_of_block (hne _ (by simp))).trans u1
    have x2 : w3.frozen? ⟨w.heap.size + 1, 0, none⟩ = false := (World.frozen?_of_block (hne _ (by simp))).trans u2
    have x3 : w3.frozen? ⟨w.heap.size + 1, 1, none⟩ = false := (World.frozen?_of_block (hne _ (by simp))).trans u3
    have z2 := hG3.size
    have z3 := hB3.size
    have hF0 := fnd_nonneg N b o 0 a
    have hF1 := fnd_le N b o 0 a g3 g4 g2 (by omega) (by omega)
    have hC0 := cnt_pos N o g5 g6
    have hC1 := cnt_le N o g2
    clear hG3 hne
    go_wp2_with fail
    refine (reduced_any _ _ _ hF0 hF1 hC0 hC1).mono ?_
    rintro e w4 ⟨rfl, hB5⟩
    have hB6 := below_trans hB4 hB5
    have y0 : w4.cell? ⟨w.heap.size + 1, 0, none⟩ = some (.int .i64 0) := (hB5.cell (by simp; omega)).trans x0
    have y1 : w4.cell? ⟨w.heap.size + 1, 1, none⟩ = some (.int .i64 0) := (hB5.cell (by simp; omega)).trans x1
    have y2 : w4.frozen? ⟨w.heap.size + 1, 0, none⟩ = false := (hB5.frozen (by simp; omega)).trans x2
    have y3 : w4.frozen? ⟨w.heap.size + 1, 1, none⟩ = false := (hB5.frozen (by simp; omega)).trans x3
    clear hB5 hB4
    go_wp2_with fail
    refine bodyPost_ret (v := oddsV (fnd N b o 0 a / gcdI (fnd N b o 0 a) (cnt N o), cnt N o / gcdI (fnd N b o 0 a) (cnt N o), 0)) (by simp [results, Try.results22, go_sem, y0, y1]) rfl ⟨rfl, ?_⟩
    exact (hB6.setCell (p := ⟨w.heap.size + 1, 0, none⟩) (by simp) _).setCell (p := ⟨w.heap.size + 1, 1, none⟩) (by simp) _

/-- 'Odds', at whatever numbers. -/
theorem odds_any (N b o a : Int) (w : World) :
    Calls Try.prog 22 #[.int .i64 N, .int .i64 b, planV o a] w fun e w' => e = .returned (oddsV (oddsR N b o a)) ∧ Below w.heap.size w w' := by
  unfold oddsR
  by_cases h : inB N 1 40 = true ∧ inB b 0 N = true
  · rw [if_pos h]; exact odds_in N b o a w h.1 h.2 rfl
  · rw [if_neg h]; exact odds_range N b o a w h

end Go.Proofs.Ythpllmefbhjmmaa
