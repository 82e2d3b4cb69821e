/-
  'Keeps'.
-/
import Derived.Test.YthpllmefbhjmmaaOdds
namespace Go.Proofs.Ythpllmefbhjmmaa
open Go.RowKit Go.Maps Plain

theorem below_more {a b : World} (h : Below a.heap.size a b) (o : Obj) : Below a.heap.size a (b.alloc o) := h.alloc h.size _

/-- What 'Keeps' answers. -/
def keepsR (N : Int) (r : Rl) (o a : Int) : Bool × Int :=
  if inB N 1 40 = true then
    if ruleB N r = true then
      if (inB o 0 N && inB a 0 o) = true then (keepsB N r o a, 0) else (false, 72)
    else (false, 71)
  else (false, 7)

abbrev keepsV (x : Bool × Int) : Value := .tuple #[.bool x.1, .int .i64 x.2]

/-- A block of six cells reads as a rule. -/
def RuleAt (w : World) (b : Nat) (r : Rl) : Prop :=
  w.cell? ⟨b, 0, none⟩ = some (.int .i64 r.g) ∧ w.cell? ⟨b, 1, none⟩ = some (.int .i64 r.po) ∧ w.cell? ⟨b, 2, none⟩ = some (.int .i64 r.pi) ∧
    w.cell? ⟨b, 3, none⟩ = some (.int .i64 r.b) ∧ w.cell? ⟨b, 4, none⟩ = some (.int .i64 r.fo) ∧ w.cell? ⟨b, 5, none⟩ = some (.int .i64 r.fi)

theorem RuleAt.below {w w' : World} {b B : Nat} {r : Rl} (h : RuleAt w b r) (hB : Below B w w') (hb : b < B) : RuleAt w' b r := by
  have k : ∀ i, w'.cell? ⟨b, i, none⟩ = w.cell? ⟨b, i, none⟩ := fun i => hB.cell hb
  obtain ⟨h0, h1, h2, h3, h4, h5⟩ := h
  exact ⟨(k 0).trans h0, (k 1).trans h1, (k 2).trans h2, (k 3).trans h3, (k 4).trans h4, (k 5).trans h5⟩

/-- A block of two cells. -/
def TwoAt (w : World) (b : Nat) (x y : Value) : Prop := w.cell? ⟨b, 0, none⟩ = some x ∧ w.cell? ⟨b, 1, none⟩ = some y

theorem TwoAt.below {w w' : World} {b B : Nat} {x y : Value} (h : TwoAt w b x y) (hB : Below B w w') (hb : b < B) : TwoAt w' b x y :=
  ⟨(hB.cell hb).trans h.1, (hB.cell hb).trans h.2⟩

set_option maxRecDepth 100000 in
set_option maxHeartbeats 800000 in
theorem keepsR_range (N : Int) (r : Rl) (o a : Int) (w : World) (h : inB N 1 40 = false) :
    Calls Try.prog 24 #[.int .i64 N, rlV r, planV o a] w fun e w' => e = .returned (keepsV (false, 7)) ∧ Below w.heap.size w w' := by
  obtain ⟨g, po, pi, b, fo, fi⟩ := r
  have H := Lib.hid h
  clear h
  have hB := (below_alloc (w := w) (.cells #[.int .i64 g, .int .i64 po, .int .i64 pi, .int .i64 b, .int .i64 fo, .int .i64 fi] 39)).alloc (by simp) (.cells #[.int .i64 o, .int .i64 a] 32)
  go_enter Try.func24, Try.ntmps24
  go_wp2_with fail
  refine (ruled_range N ⟨g, po, pi, b, fo, fi⟩ _ H.out).mono ?_
  rintro e w1 ⟨rfl, hB1⟩
  have hB2 := below_more (below_trans hB hB1) (.cells #[.int .i64 0, .map none] 103)
  clear hB hB1
  go_wp2_with fail
  go_ret2
  exact ⟨rfl, hB2⟩

set_option maxRecDepth 100000 in
set_option maxHeartbeats 1600000 in
theorem keepsR_in (N : Int) (r : Rl) (o a : Int) (w : World) (h : inB N 1 40 = true) {q q' : Bool} (h2 : ruleB N r = q) (h3 : (inB o 0 N && inB a 0 o) = q') :
    Calls Try.prog 24 #[.int .i64 N, rlV r, planV o a] w fun e w' => e = .returned (keepsV (if q = true then if q' = true then (keepsB N r o a, 0) else (false, 72) else (false, 71))) ∧ Below w.heap.size w w' := by
  obtain ⟨g1, g2⟩ := inB_true h
  have H := Lib.hid h
  have H2 := Lib.hid h2
  have H3 := Lib.hid h3
  clear h h2 h3
  obtain ⟨g, po, pi, b, fo, fi⟩ := r
  have hB := (below_alloc (w := w) (.cells #[.int .i64 g, .int .i64 po, .int .i64 pi, .int .i64 b, .int .i64 fo, .int .i64 fi] 39)).alloc (by simp) (.cells #[.int .i64 o, .int .i64 a] 32)
  go_enter Try.func24, Try.ntmps24
  go_wp2_with fail
  refine (ruled_in N ⟨g, po, pi, b, fo, fi⟩ _ H.out).mono ?_
  rw [H2.out]
  rintro e w1 ⟨rfl, hM1, hB1⟩
  have R0 : RuleAt w1 w.heap.size ⟨g, po, pi, b, fo, fi⟩ := RuleAt.below (by unfold RuleAt; go_simp) hB1 (by simp <;> omega)
  have P0 : TwoAt w1 (w.heap.size + 1) (.int .i64 o) (.int .i64 a) := TwoAt.below (by unfold TwoAt; go_simp) hB1 (by simp)
  have hz := hB1.size
  simp only [World.size_alloc] at hz hM1
  have hB2 := below_more (below_trans hB hB1) (.cells #[.int .i64 N, .map (some (w.heap.size + 1 + 1 + 1 + 1 + 1))] 103)
  have hM2 := hM1.kept (World.grownBy_alloc _ (.cells #[.int .i64 N, .map (some (w.heap.size + 1 + 1 + 1 + 1 + 1))] 103) none) (by simp)
  have hm1 := hM1.lt
  clear hB hB1
  cases q with
  | false =>
    go_wp2_with fail
    go_ret2
    exact ⟨rfl, hB2⟩
  | true =>
    have z0 : w.heap.size < w1.heap.size := by omega
    have z1 : w.heap.size + 1 < w1.heap.size := by omega
    obtain ⟨r0, r1, r2, r3, r4, r5⟩ := R0
    obtain ⟨p0, p1⟩ := P0
    go_wp2_with fail
    refine (isPlan_is N o a _ _ H3.out).mono ?_
    rintro e w2 ⟨rfl, hB3⟩
    have hB4 := below_trans hB2 hB3
    have hM3 := hM2.kept (grown_of_below hB3 none) (by simp)
    have R0 : RuleAt w2 w.heap.size ⟨g, po, pi, b, fo, fi⟩ := RuleAt.below (by unfold RuleAt; go_simp) hB3 (by simp <;> omega)
    have P0 : TwoAt w2 (w.heap.size + 1) (.int .i64 o) (.int .i64 a) := TwoAt.below (by unfold TwoAt; go_simp) hB3 (by simp; omega)
    have L0 : TwoAt w2 w1.heap.size (.int .i64 N) (.map (some (w.heap.size + 1 + 1 + 1 + 1 + 1))) := TwoAt.below (by unfold TwoAt; go_simp) hB3 (by simp)
    clear r0 r1 r2 r3 r4 r5 p0 p1 hB2
    cases q' with
    | false =>
      go_wp2_with fail
      go_ret2
      exact ⟨rfl, hB4⟩
    | true =>
      have h3 := H3.out
      simp only [Bool.and_eq_true] at h3
      obtain ⟨g5, g6⟩ := inB_true h3.1
      obtain ⟨g7, g8⟩ := inB_true h3.2
      clear h3
      obtain ⟨r0, r1, r2, r3, r4, r5⟩ := R0
      obtain ⟨p0, p1⟩ := P0
      obtain ⟨l0, l1⟩ := L0
      go_wp2_with fail
      refine (keeps_any N _ ⟨g, po, pi, b, fo, fi⟩ o a _ (by omega) g2 g6 g7 g8 H2.out hM3).mono ?_
      rintro e w3 ⟨rfl, hM4, hG4⟩
      have hB5 := hB4.trans (below_of_grown (B := w.heap.size) hG4 hB4.size (by omega))
      clear hG4
      go_wp2_with fail
      go_ret2
      exact ⟨rfl, hB5⟩

/-- 'Keeps', at whatever numbers. -/
theorem keepsR_any (N : Int) (r : Rl) (o a : Int) (w : World) :
    Calls Try.prog 24 #[.int .i64 N, rlV r, planV o a] w fun e w' => e = .returned (keepsV (keepsR N r o a)) ∧ Below w.heap.size w w' := by
  unfold keepsR
  cases h : inB N 1 40 with
  | true => rw [if_pos rfl]; exact keepsR_in N r o a w h rfl rfl
  | false => rw [if_neg (by simp)]; exact keepsR_range N r o a w h

end Go.Proofs.Ythpllmefbhjmmaa
