/-
  The reference: spans, brands, barrels, 'Grade'.
-/
import Derived.Test.YthpllmefbhjmmaaGrade
import Derived.Deep.RegionHeld3
namespace Go.Proofs.Ythpllmefbhjmmaa
open Go.RowKit Go.Maps Plain

set_option maxHeartbeats 400000 in
theorem in_any (n lo hi : Int) (w : World) :
    Calls Try.prog 34 #[.int .i64 n, .int .i64 lo, .int .i64 hi] w fun e w' => e = .returned (.bool (inB n lo hi)) ∧ w = w' := by
  by_cases h1 : lo ≤ n
  · have hd : decide (lo ≤ n) = true := by simpa using h1
    go_enter Try.func34, Try.ntmps34
    go_wp2
    go_ret
    exact ⟨by simp [inB, h1], rfl⟩
  · have hd : decide (lo ≤ n) = false := by simpa using h1
    go_enter Try.func34, Try.ntmps34
    go_wp2
    go_ret
    exact ⟨by rw [inB_no (by omega)]; rfl, rfl⟩

theorem in_is {r : Bool} (n lo hi : Int) (w : World) (h : inB n lo hi = r) :
    Calls Try.prog 34 #[.int .i64 n, .int .i64 lo, .int .i64 hi] w fun e w' => e = .returned (.bool r) ∧ w = w' := by
  rw [← h]; exact in_any n lo hi w

abbrev spV (s : Sp) : Value := .agg #[.int .i64 s.lo, .int .i64 s.hi]

set_option maxHeartbeats 400000 in
theorem holds_is {q : Bool} (s : Sp) (n : Int) (w : World) (h : inB n s.lo s.hi = q) :
    Calls Try.prog 35 #[spV s, .int .i64 n] w fun e w' => e = .returned (.bool q) ∧ Below w.heap.size w w' := by
  obtain ⟨lo, hi⟩ := s
  have H := Lib.hid h
  clear h
  have hB := below_alloc (w := w) (.cells #[.int .i64 lo, .int .i64 hi] 47)
  go_enter Try.func35, Try.ntmps35
  go_wp2_with fail
  refine (in_is _ _ _ _ H.out).mono ?_
  rintro e w1 ⟨rfl, rfl⟩
  go_wp2_with fail
  go_ret
  exact ⟨rfl, hB⟩

set_option maxHeartbeats 400000 in
theorem spanned_is {q0 q1 : Bool} (s : Sp) (a b : Int) (w : World) (h0 : inB s.lo a b = q0) (h1 : inB s.hi s.lo b = q1) :
    Calls Try.prog 96 #[spV s, .int .i64 a, .int .i64 b] w fun e w' => e = .returned (.bool (q0 && q1)) ∧ Below w.heap.size w w' := by
  obtain ⟨lo, hi⟩ := s
  have H0 := Lib.hid h0
  have H1 := Lib.hid h1
  clear h0 h1
  have hB := below_alloc (w := w) (.cells #[.int .i64 lo, .int .i64 hi] 47)
  go_enter Try.func96, Try.ntmps96
  go_wp2_with fail
  refine (in_is _ _ _ _ H0.out).mono ?_
  rintro e w1 ⟨rfl, rfl⟩
  cases q0 with
  | false =>
    go_wp2_with fail
    go_ret
    exact ⟨rfl, hB⟩
  | true =>
    go_wp2_with fail
    refine (in_is _ _ _ _ H1.out).mono ?_
    rintro e w1 ⟨rfl, rfl⟩
    go_wp2_with fail
    go_ret
    exact ⟨rfl, hB⟩

theorem spanB_eq (s : Sp) : spanB s = (inB s.lo 0 1000 && inB s.hi s.lo 1000) := by
  unfold spanB inB
  by_cases h1 : 0 ≤ s.lo <;> by_cases h2 : s.lo ≤ s.hi <;> by_cases h3 : s.hi ≤ 1000 <;> simp [h1, h2, h3] <;> omega

/-- 'marks', barrels and brands in the reference. -/
def reachB (m : Mk) (x : Br) : Bool := inB x.b0 m.s0.lo m.s0.hi && inB x.b1 m.s1.lo m.s1.hi && inB x.b2 m.s2.lo m.s2.hi && inB x.b3 m.s3.lo m.s3.hi

set_option maxRecDepth 100000 in
set_option maxHeartbeats 1600000 in
theorem barrelR_is {q : Bool} (x : Br) (w : World) (h : barB x = q) :
    Calls Try.prog 59 #[brV x] w fun e w' => e = .returned (.bool q) ∧ Below w.heap.size w w' := by
  obtain ⟨x0, x1, x2, x3⟩ := x
  have hB := below_alloc (w := w) (.cells #[.int .i64 x0, .int .i64 x1, .int .i64 x2, .int .i64 x3] 24)
  obtain ⟨q0, h0⟩ : ∃ q, inB x0 0 1000 = q := ⟨_, rfl⟩
  obtain ⟨q1, h1⟩ : ∃ q, inB x1 0 1000 = q := ⟨_, rfl⟩
  obtain ⟨q2, h2⟩ : ∃ q, inB x2 0 1000 = q := ⟨_, rfl⟩
  obtain ⟨q3, h3⟩ : ∃ q, inB x3 0 1000 = q := ⟨_, rfl⟩
  have He : Hid (q = (q0 && q1 && q2 && q3)) := by show q = _; rw [← h]; simp only [barB, h0, h1, h2, h3]
  have H0 := Lib.hid h0
  have H1 := Lib.hid h1
  have H2 := Lib.hid h2
  have H3 := Lib.hid h3
  clear h0 h1 h2 h3 h
  rw [He.out]
  clear He
  cases q0 <;> cases q1 <;> cases q2 <;> cases q3
  all_goals
    go_enter Try.func59, Try.ntmps59
    go_wp2_with (go_at_call 34; refine (in_is _ _ _ _ (by first | exact H0.out | exact H1.out | exact H2.out | exact H3.out)).mono ?_; rintro e w1 ⟨rfl, rfl⟩)
    go_ret
    exact ⟨rfl, hB⟩

set_option maxRecDepth 100000 in
set_option maxHeartbeats 1600000 in
theorem reaches_is {q : Bool} (m : Mk) (x : Br) (w : World) (h : reachB m x = q) :
    Calls Try.prog 60 #[mkV m, brV x] w fun e w' => e = .returned (.bool q) ∧ Below w.heap.size w w' := by
  obtain ⟨⟨l0, g0⟩, ⟨l1, g1⟩, ⟨l2, g2⟩, ⟨l3, g3⟩⟩ := m
  obtain ⟨x0, x1, x2, x3⟩ := x
  have hB := (below_alloc (w := w) (.cells #[.int .i64 l0, .int .i64 g0, .int .i64 l1, .int .i64 g1, .int .i64 l2, .int .i64 g2, .int .i64 l3, .int .i64 g3] 62)).alloc (by simp) (.cells #[.int .i64 x0, .int .i64 x1, .int .i64 x2, .int .i64 x3] 24)
  obtain ⟨q0, h0⟩ : ∃ q, inB x0 (Sp.mk l0 g0).lo (Sp.mk l0 g0).hi = q := ⟨_, rfl⟩
  obtain ⟨q1, h1⟩ : ∃ q, inB x1 (Sp.mk l1 g1).lo (Sp.mk l1 g1).hi = q := ⟨_, rfl⟩
  obtain ⟨q2, h2⟩ : ∃ q, inB x2 (Sp.mk l2 g2).lo (Sp.mk l2 g2).hi = q := ⟨_, rfl⟩
  obtain ⟨q3, h3⟩ : ∃ q, inB x3 (Sp.mk l3 g3).lo (Sp.mk l3 g3).hi = q := ⟨_, rfl⟩
  have He : Hid (q = (q0 && q1 && q2 && q3)) := by show q = _; rw [← h]; simp only [reachB, h0, h1, h2, h3]
  have H0 := Lib.hid h0
  have H1 := Lib.hid h1
  have H2 := Lib.hid h2
  have H3 := Lib.hid h3
  clear h0 h1 h2 h3 h
  have HM : Hid (MkAt ((w.alloc (.cells #[.int .i64 l0, .int .i64 g0, .int .i64 l1, .int .i64 g1, .int .i64 l2, .int .i64 g2, .int .i64 l3, .int .i64 g3] 62)).alloc (.cells #[.int .i64 x0, .int .i64 x1, .int .i64 x2, .int .i64 x3] 24)) w.heap.size 0 ⟨⟨l0, g0⟩, ⟨l1, g1⟩, ⟨l2, g2⟩, ⟨l3, g3⟩⟩) := by
    show MkAt _ _ _ _; unfold MkAt; go_simp
  have HX : Hid (BrAt ((w.alloc (.cells #[.int .i64 l0, .int .i64 g0, .int .i64 l1, .int .i64 g1, .int .i64 l2, .int .i64 g2, .int .i64 l3, .int .i64 g3] 62)).alloc (.cells #[.int .i64 x0, .int .i64 x1, .int .i64 x2, .int .i64 x3] 24)) (w.heap.size + 1) 0 ⟨x0, x1, x2, x3⟩) := by
    have key : ∀ W : World, BrAt (W.alloc (.cells #[.int .i64 x0, .int .i64 x1, .int .i64 x2, .int .i64 x3] 24)) W.heap.size 0 ⟨x0, x1, x2, x3⟩ := fun W => by unfold BrAt; go_simp
    have := key (w.alloc (.cells #[.int .i64 l0, .int .i64 g0, .int .i64 l1, .int .i64 g1, .int .i64 l2, .int .i64 g2, .int .i64 l3, .int .i64 g3] 62))
    rw [World.size_alloc] at this
    exact this
  rw [He.out]
  clear He
  go_enter Try.func60, Try.ntmps60
  go_wp2_with fail
  refine (holds_is ⟨l0, g0⟩ x0 _ H0.out).mono ?_
  rintro e w1 ⟨rfl, hB1⟩
  have hM1 := HM.out.kept (hB1.block _ (by simp <;> omega))
  have hX1 := HX.out.kept (hB1.block _ (by simp <;> omega))
  have hB2 := below_trans hB hB1
  clear hB hB1
  cases q0 with
  | false =>
    go_wp2_with fail
    go_ret
    exact ⟨rfl, hB2⟩
  | true =>
  have HM1 := Lib.hid hM1
  have HX1 := Lib.hid hX1
  have hl1 := hX1.lt
  obtain ⟨_, _, c2, c3, _, _, _, _⟩ := hM1
  obtain ⟨_, y1, _, _⟩ := hX1
  go_wp2_with fail
  refine (holds_is ⟨l1, g1⟩ x1 _ H1.out).mono ?_
  rintro e w2 ⟨rfl, hB3⟩
  have hM2 := HM1.out.kept (hB3.block _ (by omega))
  have hX2 := HX1.out.kept (hB3.block _ (by omega))
  have hB4 := below_trans hB2 hB3
  clear hB2 hB3
  cases q1 with
  | false =>
    go_wp2_with fail
    go_ret
    exact ⟨rfl, hB4⟩
  | true =>
  have HM2 := Lib.hid hM2
  have HX2 := Lib.hid hX2
  have hl2 := hX2.lt
  obtain ⟨_, _, _, _, c4, c5, _, _⟩ := hM2
  obtain ⟨_, _, y2, _⟩ := hX2
  go_wp2_with fail
  refine (holds_is ⟨l2, g2⟩ x2 _ H2.out).mono ?_
  rintro e w3 ⟨rfl, hB5⟩
  have hM3 := HM2.out.kept (hB5.block _ (by omega))
  have hX3 := HX2.out.kept (hB5.block _ (by omega))
  have hB6 := below_trans hB4 hB5
  clear hB4 hB5
  cases q2 with
  | false =>
    go_wp2_with fail
    go_ret
    exact ⟨rfl, hB6⟩
  | true =>
  have hl3 := hX3.lt
  obtain ⟨_, _, _, _, _, _, c6, c7⟩ := hM3
  obtain ⟨_, _, _, y3⟩ := hX3
  go_wp2_with fail
  refine (holds_is ⟨l3, g3⟩ x3 _ H3.out).mono ?_
  rintro e w4 ⟨rfl, hB7⟩
  have hB8 := below_trans hB6 hB7
  clear hB6 hB7
  go_wp2_with fail
  go_ret
  exact ⟨rfl, hB8⟩

end Go.Proofs.Ythpllmefbhjmmaa
