/-
  The walk of 'BrandGraded': it answers true, for any brands and barrel; all else stays as it was.
-/
import Derived.Test.YthpllmefbhjmmaaGradedLaw
import Derived.Test.YthpllmefbhjmmaaWorks
import Derived.Test.YthpllmefbhjmmaaArgs
import Derived.Deep.DeepCutAuto
import Derived.Deep.AppendLies
import Derived.Lib.QuietBelow
import Derived.BigQuiet
import Derived.OwnWalk
namespace Go.Proofs.Ythpllmefbhjmmaa
open Go.ChangeShapes Go.WideShapes Go.ChangeAt Go.RowKit Plain
attribute [local go_sem] Oper.semAt_some

/-- The law's two blocks: the barrel, the last brand. -/
def GdA (w : World) (x : Br) (m : Mk) (w' : World) : Prop := BrAt w' w.heap.size 0 x ∧ MkAt w' (w.heap.size + 1) 0 m ∧ Below w.heap.size w w'
theorem GdA.lt {w : World} {x : Br} {m : Mk} {w' : World} (h : GdA w x m w') : w.heap.size + 1 < w'.heap.size := h.2.1.lt
theorem GdA.below {w : World} {x : Br} {m : Mk} {w' w2 : World} (h : GdA w x m w') (hB : Below w'.heap.size w' w2) : GdA w x m w2 := by
  have hl := h.lt
  exact ⟨h.1.kept (hB.block _ (by omega)), h.2.1.kept (hB.block _ hl), below_trans h.2.2 hB⟩
theorem GdA.start (w : World) (x : Br) (m : Mk) : GdA w x m ((w.alloc (.cells #[.int .i64 x.b0, .int .i64 x.b1, .int .i64 x.b2, .int .i64 x.b3] 24)).alloc (.cells #[.int .i64 m.s0.lo, .int .i64 m.s0.hi, .int .i64 m.s1.lo, .int .i64 m.s1.hi, .int .i64 m.s2.lo, .int .i64 m.s2.hi, .int .i64 m.s3.lo, .int .i64 m.s3.hi] 62)) := by
  have key : ∀ W : World, MkAt (W.alloc (.cells #[.int .i64 m.s0.lo, .int .i64 m.s0.hi, .int .i64 m.s1.lo, .int .i64 m.s1.hi, .int .i64 m.s2.lo, .int .i64 m.s2.hi, .int .i64 m.s3.lo, .int .i64 m.s3.hi] 62)) W.heap.size 0 m := fun W => by unfold MkAt; exact ⟨by go_simp, by go_simp, by go_simp, by go_simp, by go_simp, by go_simp, by go_simp, by go_simp⟩
  have HP := key (w.alloc (.cells #[.int .i64 x.b0, .int .i64 x.b1, .int .i64 x.b2, .int .i64 x.b3] 24))
  rw [World.size_alloc] at HP
  exact ⟨by unfold BrAt; go_simp, HP, (below_alloc _).alloc (by simp) _⟩


theorem info62 : (Try.prog.info? 62).map (fun i => (i.zero, i.size, i.bytes)) = some (some (.agg #[.int .i64 0, .int .i64 0, .int .i64 0, .int .i64 0, .int .i64 0, .int .i64 0, .int .i64 0, .int .i64 0]), 8, 64) := by kernel_rfl
theorem own_nil {W : World} {base B : Nat} (h : W.heap[B]? = some (.cells #[] 62 (0, 0))) (hb : base ≤ B) : W.ownsRow base 62 8 (.slice (some ⟨B, 0, none⟩) 0 0) 0 [] :=
  ⟨rfl, .inr ⟨B, 0, #[], rfl, hb, h, Nat.le_refl _, by unfold maxLen; omega, rfl, rfl⟩⟩
theorem alloc_at (W : World) (a b : Obj) : ((W.alloc a).alloc b).heap[W.heap.size]? = some a ∧ ((W.alloc a).alloc b).heap[W.heap.size + 1]? = some b :=
  ⟨(Below.heap_alloc _ _ _ (by simp)).trans (heap_alloc_new W a), by have := heap_alloc_new (W.alloc a) b; rwa [World.size_alloc] at this⟩
/-- A row that grew: what was there before stays. -/
theorem below_row {W X w1 : World} {v : Value} {base e size n : Nat} {xs : List Value} (h : Below W.heap.size W X) (ho : X.ownsRow base e size v n xs) (hb : W.heap.size ≤ base) (hg : X.grownBy w1 v.ownBlock) : Below W.heap.size W w1 :=
  h.grown hg h.size (fun k hk => Nat.le_trans hb (ho.lt k hk).1)
theorem marks_two {W : World} {base g cap n : Nat} {ms : List Mk} {m : Mk} (hn : n = ms.length + 1) (h : W.ownsRow base 62 8 (.slice (some ⟨g, 0, none⟩) n cap) n (cellsL ms ++ mkCells m)) :
    ∀ k, k = ms.length + 1 → MarksAt W (.slice (some ⟨g, 0, none⟩) k cap) (ms ++ [m]) := by
  intro k hk
  subst hk
  subst hn
  refine marks_of_own (base := base) (by simp) ?_
  rw [cellsL_append]
  have e : cellsL [m] = mkCells m := by unfold cellsL; simp
  rw [e]; exact h
theorem own_same {W : World} {base g cap n : Nat} {xs : List Value} (h : W.ownsRow base 62 8 (.slice (some ⟨g, 0, none⟩) (0 + n) cap) (0 + n) ([] ++ xs)) : W.ownsRow base 62 8 (.slice (some ⟨g, 0, none⟩) n cap) n xs := by
  rw [Nat.zero_add, List.nil_append] at h; exact h

set_option maxRecDepth 100000 in
set_option maxHeartbeats 1600000 in
theorem law16_bad (z : Int) (v : Value) (ms : List Mk) (x : Br) (last : Mk) (w : World) (hms : MarksAt w v ms) (hlen : ms.length ≤ 140737488351232) (hz : z = 70 ∨ z = 73) (h : gradeR ms x = (0, z)) :
    Calls Try.prog 16 #[v, brV x, mkV last] w fun e w' => e = .returned (.bool true) ∧ Below w.heap.size w w' := by
  have HS := Lib.hid (GdA.start w x last)
  have Hz := Lib.hid h
  have Hms := Lib.hid (hms.below (GdA.start w x last).2.2)
  clear h hms
  rcases hz with rfl | rfl
  all_goals
    go_enter Try.func16, Try.ntmps16
    go_wp2_with fail
    refine (grade_ex v ms x _ Hms.out hlen Hz.out).mono ?_
    rintro e w1 ⟨rfl, hB1⟩
    have hB := (HS.out.below hB1).2.2
    clear hB1
    go_wp2_with fail
    refine (works_is _).mono ?_
    rintro e w5 ⟨rfl, hB6⟩
    have hB7 := below_trans hB hB6
    clear hB hB6
    go_wp2_with fail
    go_ret
    exact ⟨rfl, hB7⟩

set_option maxRecDepth 100000 in
set_option maxHeartbeats 40000000 in
theorem law16_good (n e : Int) (v : Value) (ms : List Mk) (x : Br) (last : Mk) (w : World) (hms : MarksAt w v ms) (hl1 : 1 ≤ ms.length) (hl5 : ms.length ≤ 5) (h : gradeR ms x = (n, e))
    (hne : e = 0 ∧ fstFrom ms x 0 = n ∧ 0 ≤ n ∧ n < ms.length ∨ e = 4 ∧ n = 0 ∧ fstFrom ms x 0 = -1) (hv : marksB ms = true) (hb : barB x = true) :
    Calls Try.prog 16 #[v, brV x, mkV last] w fun e w' => e = .returned (.bool true) ∧ Below w.heap.size w w' := by
  have hmore := gradeR_more (last := last) hv hb h
  have HS := Lib.hid (GdA.start w x last)
  have Hz := Lib.hid h
  have hms0 := hms.below (GdA.start w x last).2.2
  obtain ⟨va, cap, rfl, hm0⟩ := hms0
  obtain ⟨b, off, rfl, _⟩ := hm0 0 ms[0] (by simp)
  have Hms : Hid (MarksAt _ (.slice (some ⟨b, off, none⟩) ms.length cap) ms) := ⟨_, cap, rfl, hm0⟩
  have Hh := Lib.hid (And.intro hv hb)
  clear h hms hm0 hv hb
  go_enter Try.func16, Try.ntmps16
  go_wp2_with fail
  refine (grade_ex (.slice (some ⟨b, off, none⟩) ms.length cap) ms x _ Hms.out (by omega) Hz.out).mono ?_
  rintro ee w1 ⟨rfl, hB1⟩
  have HS1 := Lib.hid (HS.out.below hB1)
  have Hms1 := Lib.hid (Hms.out.below hB1)
  clear hB1 HS Hms Hz
  go_upto_region 2 with fail
  go_cut [29] (fun s29 wx => s29 = .bool false ∧ wx = w1)
  case first =>
    rcases hne with ⟨rfl, _, _, _⟩ | ⟨rfl, rfl, _⟩
    all_goals
      go_wp2_with fail
      go_meet
      case rel => exact ⟨by simp; omega, rfl⟩
  case rest =>
    obtain ⟨rfl, rfl⟩ := hcut
    go_wp2_with fail
    go_loopw [9, 10] (fun f i wr => ∃ k : Nat, k ≤ ms.length ∧ i = .int .i64 ((k : Int) - 1) ∧ f = .int .i64 (fstFrom ms x k) ∧ Below wc.heap.size wc wr) (fun _ i _ => (intOf i + 1).toNat)
    case atStart => exact ⟨ms.length, Nat.le_refl _, rfl, by rw [fst_end], Below.refl _ _⟩
    case round =>
      obtain ⟨k, hk, rfl, rfl, hB⟩ := hrel
      cases k with
      | succ j =>
        have e1 : ((j + 1 : Nat) : Int) - 1 = (j : Int) := by omega
        rw [e1]
        clear e1
        have hlt : j < ms.length := by omega
        have hj1 : (j : Int) < (ms.length : Int) := by omega
        have hj0 : (0 : Int) ≤ (j : Int) := by omega
        have Hst0 := fst_step (x := x) hlt
        have hc : MkAt wr b (off + j * 8) ms[j] := by
          obtain ⟨a', c', hv', hm'⟩ := Hms1.out.below hB
          injection hv' with hv' _ _
          obtain ⟨b', off', hbo, hc⟩ := hm' j ms[j] (List.getElem?_eq_getElem hlt)
          rw [← hv'] at hbo
          injection hbo with hbo
          injection hbo with h1 h2
          subst h1; subst h2
          exact hc
        generalize ms[j] = m at hc Hst0
        have hG := GrS.mk hc (HS1.out.below hB).1 (Below.refl wr.heap.size wr)
        have HG := Lib.hid hG
        have hbl := hG.lt.1
        have hxl := hG.lt.2
        clear hG hc
        generalize fstFrom ms x (j + 1) = F at *
        obtain ⟨y0, y1, y2, y3, y4, y5, y6, y7, y8, y9, y10, y11, _⟩ := HG.out
        replace y0 := cell_regrown y0
        replace y1 := cell_regrown y1
        replace y2 := cell_regrown y2
        replace y3 := cell_regrown y3
        replace y4 := cell_regrown y4
        replace y5 := cell_regrown y5
        replace y6 := cell_regrown y6
        replace y7 := cell_regrown y7
        replace y8 := cell_regrown y8
        replace y9 := cell_regrown y9
        replace y10 := cell_regrown y10
        replace y11 := cell_regrown y11
        have D : (inB x.b0 m.s0.lo m.s0.hi = false) ∨ (inB x.b0 m.s0.lo m.s0.hi = true ∧ inB x.b1 m.s1.lo m.s1.hi = false) ∨ (inB x.b0 m.s0.lo m.s0.hi = true ∧ inB x.b1 m.s1.lo m.s1.hi = true ∧ inB x.b2 m.s2.lo m.s2.hi = false) ∨
            (inB x.b0 m.s0.lo m.s0.hi = true ∧ inB x.b1 m.s1.lo m.s1.hi = true ∧ inB x.b2 m.s2.lo m.s2.hi = true ∧ inB x.b3 m.s3.lo m.s3.hi = false) ∨ (inB x.b0 m.s0.lo m.s0.hi = true ∧ inB x.b1 m.s1.lo m.s1.hi = true ∧ inB x.b2 m.s2.lo m.s2.hi = true ∧ inB x.b3 m.s3.lo m.s3.hi = true) := by
          cases inB x.b0 m.s0.lo m.s0.hi <;> cases inB x.b1 m.s1.lo m.s1.hi <;> cases inB x.b2 m.s2.lo m.s2.hi <;> cases inB x.b3 m.s3.lo m.s3.hi <;> simp
        rcases D with D | D | D | D | D
        · as_aux_lemma => -- the quality 0 does not
          have k0 := D
          clear D
          have hr : reachB m x = false := by unfold reachB; rw [k0]; simp
          rw [hr, if_neg (by simp)] at Hst0
          have Hst := Lib.hid Hst0
          have cH0 : ∀ d os, Calls Try.prog 35 #[.agg #[.int .i64 m.s0.lo, .int .i64 m.s0.hi], .int .i64 x.b0] (Sort.grow (redrawn wr d) os) fun e w'' => e = .returned (.bool false) ∧ ∃ p : Regrown, w'' = Sort.grow (redrawn wr p.d) p.os := fun d os => Calls.regrown_of (holds_is m.s0 x.b0 _ k0)
          clear Hst0 hr k0
          go_wp2_with fail
          refine wp_region_quiet_below (by kernel_rfl) (by kernel_rfl) ?_
          repeat (first | go_big_quiet_step (first | with_reducible exact cH0 _ _) | quiet_step (first | with_reducible exact cH0 _ _))
          refine wpQuiet_nil ?_
          intro _ hw'
          obtain ⟨⟨dq, osq⟩, hw''⟩ := hw'
          subst hw''
          have hB5 := below_trans hB (below_regrown wr dq osq)
          obtain ⟨w3, hw3⟩ : ∃ W, Sort.grow (redrawn wr dq) osq = W := ⟨_, rfl⟩
          rw [hw3] at hB5 ⊢
          clear hw3 hB cH0 y0 y1 y2 y3 y4 y5 y6 y7 y8 y9 y10 y11
          go_wp2_with fail
          go_roundw
          case rel => exact ⟨j, by omega, rfl, by rw [Hst.out], hB5⟩
          case measure => simp [intOf] <;> omega
        · as_aux_lemma => -- the quality 1 does not
          obtain ⟨k0, k1⟩ := D
          have hr : reachB m x = false := by unfold reachB; rw [k0, k1]; simp
          rw [hr, if_neg (by simp)] at Hst0
          have Hst := Lib.hid Hst0
          have cH0 : ∀ d os, Calls Try.prog 35 #[.agg #[.int .i64 m.s0.lo, .int .i64 m.s0.hi], .int .i64 x.b0] (Sort.grow (redrawn wr d) os) fun e w'' => e = .returned (.bool true) ∧ ∃ p : Regrown, w'' = Sort.grow (redrawn wr p.d) p.os := fun d os => Calls.regrown_of (holds_is m.s0 x.b0 _ k0)
          have cH1 : ∀ d os, Calls Try.prog 35 #[.agg #[.int .i64 m.s1.lo, .int .i64 m.s1.hi], .int .i64 x.b1] (Sort.grow (redrawn wr d) os) fun e w'' => e = .returned (.bool false) ∧ ∃ p : Regrown, w'' = Sort.grow (redrawn wr p.d) p.os := fun d os => Calls.regrown_of (holds_is m.s1 x.b1 _ k1)
          clear Hst0 hr k0 k1
          go_wp2_with fail
          refine wp_region_quiet_below (by kernel_rfl) (by kernel_rfl) ?_
          repeat (first | go_big_quiet_step (first | with_reducible exact cH0 _ _ | with_reducible exact cH1 _ _) | quiet_step (first | with_reducible exact cH0 _ _ | with_reducible exact cH1 _ _))
          refine wpQuiet_nil ?_
          intro _ hw'
          obtain ⟨⟨dq, osq⟩, hw''⟩ := hw'
          subst hw''
          have hB5 := below_trans hB (below_regrown wr dq osq)
          obtain ⟨w3, hw3⟩ : ∃ W, Sort.grow (redrawn wr dq) osq = W := ⟨_, rfl⟩
          rw [hw3] at hB5 ⊢
          clear hw3 hB cH0 cH1 y0 y1 y2 y3 y4 y5 y6 y7 y8 y9 y10 y11
          go_wp2_with fail
          go_roundw
          case rel => exact ⟨j, by omega, rfl, by rw [Hst.out], hB5⟩
          case measure => simp [intOf] <;> omega
        · as_aux_lemma => -- the quality 2 does not
          obtain ⟨k0, k1, k2⟩ := D
          have hr : reachB m x = false := by unfold reachB; rw [k0, k1, k2]; simp
          rw [hr, if_neg (by simp)] at Hst0
          have Hst := Lib.hid Hst0
          have cH0 : ∀ d os, Calls Try.prog 35 #[.agg #[.int .i64 m.s0.lo, .int .i64 m.s0.hi], .int .i64 x.b0] (Sort.grow (redrawn wr d) os) fun e w'' => e = .returned (.bool true) ∧ ∃ p : Regrown, w'' = Sort.grow (redrawn wr p.d) p.os := fun d os => Calls.regrown_of (holds_is m.s0 x.b0 _ k0)
          have cH1 : ∀ d os, Calls Try.prog 35 #[.agg #[.int .i64 m.s1.lo, .int .i64 m.s1.hi], .int .i64 x.b1] (Sort.grow (redrawn wr d) os) fun e w'' => e = .returned (.bool true) ∧ ∃ p : Regrown, w'' = Sort.grow (redrawn wr p.d) p.os := fun d os => Calls.regrown_of (holds_is m.s1 x.b1 _ k1)
          have cH2 : ∀ d os, Calls Try.prog 35 #[.agg #[.int .i64 m.s2.lo, .int .i64 m.s2.hi], .int .i64 x.b2] (Sort.grow (redrawn wr d) os) fun e w'' => e = .returned (.bool false) ∧ ∃ p : Regrown, w'' = Sort.grow (redrawn wr p.d) p.os := fun d os => Calls.regrown_of (holds_is m.s2 x.b2 _ k2)
          clear Hst0 hr k0 k1 k2
          go_wp2_with fail
          refine wp_region_quiet_below (by kernel_rfl) (by kernel_rfl) ?_
          repeat (first | go_big_quiet_step (first | with_reducible exact cH0 _ _ | with_reducible exact cH1 _ _ | with_reducible exact cH2 _ _) | quiet_step (first | with_reducible exact cH0 _ _ | with_reducible exact cH1 _ _ | with_reducible exact cH2 _ _))
          refine wpQuiet_nil ?_
          intro _ hw'
          obtain ⟨⟨dq, osq⟩, hw''⟩ := hw'
          subst hw''
          have hB5 := below_trans hB (below_regrown wr dq osq)
          obtain ⟨w3, hw3⟩ : ∃ W, Sort.grow (redrawn wr dq) osq = W := ⟨_, rfl⟩
          rw [hw3] at hB5 ⊢
          clear hw3 hB cH0 cH1 cH2 y0 y1 y2 y3 y4 y5 y6 y7 y8 y9 y10 y11
          go_wp2_with fail
          go_roundw
          case rel => exact ⟨j, by omega, rfl, by rw [Hst.out], hB5⟩
          case measure => simp [intOf] <;> omega
        · as_aux_lemma => -- the quality 3 does not
          obtain ⟨k0, k1, k2, k3⟩ := D
          have hr : reachB m x = false := by unfold reachB; rw [k0, k1, k2, k3]; simp
          rw [hr, if_neg (by simp)] at Hst0
          have Hst := Lib.hid Hst0
          have cH0 : ∀ d os, Calls Try.prog 35 #[.agg #[.int .i64 m.s0.lo, .int .i64 m.s0.hi], .int .i64 x.b0] (Sort.grow (redrawn wr d) os) fun e w'' => e = .returned (.bool true) ∧ ∃ p : Regrown, w'' = Sort.grow (redrawn wr p.d) p.os := fun d os => Calls.regrown_of (holds_is m.s0 x.b0 _ k0)
          have cH1 : ∀ d os, Calls Try.prog 35 #[.agg #[.int .i64 m.s1.lo, .int .i64 m.s1.hi], .int .i64 x.b1] (Sort.grow (redrawn wr d) os) fun e w'' => e = .returned (.bool true) ∧ ∃ p : Regrown, w'' = Sort.grow (redrawn wr p.d) p.os := fun d os => Calls.regrown_of (holds_is m.s1 x.b1 _ k1)
          have cH2 : ∀ d os, Calls Try.prog 35 #[.agg #[.int .i64 m.s2.lo, .int .i64 m.s2.hi], .int .i64 x.b2] (Sort.grow (redrawn wr d) os) fun e w'' => e = .returned (.bool true) ∧ ∃ p : Regrown, w'' = Sort.grow (redrawn wr p.d) p.os := fun d os => Calls.regrown_of (holds_is m.s2 x.b2 _ k2)
          have cH3 : ∀ d os, Calls Try.prog 35 #[.agg #[.int .i64 m.s3.lo, .int .i64 m.s3.hi], .int .i64 x.b3] (Sort.grow (redrawn wr d) os) fun e w'' => e = .returned (.bool false) ∧ ∃ p : Regrown, w'' = Sort.grow (redrawn wr p.d) p.os := fun d os => Calls.regrown_of (holds_is m.s3 x.b3 _ k3)
          clear Hst0 hr k0 k1 k2 k3
          go_wp2_with fail
          refine wp_region_quiet_below (by kernel_rfl) (by kernel_rfl) ?_
          repeat (first | go_big_quiet_step (first | with_reducible exact cH0 _ _ | with_reducible exact cH1 _ _ | with_reducible exact cH2 _ _ | with_reducible exact cH3 _ _) | quiet_step (first | with_reducible exact cH0 _ _ | with_reducible exact cH1 _ _ | with_reducible exact cH2 _ _ | with_reducible exact cH3 _ _))
          refine wpQuiet_nil ?_
          intro _ hw'
          obtain ⟨⟨dq, osq⟩, hw''⟩ := hw'
          subst hw''
          have hB5 := below_trans hB (below_regrown wr dq osq)
          obtain ⟨w3, hw3⟩ : ∃ W, Sort.grow (redrawn wr dq) osq = W := ⟨_, rfl⟩
          rw [hw3] at hB5 ⊢
          clear hw3 hB cH0 cH1 cH2 cH3 y0 y1 y2 y3 y4 y5 y6 y7 y8 y9 y10 y11
          go_wp2_with fail
          go_roundw
          case rel => exact ⟨j, by omega, rfl, by rw [Hst.out], hB5⟩
          case measure => simp [intOf] <;> omega
        · as_aux_lemma => -- all hold
          obtain ⟨k0, k1, k2, k3⟩ := D
          have hr : reachB m x = true := by unfold reachB; rw [k0, k1, k2, k3]; rfl
          rw [hr, if_pos rfl] at Hst0
          have Hst := Lib.hid Hst0
          have cH0 : ∀ d os, Calls Try.prog 35 #[.agg #[.int .i64 m.s0.lo, .int .i64 m.s0.hi], .int .i64 x.b0] (Sort.grow (redrawn wr d) os) fun e w'' => e = .returned (.bool true) ∧ ∃ p : Regrown, w'' = Sort.grow (redrawn wr p.d) p.os := fun d os => Calls.regrown_of (holds_is m.s0 x.b0 _ k0)
          have cH1 : ∀ d os, Calls Try.prog 35 #[.agg #[.int .i64 m.s1.lo, .int .i64 m.s1.hi], .int .i64 x.b1] (Sort.grow (redrawn wr d) os) fun e w'' => e = .returned (.bool true) ∧ ∃ p : Regrown, w'' = Sort.grow (redrawn wr p.d) p.os := fun d os => Calls.regrown_of (holds_is m.s1 x.b1 _ k1)
          have cH2 : ∀ d os, Calls Try.prog 35 #[.agg #[.int .i64 m.s2.lo, .int .i64 m.s2.hi], .int .i64 x.b2] (Sort.grow (redrawn wr d) os) fun e w'' => e = .returned (.bool true) ∧ ∃ p : Regrown, w'' = Sort.grow (redrawn wr p.d) p.os := fun d os => Calls.regrown_of (holds_is m.s2 x.b2 _ k2)
          have cH3 : ∀ d os, Calls Try.prog 35 #[.agg #[.int .i64 m.s3.lo, .int .i64 m.s3.hi], .int .i64 x.b3] (Sort.grow (redrawn wr d) os) fun e w'' => e = .returned (.bool true) ∧ ∃ p : Regrown, w'' = Sort.grow (redrawn wr p.d) p.os := fun d os => Calls.regrown_of (holds_is m.s3 x.b3 _ k3)
          clear Hst0 hr k0 k1 k2 k3
          go_wp2_with fail
          refine wp_region_quiet_below (by kernel_rfl) (by kernel_rfl) ?_
          repeat (first | go_big_quiet_step (first | with_reducible exact cH0 _ _ | with_reducible exact cH1 _ _ | with_reducible exact cH2 _ _ | with_reducible exact cH3 _ _) | quiet_step (first | with_reducible exact cH0 _ _ | with_reducible exact cH1 _ _ | with_reducible exact cH2 _ _ | with_reducible exact cH3 _ _))
          refine wpQuiet_nil ?_
          intro _ hw'
          obtain ⟨⟨dq, osq⟩, hw''⟩ := hw'
          subst hw''
          have hB5 := below_trans hB (below_regrown wr dq osq)
          obtain ⟨w3, hw3⟩ : ∃ W, Sort.grow (redrawn wr dq) osq = W := ⟨_, rfl⟩
          rw [hw3] at hB5 ⊢
          clear hw3 hB cH0 cH1 cH2 cH3 y0 y1 y2 y3 y4 y5 y6 y7 y8 y9 y10 y11
          go_wp2_with fail
          go_roundw
          case rel => exact ⟨j, by omega, rfl, by rw [Hst.out], hB5⟩
          case measure => simp [intOf] <;> omega
      | zero =>
        rw [show ((0 : Nat) : Int) - 1 = -1 from rfl]
        have HS2 := Lib.hid (HS1.out.below hB)
        have Hms2 := Lib.hid (Hms1.out.below hB)
        clear hB HS1 Hms1
        obtain ⟨f0, hf0⟩ : ∃ f, fstFrom ms x 0 = f := ⟨_, rfl⟩
        rw [hf0] at hne ⊢
        clear hf0
        go_upto_region 10 with fail
        go_cut [110] (fun s110 wx => s110 = .bool false ∧ wx = wr)
        case first =>
          rcases hne with ⟨rfl, rfl, h0, h1⟩ | ⟨rfl, rfl, rfl⟩
          all_goals
            go_wp2_with fail
            go_meet
            case rel => first | exact ⟨rfl, rfl⟩ | exact ⟨by simp; omega, rfl⟩
        case rest =>
          obtain ⟨rfl, rfl⟩ := hcut
          obtain ⟨⟨x0, x1, x2, x3⟩, ⟨c0, c1, c2, c3, c4, c5, c6, c7⟩, _⟩ := HS2.out
          simp only [Nat.zero_add] at x0 x1 x2 x3 c0 c1 c2 c3 c4 c5 c6 c7
          have lc := HS2.out.lt
          go_upto_region 12 with fail
          have hGG : GrS wc (w.heap.size + 1) 0 w.heap.size last x wc := ⟨c0, c1, c2, c3, c4, c5, c6, c7, x0, x1, x2, x3, Below.refl _ _⟩
          have HG := Lib.hid hGG
          clear hGG
          go_cut [11, 12] (fun s11 s12 wx => s11 = .int .i64 (gradeR (ms ++ [last]) x).1 ∧ s12 = .int .i64 (gradeR (ms ++ [last]) x).2 ∧ Below wc.heap.size wc wx)
          case first =>
            obtain ⟨i0, hi0, hz0, hz1, hz2⟩ := info_parts info62
            have mkone : ∀ u ∈ mkCells last, u.oneCell' = true := fun u hu => cellsL_one [last] u (by unfold cellsL; simpa using hu)
            have A1 : (wc.alloc (.cells #[] 62)).heap[wc.heap.size]? = some (.cells #[] 62 (0, 0)) := heap_alloc_new wc _
            have A2 := alloc_at wc (.cells #[] 62) (.cells (mkCells last).toArray 62)
            have A3 := alloc_at wc (.cells (mkCells last).toArray 62) (.cells #[] 62)
            have N1 := (own_nil A1 (Nat.le_refl wc.heap.size)).drew
            have N2 := (own_nil A2.1 (Nat.le_refl wc.heap.size)).drew
            have N3 := (own_nil A3.2 (Nat.le_succ wc.heap.size)).drew
            have B1 : Below wc.heap.size wc (wc.alloc (.cells #[] 62)).drew := (below_alloc _).drew
            have B2 : Below wc.heap.size wc ((wc.alloc (.cells #[] 62)).alloc (.cells (mkCells last).toArray 62)).drew := ((below_alloc _).alloc (by simp) _).drew
            have B3 : Below wc.heap.size wc ((wc.alloc (.cells (mkCells last).toArray 62)).alloc (.cells #[] 62)).drew := ((below_alloc _).alloc (by simp) _).drew
            have K1 := (Hms2.out.below B1).news
            have K2 := (Hms2.out.below B2).news
            have K3 := (Hms2.out.below B3).news
            have hcl := cellsL_length ms
            have hco := cellsL_one ms
            go_region_held3 (fun w' => w'.cell? ⟨w.heap.size + 1, 0, none⟩ = some (.int .i64 last.s0.lo) ∧ w'.cell? ⟨w.heap.size + 1, 1, none⟩ = some (.int .i64 last.s0.hi) ∧ w'.cell? ⟨w.heap.size + 1, 2, none⟩ = some (.int .i64 last.s1.lo) ∧ w'.cell? ⟨w.heap.size + 1, 3, none⟩ = some (.int .i64 last.s1.hi) ∧
              w'.cell? ⟨w.heap.size + 1, 4, none⟩ = some (.int .i64 last.s2.lo) ∧ w'.cell? ⟨w.heap.size + 1, 5, none⟩ = some (.int .i64 last.s2.hi) ∧ w'.cell? ⟨w.heap.size + 1, 6, none⟩ = some (.int .i64 last.s3.lo) ∧ w'.cell? ⟨w.heap.size + 1, 7, none⟩ = some (.int .i64 last.s3.hi) ∧
              w'.cell? ⟨w.heap.size, 0, none⟩ = some (.int .i64 x.b0) ∧ w'.cell? ⟨w.heap.size, 1, none⟩ = some (.int .i64 x.b1) ∧ w'.cell? ⟨w.heap.size, 2, none⟩ = some (.int .i64 x.b2) ∧ w'.cell? ⟨w.heap.size, 3, none⟩ = some (.int .i64 x.b3) ∧ Below wc.heap.size wc w')
              (first
                | exact HG.out.drew
                | exact GrS.below HG.out (below_trans hb2 hBn)
                | exact GrS.below HG.out hb2
                | exact GrS.below HG.out hb1
                | exact GrS.below HG.out (hb1.alloc hb1.size _)
                | exact GrS.below HG.out ((Below.refl _ _).alloc (Nat.le_refl _) _).drew
                | exact GrS.below HG.out (((Below.refl _ _).alloc (Nat.le_refl _) _).alloc (by simp) _).drew)
              (first
                | (refine step_append_lies _ (by rfl) _ _ _ (by rfl) wc.heap.size 62 i0 _ 8 64 Try.underlying22 hi0 hz0 hz1 hz2 rfl (by omega) _ 0 [] (by rfl) N1 ⟨b, off, none⟩ ms.length cap (cellsL ms) (by rfl) hcl K1 hco (by omega) (by unfold maxLen; omega) (by omega) (by simp) _ rfl ?_; intro g cap1 w1 hown1 hgrow1 hat1 hlt1; have hb1 := below_row B1 N1 (Nat.le_refl _) hgrow1; have hown3 := own_same hown1)
                | (refine step_append_lies _ (by rfl) _ _ _ (by rfl) wc.heap.size 62 i0 _ 8 64 Try.underlying22 hi0 hz0 hz1 hz2 rfl (by omega) _ 0 [] (by rfl) N2 ⟨b, off, none⟩ ms.length cap (cellsL ms) (by rfl) hcl K2 hco (by omega) (by unfold maxLen; omega) (by omega) (by simp; omega) _ rfl ?_; intro g cap1 w1 hown1 hgrow1 hat1 hlt1; have hb1 := below_row B2 N2 (Nat.le_refl _) hgrow1; have hs1 := (hgrow1.block (wc.heap.size + 1) (by simp) (by simp [Value.ownBlock])).trans A2.2)
                | (refine step_append_lies _ (by rfl) _ _ _ (by rfl) wc.heap.size 62 i0 _ 8 64 Try.underlying22 hi0 hz0 hz1 hz2 rfl (by omega) _ 0 [] (by rfl) N3 ⟨b, off, none⟩ ms.length cap (cellsL ms) (by rfl) hcl K3 hco (by omega) (by unfold maxLen; omega) (by omega) (by simp; omega) _ rfl ?_; intro g cap1 w1 hown1 hgrow1 hat1 hlt1; have hb1 := below_row B3 N3 (Nat.le_refl _) hgrow1; have hs1 := (hgrow1.block wc.heap.size (by simp; omega) (by simp [Value.ownBlock])).trans A3.1)
                | (refine step_append_lies _ (by rfl) _ _ _ (by rfl) wc.heap.size 62 i0 _ 8 64 Try.underlying22 hi0 hz0 hz1 hz2 rfl (by omega) _ ms.length (cellsL ms) (by rfl) (hown3.alloc _) ⟨w1.heap.size, 0, none⟩ 1 1 (mkCells last) (by rfl) (by rfl) (World.news_of_block (cs := (mkCells last).toArray) (t := 62) (fr := (0, 0)) (heap_alloc_new w1 _)) mkone (by omega) (by unfold maxLen; omega) (by omega) (by have := hb1.size; simp; omega) _ rfl ?_; intro g2 cap2 w2 hown2 hgrow2 hat2 hlt2; have hb2 := below_row (hb1.alloc hb1.size _) (hown3.alloc _) (Nat.le_refl _) hgrow2; have M2 := marks_two rfl hown2)
                | (refine step_append_lies _ (by rfl) _ _ _ (by rfl) wc.heap.size 62 i0 _ 8 64 Try.underlying22 hi0 hz0 hz1 hz2 rfl (by omega) _ (0 + ms.length) ([] ++ cellsL ms) (by rfl) hown1 ⟨wc.heap.size + 1, 0, none⟩ 1 1 (mkCells last) (by rfl) (by rfl) (World.news_of_block (cs := (mkCells last).toArray) (t := 62) (fr := (0, 0)) hs1) mkone (by omega) (by unfold maxLen; omega) (by omega) hb1.size _ rfl ?_; intro g2 cap2 w2 hown2 hgrow2 hat2 hlt2; have hb2 := below_row hb1 hown1 (Nat.le_refl _) hgrow2; have M2 := marks_two (by omega) hown2)
                | (refine step_append_lies _ (by rfl) _ _ _ (by rfl) wc.heap.size 62 i0 _ 8 64 Try.underlying22 hi0 hz0 hz1 hz2 rfl (by omega) _ (0 + ms.length) ([] ++ cellsL ms) (by rfl) hown1 ⟨wc.heap.size, 0, none⟩ 1 1 (mkCells last) (by rfl) (by rfl) (World.news_of_block (cs := (mkCells last).toArray) (t := 62) (fr := (0, 0)) hs1) mkone (by omega) (by unfold maxLen; omega) (by omega) hb1.size _ rfl ?_; intro g2 cap2 w2 hown2 hgrow2 hat2 hlt2; have hb2 := below_row hb1 hown1 (Nat.le_refl _) hgrow2; have M2 := marks_two (by omega) hown2)
                | (go_at_call 19; refine (grade_ex _ (ms ++ [last]) x _ (M2 _ (by simp)) (by simp; omega) rfl).mono ?_; rintro e wn ⟨rfl, hBn⟩))
            all_goals
              go_wp2_with fail
              go_meet
              case rel => exact ⟨rfl, rfl, below_trans hb2 hBn⟩
          case rest =>
            obtain ⟨rfl, rfl, hB3⟩ := hcut
            have hB4 := below_trans HS2.out.2.2 hB3
            clear hB3 HG HS2 Hms2 x0 x1 x2 x3 c0 c1 c2 c3 c4 c5 c6 c7 lc
            obtain ⟨z, hz⟩ : ∃ z, gradeR (ms ++ [last]) x = z := ⟨_, rfl⟩
            rw [hz] at hmore ⊢
            clear hz
            obtain ⟨z1, z2⟩ := z
            simp only [Prod.mk.injEq] at hmore ⊢
            have D : (z2 = 70) ∨ (z2 = 4 ∧ e = 4) ∨ (z2 = 0 ∧ e = 4) ∨ (z2 = 0 ∧ e = 0 ∧ z1 = n) := by omega
            clear hmore hne
            rcases D with rfl | ⟨rfl, rfl⟩ | ⟨rfl, rfl⟩ | ⟨rfl, rfl, rfl⟩
            all_goals
              go_wp2_with fail
              refine (works_is _).mono ?_
              rintro ee w5 ⟨rfl, hB6⟩
              have hB7 := below_trans hB4 hB6
              clear hB4 hB6
              go_wp2_with fail
              go_ret
              exact ⟨rfl, hB7⟩

theorem law16 (v : Value) (ms : List Mk) (x : Br) (last : Mk) (w : World) (hms : MarksAt w v ms) (hlen : ms.length ≤ 140737488351232) :
    Calls Try.prog 16 #[v, brV x, mkV last] w fun e w' => e = .returned (.bool true) ∧ Below w.heap.size w w' := by
  rcases gradeR_cases ms x with h | h | ⟨h1, h5, hv, hb, n, e, h, hne⟩
  · exact law16_bad 70 v ms x last w hms hlen (.inl rfl) h
  · exact law16_bad 73 v ms x last w hms hlen (.inr rfl) h
  · exact law16_good n e v ms x last w hms h1 h5 h hne hv hb

end Go.Proofs.Ythpllmefbhjmmaa
