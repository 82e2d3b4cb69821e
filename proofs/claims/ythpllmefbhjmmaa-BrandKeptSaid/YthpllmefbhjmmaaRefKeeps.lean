/-
  The reference: odds that are asked for, rules, whether a plan keeps one, 'Keeps'.
-/
import Derived.Test.YthpllmefbhjmmaaRefOdded
import Derived.Test.YthpllmefbhjmmaaKept
import Derived.Test.YthpllmefbhjmmaaFull
namespace Go.Proofs.Ythpllmefbhjmmaa
open Go.RowKit Go.Maps Plain
attribute [local go_sem] Oper.semAt_some

set_option maxHeartbeats 800000 in
theorem oddsOk_is {q : Bool} (o i : Int) (w : World) (h : oddsB o i = q) :
    Calls Try.prog 80 #[planV o i] w fun e w' => e = .returned (.bool q) ∧ Below w.heap.size w w' := by
  obtain ⟨q0, h0⟩ : ∃ q, inB i 1 1000 = q := ⟨_, rfl⟩
  obtain ⟨q1, h1⟩ : ∃ q, inB o 0 i = q := ⟨_, rfl⟩
  have He : Hid (q = (q0 && q1)) := by show q = _; rw [← h]; simp only [oddsB, h0, h1]
  have H0 := Lib.hid h0
  have H1 := Lib.hid h1
  clear h0 h1 h
  rw [He.out]
  clear He
  have hB := below_alloc (w := w) (.cells #[.int .i64 o, .int .i64 i] 34)
  go_enter Try.func80, Try.ntmps80
  go_wp2_with fail
  refine (in_is _ _ _ _ H0.out).mono ?_
  rintro e w1 ⟨rfl, rfl⟩
  cases q0 with
  | false =>
    go_wp2_with fail
    go_ret
    exact ⟨rfl, hB⟩
  | true =>
    go_wp2_with fail
    refine (in_is _ _ _ _ H1.out).mono ?_
    rintro e w1 ⟨rfl, rfl⟩
    go_wp2_with fail
    go_ret
    exact ⟨rfl, hB⟩

set_option maxRecDepth 100000 in
set_option maxHeartbeats 1600000 in
theorem ruleRef_any (N : Int) (r : Rl) (w : World) :
    Calls Try.prog 72 #[.int .i64 N, rlV r] w fun e w' => e = .returned (.bool (ruleB N r)) ∧ Below w.heap.size w w' := by
  obtain ⟨g, po, pi, b, fo, fi⟩ := r
  have hB := (below_alloc (w := w) (.cells #[.int .i64 g, .int .i64 po, .int .i64 pi, .int .i64 b, .int .i64 fo, .int .i64 fi] 39))
  have HR : Hid (RuleAt (w.alloc (.cells #[.int .i64 g, .int .i64 po, .int .i64 pi, .int .i64 b, .int .i64 fo, .int .i64 fi] 39)) w.heap.size ⟨g, po, pi, b, fo, fi⟩) := by show RuleAt _ _ _; unfold RuleAt; go_simp
  by_cases h1 : 0 ≤ g
  case neg =>
    have d1 : decide (0 ≤ g) = false := by simpa using h1
    have He : Hid (ruleB N ⟨g, po, pi, b, fo, fi⟩ = false) := by show ruleB _ _ = false; simp [ruleB, d1]
    go_enter Try.func72, Try.ntmps72
    go_wp2
    go_ret
    exact ⟨by rw [He.out]; rfl, hB⟩
  have d1 : decide (0 ≤ g) = true := by simpa using h1
  by_cases h2 : g < b
  case neg =>
    have d2 : decide (g < b) = false := by simpa using h2
    have He : Hid (ruleB N ⟨g, po, pi, b, fo, fi⟩ = false) := by show ruleB _ _ = false; simp [ruleB, d2]
    go_enter Try.func72, Try.ntmps72
    go_wp2
    go_ret
    exact ⟨by rw [He.out]; rfl, hB⟩
  have d2 : decide (g < b) = true := by simpa using h2
  by_cases h3 : b ≤ N
  case neg =>
    have d3 : decide (b ≤ N) = false := by simpa using h3
    have He : Hid (ruleB N ⟨g, po, pi, b, fo, fi⟩ = false) := by show ruleB _ _ = false; simp [ruleB, d3]
    go_enter Try.func72, Try.ntmps72
    go_wp2
    go_ret
    exact ⟨by rw [He.out]; rfl, hB⟩
  have d3 : decide (b ≤ N) = true := by simpa using h3
  obtain ⟨q4, h4⟩ : ∃ q, oddsB po pi = q := ⟨_, rfl⟩
  obtain ⟨q5, h5⟩ : ∃ q, oddsB fo fi = q := ⟨_, rfl⟩
  have He : Hid (ruleB N ⟨g, po, pi, b, fo, fi⟩ = (q4 && q5)) := by show ruleB _ _ = _; simp [ruleB, d1, d2, d3, h4, h5]
  have H4 := Lib.hid h4
  have H5 := Lib.hid h5
  clear h4 h5
  rw [He.out]
  go_enter Try.func72, Try.ntmps72
  go_wp2_with fail
  refine (oddsOk_is _ _ _ H4.out).mono ?_
  rintro e w1 ⟨rfl, hB1⟩
  obtain ⟨_, _, _, _, r4, r5⟩ := HR.out.below hB1 (by simp)
  have hl : w.heap.size < w1.heap.size := World.block_lt_of_cell? _ _ r4
  replace hB := below_trans hB hB1
  clear hB1
  cases q4 with
  | false =>
    go_wp2_with fail
    go_ret
    exact ⟨rfl, hB⟩
  | true =>
  go_wp2_with fail
  refine (oddsOk_is _ _ _ H5.out).mono ?_
  rintro e w2 ⟨rfl, hB2⟩
  replace hB := below_trans hB hB2
  clear hB2
  go_wp2_with fail
  go_ret
  exact ⟨rfl, hB⟩

theorem ruleRef_is {q : Bool} (N : Int) (r : Rl) (w : World) (h : ruleB N r = q) :
    Calls Try.prog 72 #[.int .i64 N, rlV r] w fun e w' => e = .returned (.bool q) ∧ Below w.heap.size w w' := by
  rw [← h]; exact ruleRef_any N r w

set_option maxRecDepth 100000 in
set_option maxHeartbeats 1600000 in
theorem keepsRef_any (N : Int) (r : Rl) (o a : Int) (w : World) (hN0 : 0 ≤ N) (hN : N ≤ 40) (ho0 : 0 ≤ o) (ho : o ≤ N) (ha0 : 0 ≤ a) (ha : a ≤ o) (hr : ruleB N r = true) :
    Calls Try.prog 73 #[.int .i64 N, rlV r, planV o a] w fun e w' => e = .returned (.bool (keepsB N r o a)) ∧ Below w.heap.size w w' := by
  obtain ⟨hg0, hgb, hbN, hp, hf⟩ := ruleB_true hr
  obtain ⟨hp1, hp2, hp3, hp4⟩ := oddsB_true hp
  obtain ⟨hf1, hf2, hf3, hf4⟩ := oddsB_true hf
  clear hp hf hr
  obtain ⟨g, po, pi, b, fo, fi⟩ := r
  simp only at hg0 hgb hbN hp1 hp2 hp3 hp4 hf1 hf2 hf3 hf4
  have hB := (below_alloc (w := w) (.cells #[.int .i64 g, .int .i64 po, .int .i64 pi, .int .i64 b, .int .i64 fo, .int .i64 fi] 39)).alloc (by simp) (.cells #[.int .i64 o, .int .i64 a] 32)
  have key : ∀ W : World, TwoAt (W.alloc (.cells #[.int .i64 o, .int .i64 a] 32)) W.heap.size (.int .i64 o) (.int .i64 a) := fun W => by unfold TwoAt; go_simp
  have HP := key (w.alloc (.cells #[.int .i64 g, .int .i64 po, .int .i64 pi, .int .i64 b, .int .i64 fo, .int .i64 fi] 39))
  have HR : RuleAt ((w.alloc (.cells #[.int .i64 g, .int .i64 po, .int .i64 pi, .int .i64 b, .int .i64 fo, .int .i64 fi] 39)).alloc (.cells #[.int .i64 o, .int .i64 a] 32)) w.heap.size ⟨g, po, pi, b, fo, fi⟩ := by unfold RuleAt; go_simp
  rw [World.size_alloc] at HP
  have hz : w.heap.size + 1 < ((w.alloc (.cells #[.int .i64 g, .int .i64 po, .int .i64 pi, .int .i64 b, .int .i64 fo, .int .i64 fi] 39)).alloc (.cells #[.int .i64 o, .int .i64 a] 32)).heap.size := by simp
  go_enter Try.func73, Try.ntmps73
  go_wp2_with (go_at_call 69; refine (choices_any _ _ _ (by omega) (by omega)).mono ?_; rintro e w1 ⟨rfl, rfl⟩)
  obtain ⟨W, hW⟩ : ∃ W, ((w.alloc (.cells #[.int .i64 g, .int .i64 po, .int .i64 pi, .int .i64 b, .int .i64 fo, .int .i64 fi] 39)).alloc (.cells #[.int .i64 o, .int .i64 a] 32)) = W := ⟨_, rfl⟩
  rw [hW] at hB HP HR hz ⊢
  clear hW key
  obtain ⟨r0, r1, r2, r3, r4, r5⟩ := HR
  obtain ⟨p0, p1⟩ := HP
  have hz0 : w.heap.size < W.heap.size := by omega
  have hC0 := cnt_nonneg N o
  have hC1 := cnt_le N o hN
  go_loopw [8] (fun k wr => ∃ j : Nat, (j : Int) ≤ N + 1 ∧ k = .int .i64 j ∧ Hid (∀ i : Nat, i < j → keepsAt N ⟨g, po, pi, b, fo, fi⟩ o a i = true) ∧ W = wr) (fun k _ => (N + 1 - intOf k).toNat)
  case atStart => exact ⟨0, by omega, rfl, fun i hi => by omega, by first | rfl | trivial⟩
  case round =>
    obtain ⟨j, hj, rfl, Hall, rfl⟩ := hrel
    by_cases hlt : (j : Int) ≤ N
    · have hF0 := fnd_nonneg N j o 0 a
      have hF1 := fnd_le N j o 0 a (by omega) (by omega) hN (by omega) (by omega)
      have hFc : Calls Try.prog 68 #[.int .i64 N, .int .i64 j, .int .i64 o, .int .i64 0, .int .i64 a] W fun e w' => e = .returned (.int .i64 (fnd N j o 0 a)) ∧ W = w' := foundR_any N j o 0 a W (by omega) (by omega) (by omega) (by omega) (by omega) (by omega) (by omega) (by omega)
      have HFc := Lib.hid hFc
      have hat : keepsAt N ⟨g, po, pi, b, fo, fi⟩ o a j = !((decide ((j : Int) ≤ g) && decide (fnd N j o 0 a * pi < po * cnt N o)) || (decide (b ≤ (j : Int)) && decide (fo * cnt N o < fnd N j o 0 a * fi))) := by
        simp only [keepsAt]
        rw [show decide (fnd N j o 0 a * pi - po * cnt N o < 0) = decide (fnd N j o 0 a * pi < po * cnt N o) from decide_eq_decide.2 (by omega), show decide (0 < fnd N j o 0 a * fi - fo * cnt N o) = decide (fo * cnt N o < fnd N j o 0 a * fi) from decide_eq_decide.2 (by omega)]
      obtain ⟨F, hF⟩ : ∃ F, fnd N j o 0 a = F := ⟨_, rfl⟩
      obtain ⟨C, hC⟩ : ∃ C, cnt N o = C := ⟨_, rfl⟩
      rw [hF] at HFc hat hF0 hF1
      rw [hC] at hat hC0 hC1 ⊢
      obtain ⟨x1, hx1⟩ : ∃ x, F * pi = x := ⟨_, rfl⟩
      obtain ⟨x2, hx2⟩ : ∃ x, po * C = x := ⟨_, rfl⟩
      obtain ⟨y1, hy1⟩ : ∃ x, F * fi = x := ⟨_, rfl⟩
      obtain ⟨y2, hy2⟩ : ∃ x, fo * C = x := ⟨_, rfl⟩
      rw [hx1, hx2, hy1, hy2] at hat
      have Hat := Lib.hid hat
      have m1 : IntKind.i64.wrap (F * pi) = x1 := by
        have := Int.mul_nonneg hF0 (show 0 ≤ pi by omega)
        have := Int.mul_le_mul hF1 hp2 (by omega) (by omega)
        rw [← hx1]; exact IntWalk.i64_in _ (by omega)
      have m2 : IntKind.i64.wrap (po * C) = x2 := by
        have := Int.mul_nonneg hp3 hC0
        have := Int.mul_le_mul (show po ≤ 1000 by omega) hC1 hC0 (by omega)
        rw [← hx2]; exact IntWalk.i64_in _ (by omega)
      have m3 : IntKind.i64.wrap (F * fi) = y1 := by
        have := Int.mul_nonneg hF0 (show 0 ≤ fi by omega)
        have := Int.mul_le_mul hF1 hf2 (by omega) (by omega)
        rw [← hy1]; exact IntWalk.i64_in _ (by omega)
      have m4 : IntKind.i64.wrap (fo * C) = y2 := by
        have := Int.mul_nonneg hf3 hC0
        have := Int.mul_le_mul (show fo ≤ 1000 by omega) hC1 hC0 (by omega)
        rw [← hy2]; exact IntWalk.i64_in _ (by omega)
      clear hF hC hx1 hx2 hy1 hy2 hat hFc hF0 hF1 hC0 hC1
      by_cases h1 : (j : Int) ≤ g
      · have d1 : decide ((j : Int) ≤ g) = true := by simpa using h1
        have d2 : decide (b ≤ (j : Int)) = false := by simp; omega
        by_cases h2 : x1 < x2
        · have d3 : decide (x1 < x2) = true := by simpa using h2
          have Hk : Hid (keepsB N ⟨g, po, pi, b, fo, fi⟩ o a = false) := by
            refine keepsB_false (j := j) (by omega) ?_
            rw [Hat.out, d1, d3]; rfl
          go_wp2_with (go_at_call 68; refine HFc.out.mono ?_; rintro e w1 ⟨rfl, rfl⟩)
          go_ret
          exact ⟨by rw [Hk.out]; rfl, hB⟩
        · have d3 : decide (x1 < x2) = false := by simpa using h2
          have Hk : Hid (keepsAt N ⟨g, po, pi, b, fo, fi⟩ o a j = true) := by
            rw [Hat.out, d1, d2, d3]; rfl
          go_wp2_with (go_at_call 68; refine HFc.out.mono ?_; rintro e w1 ⟨rfl, rfl⟩)
          go_roundw
          case rel => exact ⟨j + 1, by omega, by go_num, fun i hi => by rcases Nat.lt_succ_iff_lt_or_eq.1 hi with hi | rfl; exact Hall.out i hi; exact Hk.out, by first | rfl | trivial⟩
          case measure => simp [intOf]; omega
      · have d1 : decide ((j : Int) ≤ g) = false := by simpa using h1
        by_cases h2 : b ≤ (j : Int)
        · have d2 : decide (b ≤ (j : Int)) = true := by simpa using h2
          by_cases h3 : y2 < y1
          · have d3 : decide (y2 < y1) = true := by simpa using h3
            have Hk : Hid (keepsB N ⟨g, po, pi, b, fo, fi⟩ o a = false) := by
              refine keepsB_false (j := j) (by omega) ?_
              rw [Hat.out, d1, d2, d3]; rfl
            go_wp2_with (go_at_call 68; refine HFc.out.mono ?_; rintro e w1 ⟨rfl, rfl⟩)
            go_ret
            exact ⟨by rw [Hk.out]; rfl, hB⟩
          · have d3 : decide (y2 < y1) = false := by simpa using h3
            have Hk : Hid (keepsAt N ⟨g, po, pi, b, fo, fi⟩ o a j = true) := by
              rw [Hat.out, d1, d2, d3]; rfl
            go_wp2_with (go_at_call 68; refine HFc.out.mono ?_; rintro e w1 ⟨rfl, rfl⟩)
            go_roundw
            case rel => exact ⟨j + 1, by omega, by go_num, fun i hi => by rcases Nat.lt_succ_iff_lt_or_eq.1 hi with hi | rfl; exact Hall.out i hi; exact Hk.out, by first | rfl | trivial⟩
            case measure => simp [intOf]; omega
        · have d2 : decide (b ≤ (j : Int)) = false := by simpa using h2
          have Hk : Hid (keepsAt N ⟨g, po, pi, b, fo, fi⟩ o a j = true) := by
            rw [Hat.out, d1, d2]; rfl
          go_wp2_with (go_at_call 68; refine HFc.out.mono ?_; rintro e w1 ⟨rfl, rfl⟩)
          go_roundw
          case rel => exact ⟨j + 1, by omega, by go_num, fun i hi => by rcases Nat.lt_succ_iff_lt_or_eq.1 hi with hi | rfl; exact Hall.out i hi; exact Hk.out, by first | rfl | trivial⟩
          case measure => simp [intOf]; omega
    · go_wp2_with fail
      go_ret
      exact ⟨by rw [keepsB_true hN0 (fun i hi => Hall.out i (by omega))]; rfl, hB⟩

end Go.Proofs.Ythpllmefbhjmmaa
