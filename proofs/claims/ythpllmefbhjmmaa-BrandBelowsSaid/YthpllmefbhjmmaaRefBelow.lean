/-
  The reference's 'Below' answers as the program's does.
-/
import Derived.Test.YthpllmefbhjmmaaRefKeeps
import Derived.Test.YthpllmefbhjmmaaBelow
namespace Go.Proofs.Ythpllmefbhjmmaa
open Go.RowKit Go.Maps Plain
attribute [local go_sem] Oper.semAt_some

/-- From the first to the greatest of some numbers. -/
def spanTo : List Nat → Int × Int
  | [] => (0, 0)
  | x :: l => ((x : Int), greatestL x ((x :: l).map fun n : Nat => (n : Int)))
def widen (s : Int × Int) (b : Int) (first : Bool) : Int × Int := if first = true then (b, b) else (min s.1 b, max s.2 b)

theorem spanTo_snoc (l : List Nat) (k : Nat) (h : ∀ x ∈ l, x < k) : spanTo (l ++ [k]) = widen (spanTo l) k l.isEmpty := by
  cases l with
  | nil => show ((k : Int), max (k : Int) k) = ((k : Int), (k : Int)); congr 1; omega
  | cons x l =>
    have hx := h x (by simp)
    show ((x : Int), greatestL x ((x :: (l ++ [k])).map fun n : Nat => (n : Int))) = (min (x : Int) k, max (greatestL x ((x :: l).map fun n : Nat => (n : Int))) k)
    rw [show min (x : Int) k = x by omega]
    congr 1
    unfold greatestL
    rw [← List.cons_append, List.map_append, List.foldl_append]
    rfl

theorem outTo_lt {N o f dof din : Int} {k x : Nat} (h : x ∈ outTo N o f dof din k) : x < k := by
  unfold outTo at h
  rw [List.mem_filter, List.mem_range] at h
  exact h.1

set_option maxHeartbeats 800000 in
theorem wider_is (lo hi b : Int) (q : Bool) (w : World) :
    Calls Try.prog 81 #[planV lo hi, .int .i64 b, .bool q] w fun e w' => e = .returned (planV (widen (lo, hi) b q).1 (widen (lo, hi) b q).2) ∧ Below w.heap.size w w' := by
  cases q with
  | true =>
    go_enter Try.func81, Try.ntmps81
    go_wp2_with fail
    refine bodyPost_ret (v := planV b b) (by simp [results, Try.results81, go_sem]) rfl ⟨rfl, ?_⟩
    exact (below_alloc _).alloc (by simp) _
  | false =>
    obtain ⟨x, hx⟩ : ∃ x, min lo b = x := ⟨_, rfl⟩
    obtain ⟨y, hy⟩ : ∃ y, max hi b = y := ⟨_, rfl⟩
    have He : Hid (widen (lo, hi) b false = (x, y)) := by show _ = _; simp only [widen, hx, hy]; rfl
    rw [He.out]
    go_enter Try.func81, Try.ntmps81
    go_wp2_with fail
    refine bodyPost_ret (v := planV x y) (by simp [results, Try.results81, go_sem]) rfl ⟨rfl, ?_⟩
    exact (below_alloc _).alloc (by simp) _

/-- The blocks of the call: the doubt; the answer. -/
def BeA (w : World) (dof din : Int) (w' : World) : Prop :=
  TwoAt w' w.heap.size (.int .i64 dof) (.int .i64 din) ∧ TwoAt w' (w.heap.size + 1) (.int .i64 0) (.int .i64 0) ∧ w'.frozen? ⟨w.heap.size + 1, 0, none⟩ = false ∧ w'.frozen? ⟨w.heap.size + 1, 1, none⟩ = false ∧ Below w.heap.size w w'
theorem BeA.lt {w : World} {dof din : Int} {w' : World} (h : BeA w dof din w') : w.heap.size + 1 < w'.heap.size := World.block_lt_of_cell? _ _ h.2.1.1
theorem BeA.below {w : World} {dof din : Int} {w' w2 : World} (h : BeA w dof din w') (hB : Below w'.heap.size w' w2) : BeA w dof din w2 := by
  have hl := h.lt
  obtain ⟨h1, h2, f0, f1, hb⟩ := h
  exact ⟨h1.below hB (by omega), h2.below hB hl, (hB.frozen hl).trans f0, (hB.frozen hl).trans f1, below_trans hb hB⟩
theorem BeA.start (w : World) (dof din : Int) : BeA w dof din ((w.alloc (.cells #[.int .i64 dof, .int .i64 din] 34)).alloc (.cells #[.int .i64 0, .int .i64 0] 47)) := by
  have key : ∀ W : World, TwoAt (W.alloc (.cells #[.int .i64 0, .int .i64 0] 47)) W.heap.size (.int .i64 0) (.int .i64 0) := fun W => by unfold TwoAt; go_simp
  have HP := key (w.alloc (.cells #[.int .i64 dof, .int .i64 din] 34))
  rw [World.size_alloc] at HP
  exact ⟨by unfold TwoAt; go_simp, HP, by go_simp, by go_simp, (below_alloc _).alloc (by simp) _⟩
theorem BeA.out {w : World} {dof din : Int} {w' : World} (h : BeA w dof din w') (x y : Value) : Below w.heap.size w ((w'.setCell ⟨w.heap.size + 1, 0, none⟩ x).setCell ⟨w.heap.size + 1, 1, none⟩ y) :=
  (h.2.2.2.2.setCell (p := ⟨w.heap.size + 1, 0, none⟩) (by simp) _).setCell (p := ⟨w.heap.size + 1, 1, none⟩) (by simp) _

/-- And the span. -/
def BeS (w : World) (dof din : Int) (S : Nat) (sp : Int × Int) (w' : World) : Prop :=
  BeA w dof din w' ∧ TwoAt w' S (.int .i64 sp.1) (.int .i64 sp.2) ∧ w'.frozen? ⟨S, 0, none⟩ = false ∧ w'.frozen? ⟨S, 1, none⟩ = false ∧ w.heap.size + 1 < S
theorem BeS.lt {w : World} {dof din : Int} {S : Nat} {sp : Int × Int} {w' : World} (h : BeS w dof din S sp w') : S < w'.heap.size := World.block_lt_of_cell? _ _ h.2.1.1
theorem BeS.below {w : World} {dof din : Int} {S : Nat} {sp : Int × Int} {w' w2 : World} (h : BeS w dof din S sp w') (hB : Below w'.heap.size w' w2) : BeS w dof din S sp w2 := by
  have hl := h.lt
  obtain ⟨h1, h2, f0, f1, hS⟩ := h
  exact ⟨h1.below hB, h2.below hB hl, (hB.frozen hl).trans f0, (hB.frozen hl).trans f1, hS⟩
theorem BeS.set {w : World} {dof din : Int} {S : Nat} {sp : Int × Int} {w' : World} (h : BeS w dof din S sp w') (sp' : Int × Int) :
    BeS w dof din S sp' ((w'.setCell ⟨S, 0, none⟩ (.int .i64 sp'.1)).setCell ⟨S, 1, none⟩ (.int .i64 sp'.2)) := by
  obtain ⟨⟨⟨a0, a1⟩, ⟨b0, b1⟩, g0, g1, hb⟩, ⟨c0, c1⟩, f0, f1, hS⟩ := h
  have k : ∀ (b i : Nat), b < S → ((w'.setCell ⟨S, 0, none⟩ (.int .i64 sp'.1)).setCell ⟨S, 1, none⟩ (.int .i64 sp'.2)).cell? ⟨b, i, none⟩ = w'.cell? ⟨b, i, none⟩ := fun b i hbS => by
    rw [World.cell?_setCell_far _ _ _ _ (by simp; omega), World.cell?_setCell_far _ _ _ _ (by simp; omega)]
  refine ⟨⟨⟨(k _ _ (by omega)).trans a0, (k _ _ (by omega)).trans a1⟩, ⟨(k _ _ (by omega)).trans b0, (k _ _ (by omega)).trans b1⟩, ?_, ?_, ?_⟩, ⟨?_, ?_⟩, ?_, ?_, hS⟩
  · rw [World.frozen?_setCell, World.frozen?_setCell]; exact g0
  · rw [World.frozen?_setCell, World.frozen?_setCell]; exact g1
  · exact (hb.setCell (p := ⟨S, 0, none⟩) (by simp; omega) _).setCell (p := ⟨S, 1, none⟩) (by simp; omega) _
  · go_simp
  · go_simp
  · rw [World.frozen?_setCell, World.frozen?_setCell]; exact f0
  · rw [World.frozen?_setCell, World.frozen?_setCell]; exact f1

set_option maxRecDepth 100000 in
set_option maxHeartbeats 1600000 in
theorem belowRef_bad (N o f dof din : Int) (w : World) (h : ¬ (inB N 1 40 = true ∧ inB o 0 N = true ∧ inB f 0 o = true ∧ oddsB dof din = true)) :
    Calls Try.prog 29 #[.int .i64 N, .int .i64 o, .int .i64 f, planV dof din] w fun e w' => e = .returned (oddsV (belowR N o f dof din)) ∧ Below w.heap.size w w' := by
  have Hst := Lib.hid (BeA.start w dof din)
  by_cases hh : inB N 1 40 = true ∧ inB o 0 N = true ∧ inB f 0 o = true
  · have h4 : oddsB dof din = false := by cases e : oddsB dof din <;> simp_all
    have He : Hid (belowR N o f dof din = (0, 0, 71)) := by show _ = _; unfold belowR; rw [if_pos hh, h4, if_neg (by simp)]
    obtain ⟨h1, h2, h3⟩ := hh
    have H1 := Lib.hid h1
    have H2 := Lib.hid h2
    have H3 := Lib.hid h3
    have H4 := Lib.hid h4
    clear h1 h2 h3 h4 h
    go_enter Try.func29, Try.ntmps29
    go_wp2_with (go_at_call 34; refine (in_is _ _ _ _ (by first | exact H1.out | exact H2.out | exact H3.out)).mono ?_; rintro e w1 ⟨rfl, rfl⟩)
    refine (oddsOk_is _ _ _ H4.out).mono ?_
    rintro e w1 ⟨rfl, hB1⟩
    have HS := Lib.hid (Hst.out.below hB1)
    obtain ⟨_, ⟨p0, p1⟩, f0, f1, _⟩ := HS.out
    have hlt := HS.out.lt
    clear hB1
    go_wp2_with fail
    refine bodyPost_ret (v := oddsV (0, 0, 71)) (by simp [results, Try.results29, go_sem, p0, p1]) rfl ⟨by rw [He.out], ?_⟩
    exact HS.out.out _ _
  · have He : Hid (belowR N o f dof din = (0, 0, 7)) := by show _ = _; unfold belowR; rw [if_neg hh]
    obtain ⟨q1, h1⟩ : ∃ q, inB N 1 40 = q := ⟨_, rfl⟩
    obtain ⟨q2, h2⟩ : ∃ q, inB o 0 N = q := ⟨_, rfl⟩
    obtain ⟨q3, h3⟩ : ∃ q, inB f 0 o = q := ⟨_, rfl⟩
    rw [h1, h2, h3] at hh
    have H1 := Lib.hid h1
    have H2 := Lib.hid h2
    have H3 := Lib.hid h3
    clear h1 h2 h3 h
    cases q1 <;> cases q2 <;> cases q3
    all_goals first
      | exact absurd ⟨rfl, rfl, rfl⟩ hh
      | (clear hh
         go_enter Try.func29, Try.ntmps29
         go_wp2_with (go_at_call 34; refine (in_is _ _ _ _ (by first | exact H1.out | exact H2.out | exact H3.out)).mono ?_; rintro e w1 ⟨rfl, rfl⟩)
         refine bodyPost_ret (v := oddsV (0, 0, 7)) (by simp [results, Try.results29, go_sem]) rfl ⟨by rw [He.out], ?_⟩
         exact Hst.out.2.2.2.2)

set_option maxRecDepth 100000 in
set_option maxHeartbeats 1600000 in
theorem belowRef_good (N o f dof din : Int) (w : World) (h1 : inB N 1 40 = true) (h2 : inB o 0 N = true) (h3 : inB f 0 o = true) (h4 : oddsB dof din = true) :
    Calls Try.prog 29 #[.int .i64 N, .int .i64 o, .int .i64 f, planV dof din] w fun e w' => e = .returned (oddsV (belowR N o f dof din)) ∧ Below w.heap.size w w' := by
  have Hst := Lib.hid (BeA.start w dof din)
  obtain ⟨g1, g2⟩ := inB_true h1
  obtain ⟨g3, g4⟩ := inB_true h2
  obtain ⟨g5, g6⟩ := inB_true h3
  obtain ⟨g7, g8, g9, g10⟩ := oddsB_true h4
  obtain ⟨n, rfl⟩ := Int.eq_ofNat_of_zero_le (show 0 ≤ N by omega)
  have He : Hid (belowR n o f dof din = match outTo n o f dof din (n + 1) with | [] => (0, 0, 4) | x :: l => ((x : Int), greatestL x ((x :: l).map fun n : Nat => (n : Int)), 0)) := by
    show _ = _; unfold belowR; rw [if_pos ⟨h1, h2, h3⟩, if_pos h4, Int.toNat_natCast]; rfl
  have H1 := Lib.hid h1
  have H2 := Lib.hid h2
  have H3 := Lib.hid h3
  have H4 := Lib.hid h4
  clear h1 h2 h3 h4
  have hC0 := cnt_nonneg n o
  have hC1 := cnt_le n o g2
  go_enter Try.func29, Try.ntmps29
  go_wp2_with (go_at_call 34; refine (in_is _ _ _ _ (by first | exact H1.out | exact H2.out | exact H3.out)).mono ?_; rintro e w1 ⟨rfl, rfl⟩)
  refine (oddsOk_is _ _ _ H4.out).mono ?_
  rintro e w1 ⟨rfl, hB1⟩
  have hA := Hst.out.below hB1
  have hA2 := hA.below (below_alloc (.cells #[.int .i64 0, .int .i64 0] 47))
  have HS : Hid (BeS w dof din w1.heap.size (0, 0) (w1.alloc (.cells #[.int .i64 0, .int .i64 0] 47))) := ⟨hA2, by unfold TwoAt; go_simp, by go_simp, by go_simp, hA.lt⟩
  clear hB1 hA hA2 Hst
  go_wp2_with (go_at_call 69; refine (choices_any _ _ _ (by omega) (by omega)).mono ?_; rintro e w2 ⟨rfl, rfl⟩)
  generalize hS1 : w1.heap.size = S at *
  clear hS1
  go_loopw [12, 13] (fun q i wr => ∃ k : Nat, k ≤ n + 1 ∧ i = .int .i64 k ∧ q = .bool (outTo n o f dof din k).isEmpty ∧ BeS w dof din S (spanTo (outTo n o f dof din k)) wr) (fun _ i _ => (n + 1 - (intOf i).toNat))
  case atStart => exact ⟨0, by omega, rfl, rfl, HS.out⟩
  case round =>
    obtain ⟨k, hk, rfl, rfl, hS⟩ := hrel
    clear HS
    obtain ⟨sp, hsp⟩ : ∃ sp, spanTo (outTo n o f dof din k) = sp := ⟨_, rfl⟩
    rw [hsp] at hS
    have HSr := Lib.hid hS
    obtain ⟨⟨⟨d0, d1⟩, ⟨a0, a1⟩, b0, b1, _⟩, ⟨s0, s1⟩, f0, f1, hS0⟩ := hS
    have hSl := HSr.out.lt
    have hAl := HSr.out.1.lt
    by_cases hlt : (k : Int) ≤ n
    · have HFc1 : Hid (Calls Try.prog 68 #[.int .i64 n, .int .i64 k, .int .i64 o, .int .i64 0, .int .i64 f] wr fun e w' => e = .returned (.int .i64 (fnd n k o 0 f)) ∧ wr = w') := foundR_any n k o 0 f wr (by omega) (by omega) (by omega) (by omega) (by omega) (by omega) (by omega) (by omega)
      have HFc2 : Hid (Calls Try.prog 68 #[.int .i64 n, .int .i64 k, .int .i64 o, .int .i64 f, .int .i64 o] wr fun e w' => e = .returned (.int .i64 (fnd n k o f o)) ∧ wr = w') := foundR_any n k o f o wr (by omega) (by omega) (by omega) (by omega) (by omega) (by omega) (by omega) (by omega)
      have hF0 := fnd_nonneg n k o 0 f
      have hF1 := fnd_le n k o 0 f (by omega) (by omega) g2 (by omega) (by omega)
      have hG0 := fnd_nonneg n k o f o
      have hG1 := fnd_le n k o f o (by omega) (by omega) g2 (by omega) (by omega)
      have hcan : canB n o f dof din k = (decide (dof * cnt n o < fnd n k o 0 f * din) && decide (dof * cnt n o < fnd n k o f o * din)) := by
        unfold canB
        rw [show decide (0 < fnd n k o 0 f * din - dof * cnt n o) = decide (dof * cnt n o < fnd n k o 0 f * din) from decide_eq_decide.2 (by omega), show decide (0 < fnd n k o f o * din - dof * cnt n o) = decide (dof * cnt n o < fnd n k o f o * din) from decide_eq_decide.2 (by omega)]
      obtain ⟨F, hF⟩ : ∃ F, fnd n k o 0 f = F := ⟨_, rfl⟩
      obtain ⟨G, hG⟩ : ∃ G, fnd n k o f o = G := ⟨_, rfl⟩
      obtain ⟨C, hC⟩ : ∃ C, cnt n o = C := ⟨_, rfl⟩
      rw [hF] at HFc1 hcan hF0 hF1
      rw [hG] at HFc2 hcan hG0 hG1
      rw [hC] at hcan hC0 hC1 ⊢
      obtain ⟨x1, hx1⟩ : ∃ x, F * din = x := ⟨_, rfl⟩
      obtain ⟨x2, hx2⟩ : ∃ x, dof * C = x := ⟨_, rfl⟩
      obtain ⟨x3, hx3⟩ : ∃ x, G * din = x := ⟨_, rfl⟩
      rw [hx1, hx2, hx3] at hcan
      have Hcan := Lib.hid hcan
      have m1 : IntKind.i64.wrap (F * din) = x1 := by
        have := Int.mul_nonneg hF0 (show 0 ≤ din by omega)
        have := Int.mul_le_mul hF1 g8 (by omega) (by omega)
        rw [← hx1]; exact IntWalk.i64_in _ (by omega)
      have m2 : IntKind.i64.wrap (dof * C) = x2 := by
        have := Int.mul_nonneg g9 hC0
        have := Int.mul_le_mul (show dof ≤ 1000 by omega) hC1 hC0 (by omega)
        rw [← hx2]; exact IntWalk.i64_in _ (by omega)
      have m3 : IntKind.i64.wrap (G * din) = x3 := by
        have := Int.mul_nonneg hG0 (show 0 ≤ din by omega)
        have := Int.mul_le_mul hG1 g8 (by omega) (by omega)
        rw [← hx3]; exact IntWalk.i64_in _ (by omega)
      have Hno : Hid (canB n o f dof din k = false → (outTo n o f dof din (k + 1)).isEmpty = (outTo n o f dof din k).isEmpty ∧ BeS w dof din S (spanTo (outTo n o f dof din (k + 1))) wr) := fun hc => by
        rw [outTo_succ, hc, if_neg (by simp), List.append_nil, hsp]; exact ⟨rfl, HSr.out⟩
      have Hyes : Hid (canB n o f dof din k = true → (outTo n o f dof din (k + 1)).isEmpty = false ∧ spanTo (outTo n o f dof din (k + 1)) = widen sp k (outTo n o f dof din k).isEmpty) := fun hc => by
        rw [outTo_succ, hc, if_pos rfl, spanTo_snoc _ _ (fun x hx => outTo_lt hx), hsp]; exact ⟨by simp, rfl⟩
      clear hF hG hC hx1 hx2 hx3 hcan hF0 hF1 hG0 hG1 hC0 hC1 hsp
      generalize (outTo n o f dof din k).isEmpty = q at Hno Hyes ⊢
      by_cases h1 : x2 < x1
      · have e1 : decide (x2 < x1) = true := by simpa using h1
        by_cases h2 : x2 < x3
        · have e2 : decide (x2 < x3) = true := by simpa using h2
          have Hy := Lib.hid (Hyes.out (by rw [Hcan.out, e1, e2]; rfl))
          clear Hno Hyes Hcan
          go_wp2_with fail
          refine HFc1.out.mono ?_
          rintro e w3 ⟨rfl, rfl⟩
          go_wp2_with fail
          refine HFc2.out.mono ?_
          rintro e w3 ⟨rfl, rfl⟩
          go_wp2_with fail
          refine (wider_is sp.1 sp.2 k q _).mono ?_
          rintro e w4 ⟨rfl, hB4⟩
          have HS4 := Lib.hid (HSr.out.below hB4)
          obtain ⟨_, ⟨t0, t1⟩, u0, u1, _⟩ := HS4.out
          have hl4 := HS4.out.lt
          have hset := Lib.hid (HS4.out.set (widen sp k q))
          clear hB4
          go_wp2_with fail
          go_roundw
          case rel => exact ⟨k + 1, by omega, by go_num, by rw [Hy.out.1], by rw [Hy.out.2]; exact hset.out⟩
          case measure => simp [intOf]; omega
        · have e2 : decide (x2 < x3) = false := by simpa using h2
          have Hn := Lib.hid (Hno.out (by rw [Hcan.out, e1, e2]; rfl))
          clear Hno Hyes Hcan
          go_wp2_with fail
          refine HFc1.out.mono ?_
          rintro e w3 ⟨rfl, rfl⟩
          go_wp2_with fail
          refine HFc2.out.mono ?_
          rintro e w3 ⟨rfl, rfl⟩
          go_wp2_with fail
          go_roundw
          case rel => exact ⟨k + 1, by omega, by go_num, by rw [Hn.out.1], Hn.out.2⟩
          case measure => simp [intOf]; omega
      · have e1 : decide (x2 < x1) = false := by simpa using h1
        have Hn := Lib.hid (Hno.out (by rw [Hcan.out, e1]; rfl))
        clear Hno Hyes Hcan
        go_wp2_with fail
        refine HFc1.out.mono ?_
        rintro e w3 ⟨rfl, rfl⟩
        go_wp2_with fail
        refine HFc2.out.mono ?_
        rintro e w3 ⟨rfl, rfl⟩
        go_wp2_with fail
        go_roundw
        case rel => exact ⟨k + 1, by omega, by go_num, by rw [Hn.out.1], Hn.out.2⟩
        case measure => simp [intOf]; omega
    · obtain rfl : k = n + 1 := by omega
      cases hout : outTo n o f dof din (n + 1) with
      | nil =>
        have Hf : Hid (belowR n o f dof din = (0, 0, 4)) := by show _ = _; rw [He.out, hout]
        have e0 : sp = (0, 0) := by rw [← hsp, hout]; rfl
        subst e0
        have HS4 := Lib.hid (HSr.out.1.out (.int .i64 0) (.int .i64 0))
        clear hsp hout
        go_wp2_with fail
        refine bodyPost_ret (v := oddsV (0, 0, 4)) (by simp [results, Try.results29, go_sem, a0, a1]) rfl ⟨by rw [Hf.out], ?_⟩
        exact HS4.out
      | cons x l =>
        have Hf : Hid (belowR n o f dof din = (sp.1, sp.2, 0)) := by show _ = _; rw [He.out, hout, ← hsp, hout]; rfl
        have HS4 := Lib.hid (HSr.out.1.out (.int .i64 sp.1) (.int .i64 sp.2))
        clear hsp hout
        go_wp2_with fail
        refine bodyPost_ret (v := oddsV (sp.1, sp.2, 0)) (by simp [results, Try.results29, go_sem, a0, a1]) rfl ⟨by rw [Hf.out], ?_⟩
        exact HS4.out

theorem belowRef_any (N o f dof din : Int) (w : World) :
    Calls Try.prog 29 #[.int .i64 N, .int .i64 o, .int .i64 f, planV dof din] w fun e w' => e = .returned (oddsV (belowR N o f dof din)) ∧ Below w.heap.size w w' := by
  by_cases h : inB N 1 40 = true ∧ inB o 0 N = true ∧ inB f 0 o = true ∧ oddsB dof din = true
  · exact belowRef_good N o f dof din w h.1 h.2.1 h.2.2.1 h.2.2.2
  · exact belowRef_bad N o f dof din w h

theorem belowRef_ex {z : Int × Int × Int} (N o f dof din : Int) (w : World) (h : belowR N o f dof din = z) :
    Calls Try.prog 29 #[.int .i64 N, .int .i64 o, .int .i64 f, planV dof din] w fun e w' => e = .returned (oddsV z) ∧ Below w.heap.size w w' := by
  rw [← h]; exact belowRef_any N o f dof din w

end Go.Proofs.Ythpllmefbhjmmaa
