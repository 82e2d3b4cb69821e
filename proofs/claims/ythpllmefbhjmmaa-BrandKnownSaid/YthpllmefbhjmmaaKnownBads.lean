/-
  'BrandKnown', walked: what is said of single brands, plans and rules.
-/
import Derived.Test.YthpllmefbhjmmaaKnownBegin
import Derived.Deep.DeepCutAuto
import Derived.Lib.QuietBelow
import Derived.BigQuiet
import Derived.Deep.RegionHeld3
import Derived.Test.YthpllmefbhjmmaaOddsLaw
namespace Go.Proofs.Ythpllmefbhjmmaa
open Go.RowKit Go.Maps Plain
attribute [local go_sem] Oper.semAt_some

set_option maxRecDepth 100000 in
set_option maxHeartbeats 40000000 in
theorem law18 (w : World) : Calls Try.prog 18 #[] w fun e w' => e = .returned (.bool true) ∧ Below w.heap.size w w' := by
  go_enter Try.func18, Try.ntmps18
  go_wp2_with fail
  refine wp_region_free (Inv := KnInv w) (by kernel_rfl) (by kernel_rfl) ⟨fun _ => undef, rfl, rfl, (Below.refl _ _).drew, fun j hj => by rw [getD_replicate_false] at hj; cases hj⟩ ?_ ?_
  · rintro i listed a w1 hi hsz hdeps ⟨v, rfl, hs16, hI⟩
    have Hd := Lib.hid hdeps
    have HI := Lib.hid hI
    clear hdeps hI
    have hi' : i = 0 ∨ i = 1 ∨ i = 2 ∨ i = 3 ∨ i = 4 ∨ i = 5 ∨ i = 6 ∨ i = 7 ∨ i = 8 ∨ i = 9 ∨ i = 10 ∨ i = 11 ∨ i = 12 ∨ i = 13 ∨ i = 14 ∨ i = 15 := by
      have : i < 16 := hi
      omega
    have hss : (listed.setIfInBounds i true).size = 16 := by simpa using hs16
    clear hi
    rcases hi' with rfl | rfl | rfl | rfl | rfl | rfl | rfl | rfl | rfl | rfl | rfl | rfl | rfl | rfl | rfl | rfl
    · refine wpOp_at rfl rfl ?_
      have hmk := mk22 w1
      go_simp
      exact ⟨upd v 0 _, put0 v _, hss, HI.out.step (below_alloc _) (bad1_new w1)⟩
    · refine wpOp_at rfl rfl ?_
      go_simp
      refine (to_is 5 4 w1).mono ?_
      rintro e w2 ⟨rfl, hB⟩
      exact ⟨upd v 1 _, put1 v _, hss, HI.out.step hB rfl⟩
    · refine wpOp_at rfl rfl ?_
      have h1 : v 1 = .agg #[.int .i64 5, .int .i64 4] := HI.out.2 1 (Hd.out _ rfl ⟨1, .data⟩ (by simp) rfl)
      have g1 := get1 v
      rw [h1] at g1
      go_simp
      exact ⟨upd v 2 _, put2 v _, hss, HI.out.same rfl⟩
    · refine wpOp_at rfl rfl ?_
      have h2 : v 2 = .agg #[.int .i64 5, .int .i64 4, .int .i64 0, .int .i64 0, .int .i64 0, .int .i64 0, .int .i64 0, .int .i64 0] := HI.out.2 2 (Hd.out _ rfl ⟨2, .data⟩ (by simp) rfl)
      have g2 := get2 v
      rw [h2] at g2
      go_simp
      exact ⟨upd v 3 _, put3 v _, hss, HI.out.step (below_alloc _) (mark1_new w1 ⟨⟨5, 4⟩, ⟨0, 0⟩, ⟨0, 0⟩, ⟨0, 0⟩⟩)⟩
    · refine wpOp_at rfl rfl ?_
      go_simp
      exact ⟨upd v 4 _, put4 v _, hss, HI.out.same rfl⟩
    · refine wpOp_at rfl rfl ?_
      go_simp
      refine (to_is 0 1001 w1).mono ?_
      rintro e w2 ⟨rfl, hB⟩
      exact ⟨upd v 5 _, put5 v _, hss, HI.out.step hB rfl⟩
    · refine wpOp_at rfl rfl ?_
      have h4 : v 4 = .agg #[.int .i64 0, .int .i64 0] := HI.out.2 4 (Hd.out _ rfl ⟨4, .data⟩ (by simp) rfl)
      have g4 := get4 v
      rw [h4] at g4
      have h5 : v 5 = .agg #[.int .i64 0, .int .i64 1001] := HI.out.2 5 (Hd.out _ rfl ⟨5, .data⟩ (by simp) rfl)
      have g5 := get5 v
      rw [h5] at g5
      go_simp
      exact ⟨upd v 6 _, put6 v _, hss, HI.out.same rfl⟩
    · refine wpOp_at rfl rfl ?_
      have h6 : v 6 = .agg #[.int .i64 0, .int .i64 0, .int .i64 0, .int .i64 1001, .int .i64 0, .int .i64 0, .int .i64 0, .int .i64 0] := HI.out.2 6 (Hd.out _ rfl ⟨6, .data⟩ (by simp) rfl)
      have g6 := get6 v
      rw [h6] at g6
      go_simp
      exact ⟨upd v 7 _, put7 v _, hss, HI.out.step (below_alloc _) (mark1_new w1 ⟨⟨0, 0⟩, ⟨0, 1001⟩, ⟨0, 0⟩, ⟨0, 0⟩⟩)⟩
    · refine wpOp_at rfl rfl ?_
      go_simp
      exact ⟨upd v 8 _, put8 v _, hss, HI.out.same rfl⟩
    · refine wpOp_at rfl rfl ?_
      go_simp
      exact ⟨upd v 9 _, put9 v _, hss, HI.out.same rfl⟩
    · refine wpOp_at rfl rfl ?_
      go_simp
      exact ⟨upd v 10 _, put10 v _, hss, HI.out.same rfl⟩
    · refine wpOp_at rfl rfl ?_
      go_simp
      refine (to_is (-1) 0 w1).mono ?_
      rintro e w2 ⟨rfl, hB⟩
      exact ⟨upd v 11 _, put11 v _, hss, HI.out.step hB rfl⟩
    · refine wpOp_at rfl rfl ?_
      have h8 : v 8 = .agg #[.int .i64 0, .int .i64 0] := HI.out.2 8 (Hd.out _ rfl ⟨8, .data⟩ (by simp) rfl)
      have g8 := get8 v
      rw [h8] at g8
      have h9 : v 9 = .agg #[.int .i64 0, .int .i64 0] := HI.out.2 9 (Hd.out _ rfl ⟨9, .data⟩ (by simp) rfl)
      have g9 := get9 v
      rw [h9] at g9
      have h10 : v 10 = .agg #[.int .i64 0, .int .i64 0] := HI.out.2 10 (Hd.out _ rfl ⟨10, .data⟩ (by simp) rfl)
      have g10 := get10 v
      rw [h10] at g10
      have h11 : v 11 = .agg #[.int .i64 (-1), .int .i64 0] := HI.out.2 11 (Hd.out _ rfl ⟨11, .data⟩ (by simp) rfl)
      have g11 := get11 v
      rw [h11] at g11
      go_simp
      exact ⟨upd v 12 _, put12 v _, hss, HI.out.same rfl⟩
    · refine wpOp_at rfl rfl ?_
      have h12 : v 12 = .agg #[.int .i64 0, .int .i64 0, .int .i64 0, .int .i64 0, .int .i64 0, .int .i64 0, .int .i64 (-1), .int .i64 0] := HI.out.2 12 (Hd.out _ rfl ⟨12, .data⟩ (by simp) rfl)
      have g12 := get12 v
      rw [h12] at g12
      go_simp
      exact ⟨upd v 13 _, put13 v _, hss, HI.out.step (below_alloc _) (mark1_new w1 ⟨⟨0, 0⟩, ⟨0, 0⟩, ⟨0, 0⟩, ⟨-1, 0⟩⟩)⟩
    · refine wpOp_at rfl rfl ?_
      have h0 : Gd 0 (v 0) w1 := HI.out.2 0 (Hd.out _ rfl ⟨0, .data⟩ (by simp) rfl)
      have g0 := get0 v
      have h3 : Gd 3 (v 3) w1 := HI.out.2 3 (Hd.out _ rfl ⟨3, .data⟩ (by simp) rfl)
      have g3 := get3 v
      have h7 : Gd 7 (v 7) w1 := HI.out.2 7 (Hd.out _ rfl ⟨7, .data⟩ (by simp) rfl)
      have g7 := get7 v
      have h13 : Gd 13 (v 13) w1 := HI.out.2 13 (Hd.out _ rfl ⟨13, .data⟩ (by simp) rfl)
      have g13 := get13 v
      obtain ⟨a0, c0, e0, m0⟩ : MarksAt w1 (v 0) bad1 := h0
      rw [e0] at g0
      obtain ⟨a3, c3, e3, m3⟩ : MarksAt w1 (v 3) bad2 := h3
      rw [e3] at g3
      obtain ⟨a7, c7, e7, m7⟩ : MarksAt w1 (v 7) bad3 := h7
      rw [e7] at g7
      obtain ⟨a13, c13, e13, m13⟩ : MarksAt w1 (v 13) bad4 := h13
      rw [e13] at g13
      have hb := bads_new (W := w1) (u1 := .slice a0 bad1.length c0) (u2 := .slice a3 bad2.length c3) (u3 := .slice a7 bad3.length c7) (u4 := .slice a13 bad4.length c13) ⟨a0, c0, rfl, m0⟩ ⟨a3, c3, rfl, m3⟩ ⟨a7, c7, rfl, m7⟩ ⟨a13, c13, rfl, m13⟩
      go_simp
      exact ⟨upd v 14 _, put14 v _, hss, HI.out.step (below_alloc _) hb⟩
    · refine wpOp_at rfl rfl ?_
      have h14 : Gd 14 (v 14) w1 := HI.out.2 14 (Hd.out _ rfl ⟨14, .data⟩ (by simp) rfl)
      have g14 := get14 v
      go_simp
      exact ⟨upd v 15 _, put15 v _, hss, HI.out.same h14⟩
  · rintro listed a w1 hall ⟨v, rfl, hs16, hI⟩
    have h15 := hI.2 15 (getD_true_false (by omega) (hall 15 (by show 15 < 16; omega)))
    have HB1 := Lib.hid hI.1
    have H15 : Hid (BadsAt (v 15) w1) := h15
    clear h15 hI hall
    simp only [mkA]
    generalize v 0 = v0, v 1 = v1, v 2 = v2, v 3 = v3, v 4 = v4, v 5 = v5, v 6 = v6, v 7 = v7, v 8 = v8, v 9 = v9, v 10 = v10, v 11 = v11, v 12 = v12, v 13 = v13, v 14 = v14, v 15 = v15 at *
    obtain ⟨gB, rfl, hbad⟩ := BadsAt.at H15.out
    have Hbad := Lib.hid hbad
    clear hbad H15
    go_wp2_with fail
    go_loopw [2] (fun i wr => ∃ k : Nat, k ≤ 5 ∧ i = .int .i64 k ∧ Below w1.heap.size w1 wr) (fun i _ => 5 - (intOf i).toNat)
    case atStart => exact ⟨0, by omega, rfl, Below.refl _ _⟩
    case round =>
      obtain ⟨k, hk, rfl, hB⟩ := hrel
      by_cases hlt : k < 5
      · as_aux_lemma =>
        have hk1 : (k : Int) < 5 := by omega
        have hk0 : (0 : Int) ≤ (k : Int) := by omega
        obtain ⟨u, B, c0, hm, hbb, hl⟩ := Hbad.out k hlt
        have c1 := (World.cell?_of_block (a := ⟨gB, k, none⟩) (hB.block _ (World.block_lt_of_cell? w1 _ c0))).trans c0
        have Hm := Lib.hid (hm.below hB)
        have Hg := Lib.hid (gradeR_bad hbb ⟨-1, 0, 0, 0⟩)
        have Hp := Lib.hid (promiseR_bad hbb 0 ⟨0, 0, 0, 0, 0, 0⟩ [])
        have HB := Lib.hid hB
        have hgl := World.block_lt_of_cell? wr _ c1
        clear hm hbb hB c0
        go_wp2_with fail
        refine (grade_ex u B ⟨-1, 0, 0, 0⟩ _ Hm.out (by omega) Hg.out).mono ?_
        rintro e w2 ⟨rfl, hB2⟩
        have Hm2 := Lib.hid (Hm.out.below hB2)
        have HB2 := Lib.hid (below_trans HB.out hB2)
        have c2 := (World.cell?_of_block (a := ⟨gB, k, none⟩) (hB2.block _ hgl)).trans c1
        clear hB2 c1 hgl
        go_wp2_with fail
        refine (promise_ex u (.slice none 0 0) B [] 0 ⟨0, 0, 0, 0, 0, 0⟩ _ Hm2.out (by omega) ⟨none, 0, rfl, fun i x hi => by simp at hi⟩ (by simp) Hp.out).mono ?_
        rintro e w3 ⟨rfl, hB3⟩
        have HB3 := Lib.hid (below_trans HB2.out hB3)
        clear hB3 c2
        go_wp2_with fail
        go_roundw
        case rel => exact ⟨k + 1, by omega, by go_num, HB3.out⟩
        case measure => simp [intOf]; omega
      · obtain rfl : k = 5 := by omega
        have HB2 := Lib.hid (below_trans HB1.out hB)
        clear hB Hbad HB1
        have hBn := HB2.out
        clear HB2
        go_upto_region 10 with (go_at_call 50; refine (rule_is _).mono ?_; rintro e w2 ⟨rfl, hBk⟩; replace hBn := below_trans hBn hBk; clear hBk)
        go_upto_region 15 with fail
        have hBo := below_more hBn rulesO
        have f37 := rules_free w2 37
        have f38 := rules_free w2 38
        have r37 := rules_cell w2 37 rfl
        have r38 := rules_cell w2 38 rfl
        have HRU := Lib.hid (fun (w3 : World) (h : Below (w2.alloc rulesO).heap.size (w2.alloc rulesO) w3) => rules_final h)
        have hsz : w2.heap.size < (w2.alloc rulesO).heap.size := by simp
        obtain ⟨W2, hW2⟩ : ∃ W, w2.alloc rulesO = W := ⟨_, rfl⟩
        rw [hW2] at hBo f37 f38 r37 r38 HRU hsz ⊢
        have hRl := hBn.size
        clear hW2 hBn
        generalize w2.heap.size = R at *
        go_wp2_with fail
        refine (of_is _ _ _).mono ?_
        rintro e w3 ⟨rfl, hB3⟩
        have hru := HRU.out w3 hB3
        have s37 := (World.cell?_of_block (a := ⟨R, 37, none⟩) (hB3.block _ hsz)).trans r37
        have s38 := (World.cell?_of_block (a := ⟨R, 38, none⟩) (hB3.block _ hsz)).trans r38
        have g37 := (World.frozen?_of_block (a := ⟨R, 37, none⟩) (hB3.block _ hsz)).trans f37
        have g38 := (World.frozen?_of_block (a := ⟨R, 38, none⟩) (hB3.block _ hsz)).trans f38
        have HB4 := Lib.hid (((below_trans hBo hB3).setCell (p := ⟨R, 37, none⟩) hRl (.int .i64 5)).setCell (p := ⟨R, 38, none⟩) hRl (.int .i64 1001))
        have Hru := Lib.hid hru
        clear hru hB3 hBo f37 f38 r37 r38 HRU hsz
        go_upto_region 16 with fail
        obtain ⟨w4, hw4⟩ : ∃ W, (w3.setCell ⟨R, 37, none⟩ (.int .i64 5)).setCell ⟨R, 38, none⟩ (.int .i64 1001) = W := ⟨_, rfl⟩
        rw [hw4] at HB4 Hru ⊢
        clear hw4 s37 s38 g37 g38 hRl
        go_wp2_with fail
        go_loopw [9] (fun i wr => ∃ k : Nat, k ≤ 7 ∧ i = .int .i64 k ∧ Below w4.heap.size w4 wr) (fun i _ => 7 - (intOf i).toNat)
        case atStart => exact ⟨0, by omega, rfl, Below.refl _ _⟩
        case round =>
          obtain ⟨k, hk, rfl, hB⟩ := hrel
          by_cases hlt : k < 7
          · as_aux_lemma =>
            have hk1 : (k : Int) < 7 := by omega
            have hk0 : (0 : Int) ≤ (k : Int) := by omega
            obtain ⟨r, hr0, hbr⟩ := Hru.out k hlt
            obtain ⟨g, po, pi, b, fo, fi⟩ := r
            have hr := hr0.below hB
            have Hr := Lib.hid hr
            have HB := Lib.hid hB
            have H10 := Lib.hid (show inB 10 1 40 = true by decide)
            have Hk1 := Lib.hid (keepsR_bad H10.out hbr (-1) 0)
            have Hk2 := Lib.hid (fewestR_bad H10.out hbr)
            have Hk3 := Lib.hid (promiseR_rule (ms := chMarks) (by decide) H10.out hbr (List.replicate 11 ⟨0, 0, 0, 0⟩))
            obtain ⟨y0, y1, y2, y3, y4, y5⟩ := hr
            replace y0 := cell_regrown y0
            replace y1 := cell_regrown y1
            replace y2 := cell_regrown y2
            replace y3 := cell_regrown y3
            replace y4 := cell_regrown y4
            replace y5 := cell_regrown y5
            have cO : ∀ d os, Calls Try.prog 44 #[.int .i64 (-1), .int .i64 0] (Sort.grow (redrawn wr d) os) fun e w'' => e = .returned (planV (-1) 0) ∧ ∃ p : Regrown, w'' = Sort.grow (redrawn wr p.d) p.os := fun d os => Calls.regrown_of (opens_is _ _ _)
            have cK : ∀ d os, Calls Try.prog 24 #[.int .i64 10, .agg #[.int .i64 g, .int .i64 po, .int .i64 pi, .int .i64 b, .int .i64 fo, .int .i64 fi], planV (-1) 0] (Sort.grow (redrawn wr d) os) fun e w'' => e = .returned (keepsV (false, 71)) ∧ ∃ p : Regrown, w'' = Sort.grow (redrawn wr p.d) p.os := fun d os => Calls.regrown_of (keeps_ex 10 (-1) 0 ⟨g, po, pi, b, fo, fi⟩ _ Hk1.out)
            clear hr0 hbr hB
            go_upto_region 19 with fail
            refine wp_region_quiet_below (by kernel_rfl) (by kernel_rfl) ?_
            repeat (first | go_big_quiet_step (first | with_reducible exact cO _ _ | with_reducible exact cK _ _) | quiet_step (first | with_reducible exact cO _ _ | with_reducible exact cK _ _))
            refine wpQuiet_nil ?_
            intro _ hw'
            obtain ⟨⟨dq, osq⟩, hw''⟩ := hw'
            subst hw''
            have hB5 := below_regrown wr dq osq
            obtain ⟨w5, hw5⟩ : ∃ W, Sort.grow (redrawn wr dq) osq = W := ⟨_, rfl⟩
            rw [hw5] at hB5 ⊢
            have Hr5 := Lib.hid (Hr.out.below hB5)
            have HB5 := Lib.hid (below_trans HB.out hB5)
            clear hw5 hB5 cO cK y0 y1 y2 y3 y4 y5 Hr HB Hk1
            obtain ⟨y0, y1, y2, y3, y4, y5⟩ := Hr5.out
            go_wp2_with fail
            refine (fewest_ex 10 ⟨g, po, pi, b, fo, fi⟩ _ Hk2.out).mono ?_
            rintro e w6 ⟨rfl, hB6⟩
            have hB7 := below_more hB6 (.cells #[.int .i64 0, .int .i64 0] 32)
            go_upto_region 21 with fail
            obtain ⟨W6, hW6⟩ : ∃ W, w6.alloc (.cells #[.int .i64 0, .int .i64 0] 32) = W := ⟨_, rfl⟩
            rw [hW6] at hB7 ⊢
            have Hr6 := Lib.hid (Hr5.out.below hB7)
            have HB6 := Lib.hid (below_trans HB5.out hB7)
            clear hB6 hB7 y0 y1 y2 y3 y4 y5 Hr5 HB5 Hk2
            have hmk := mk58
            clear hW6
            have HKQ := Lib.hid (KQ.of Hr6.out (Below.refl _ W6))
            go_region_held3 (fun w' => w'.cell? ⟨R, k * 6, none⟩ = some (.int .i64 g) ∧ w'.cell? ⟨R, k * 6 + 1, none⟩ = some (.int .i64 po) ∧ w'.cell? ⟨R, k * 6 + 2, none⟩ = some (.int .i64 pi) ∧ w'.cell? ⟨R, k * 6 + 3, none⟩ = some (.int .i64 b) ∧ w'.cell? ⟨R, k * 6 + 4, none⟩ = some (.int .i64 fo) ∧ w'.cell? ⟨R, k * 6 + 5, none⟩ = some (.int .i64 fi) ∧ Below W6.heap.size W6 w')
              (first
                | with_reducible exact HKQ.out.drew
                | with_reducible exact KQ.drew (KQ.below Hr6.out HKQ.out (below_alloc _))
                | with_reducible exact KQ.below Hr6.out (by assumption) (below_alloc _)
                | with_reducible exact KQ.below Hr6.out (by assumption) hBp
                | with_reducible exact KQ.below Hr6.out (by assumption) hBq)
              (first
                | (go_at_call 51; refine (brands_is _).mono ?_; rintro e wq ⟨vq, rfl, hMq, hBq⟩)
                | (go_at_call 37
                   refine (promise_ex _ _ chMarks (List.replicate 11 ⟨0, 0, 0, 0⟩) 10 ⟨g, po, pi, b, fo, fi⟩ _ ?_ (by decide) ?_ (by decide) Hk3.out).mono ?_
                   · first | exact hMq | exact hMq.below (below_alloc _)
                   · first | exact bar11_new _ | exact BrsAt.below (w := (W6.alloc (.cells (Array.replicate 44 (.int .i64 0)) 24)).drew) (bar11_new W6) hBq
                   rintro e wp ⟨rfl, hBp⟩))
            all_goals
              have hS : KQ W6 R (k * 6) ⟨g, po, pi, b, fo, fi⟩ wp := by assumption
              have HBf := Lib.hid (below_trans HB6.out hS.2.2.2.2.2.2)
              clear hS hBp hBq hMq hmk
              go_wp2_with fail
              go_roundw
              case rel => exact ⟨k + 1, by omega, by go_num, HBf.out⟩
              case measure => simp [intOf]; omega
          · obtain rfl : k = 7 := by omega
            have hBn := below_trans HB4.out hB
            clear hB Hru HB4
            go_wp2_with fail
            refine (brands_is _).mono ?_
            rintro e wk0 ⟨vq0, rfl, hMq, hBk⟩
            replace hBn := below_trans hBn hBk
            clear hBk
            go_wp2_with fail
            refine (grade_ex _ chMarks ⟨0, 0, 0, 1001⟩ _ hMq (by decide) (z := (0, 73)) (by decide +kernel)).mono ?_
            rintro e wk1 ⟨rfl, hBk⟩
            replace hBn := below_trans hBn hBk
            clear hBk
            clear hMq
            go_wp2_with fail
            refine (opens_is (-1) 0 _).mono ?_
            rintro e wk2 ⟨rfl, hBk⟩
            replace hBn := below_trans hBn hBk
            clear hBk
            go_wp2_with fail
            refine (odds_ex 0 0 (-1) 0 _ (z := (0, 0, 7)) (by decide +kernel)).mono ?_
            rintro e wk3 ⟨rfl, hBk⟩
            replace hBn := below_trans hBn hBk
            clear hBk
            go_wp2_with fail
            refine (opens_is 0 0 _).mono ?_
            rintro e wk4 ⟨rfl, hBk⟩
            replace hBn := below_trans (below_more hBn (.cells #[.int .i64 0, .int .i64 0] 34)) hBk
            clear hBk
            go_wp2_with fail
            refine (odds_ex 41 0 0 0 _ (z := (0, 0, 7)) (by decide +kernel)).mono ?_
            rintro e wk5 ⟨rfl, hBk⟩
            replace hBn := below_trans hBn hBk
            clear hBk
            go_wp2_with fail
            refine (opens_is 0 0 _).mono ?_
            rintro e wk6 ⟨rfl, hBk⟩
            replace hBn := below_trans (below_more hBn (.cells #[.int .i64 0, .int .i64 0] 34)) hBk
            clear hBk
            go_wp2_with fail
            refine (odds_ex 10 11 0 0 _ (z := (0, 0, 7)) (by decide +kernel)).mono ?_
            rintro e wk7 ⟨rfl, hBk⟩
            replace hBn := below_trans hBn hBk
            clear hBk
            go_wp2_with fail
            refine (opens_is 11 0 _).mono ?_
            rintro e wk8 ⟨rfl, hBk⟩
            replace hBn := below_trans (below_more hBn (.cells #[.int .i64 0, .int .i64 0] 34)) hBk
            clear hBk
            go_wp2_with fail
            refine (odds_ex 10 5 11 0 _ (z := (0, 0, 72)) (by decide +kernel)).mono ?_
            rintro e wk9 ⟨rfl, hBk⟩
            replace hBn := below_trans hBn hBk
            clear hBk
            go_wp2_with fail
            refine (opens_is 5 6 _).mono ?_
            rintro e wk10 ⟨rfl, hBk⟩
            replace hBn := below_trans (below_more hBn (.cells #[.int .i64 0, .int .i64 0] 34)) hBk
            clear hBk
            go_wp2_with fail
            refine (odds_ex 10 5 5 6 _ (z := (0, 0, 72)) (by decide +kernel)).mono ?_
            rintro e wk11 ⟨rfl, hBk⟩
            replace hBn := below_trans hBn hBk
            clear hBk
            go_wp2_with fail
            refine (opens_is 0 0 _).mono ?_
            rintro e wk12 ⟨rfl, hBk⟩
            replace hBn := below_trans (below_more hBn (.cells #[.int .i64 0, .int .i64 0] 34)) hBk
            clear hBk
            go_wp2_with fail
            refine (keeps_ex 0 0 0 ⟨0, 0, 0, 0, 0, 0⟩ _ (z := (false, 7)) (by decide +kernel)).mono ?_
            rintro e wk13 ⟨rfl, hBk⟩
            replace hBn := below_trans hBn hBk
            clear hBk
            go_wp2_with fail
            refine (rule_is _).mono ?_
            rintro e wk14 ⟨rfl, hBk⟩
            replace hBn := below_trans hBn hBk
            clear hBk
            go_wp2_with fail
            refine (opens_is 5 (-1) _).mono ?_
            rintro e wk15 ⟨rfl, hBk⟩
            replace hBn := below_trans hBn hBk
            clear hBk
            go_wp2_with fail
            refine (keeps_ex 10 5 (-1) chRule _ (z := (false, 72)) (by decide +kernel)).mono ?_
            rintro e wk16 ⟨rfl, hBk⟩
            replace hBn := below_trans hBn hBk
            clear hBk
            go_wp2_with fail
            refine (rule_is _).mono ?_
            rintro e wk17 ⟨rfl, hBk⟩
            replace hBn := below_trans hBn hBk
            clear hBk
            go_wp2_with fail
            refine (fewest_ex 41 chRule _ (z := (0, 0, 7)) (by decide +kernel)).mono ?_
            rintro e wk18 ⟨rfl, hBk⟩
            replace hBn := below_trans hBn hBk
            clear hBk
            go_wp2_with fail
            refine (of_is 0 0 _).mono ?_
            rintro e wk19 ⟨rfl, hBk⟩
            replace hBn := below_trans (below_more hBn (.cells #[.int .i64 0, .int .i64 0] 32)) hBk
            clear hBk
            go_wp2_with fail
            refine (below_ex 10 11 0 0 0 _ (z := (0, 0, 7)) (by decide +kernel)).mono ?_
            rintro e wk20 ⟨rfl, hBk⟩
            replace hBn := below_trans hBn hBk
            clear hBk
            go_wp2_with fail
            refine (of_is 1 10 _).mono ?_
            rintro e wk21 ⟨rfl, hBk⟩
            replace hBn := below_trans (below_more hBn (.cells #[.int .i64 0, .int .i64 0] 47)) hBk
            clear hBk
            go_wp2_with fail
            refine (below_ex 10 6 7 1 10 _ (z := (0, 0, 7)) (by decide +kernel)).mono ?_
            rintro e wk22 ⟨rfl, hBk⟩
            replace hBn := below_trans hBn hBk
            clear hBk
            go_wp2_with fail
            refine (of_is 2 1 _).mono ?_
            rintro e wk23 ⟨rfl, hBk⟩
            replace hBn := below_trans (below_more hBn (.cells #[.int .i64 0, .int .i64 0] 47)) hBk
            clear hBk
            go_wp2_with fail
            refine (below_ex 10 6 1 2 1 _ (z := (0, 0, 71)) (by decide +kernel)).mono ?_
            rintro e wk24 ⟨rfl, hBk⟩
            replace hBn := below_trans hBn hBk
            clear hBk
            go_wp2_with fail
            refine (brands_is _).mono ?_
            rintro e wk25 ⟨vq25, rfl, hMq, hBk⟩
            replace hBn := below_trans (below_more hBn (.cells #[.int .i64 0, .int .i64 0] 47)) hBk
            clear hBk
            go_wp2_with fail
            refine (promise_ex _ (.slice none 0 0) chMarks [] 0 ⟨0, 0, 0, 0, 0, 0⟩ _ hMq (by decide) ⟨none, 0, rfl, fun i x hi => by simp at hi⟩ (by decide) (z := (0, 0, 7)) (by decide +kernel)).mono ?_
            rintro e wk26 ⟨rfl, hBk⟩
            replace hBn := below_trans hBn hBk
            clear hBk
            clear hMq
            go_wp2_with fail
            refine (brands_is _).mono ?_
            rintro e wk27 ⟨vq27, rfl, hMq, hBk⟩
            replace hBn := below_trans hBn hBk
            clear hBk
            go_wp2_with fail
            refine (rule_is _).mono ?_
            rintro e wk28 ⟨rfl, hBk⟩
            replace hMq := hMq.below hBk
            replace hBn := below_trans hBn hBk
            clear hBk
            have hBar := bar_one wk28
            go_wp2_with fail
            refine (promise_ex _ _ chMarks [⟨-1, 0, 0, 0⟩] 10 chRule _ (hMq.below (below_alloc _)) (by decide) hBar (by decide) (z := (0, 0, 73)) (by decide +kernel)).mono ?_
            rintro e wk29 ⟨rfl, hBk⟩
            replace hBn := below_trans (below_more hBn (.cells #[.int .i64 (-1), .int .i64 0, .int .i64 0, .int .i64 0] 24)) hBk
            clear hBk
            clear hMq hBar
            go_wp2_with fail
            refine (brands_is _).mono ?_
            rintro e wk30 ⟨vq30, rfl, hMq, hBk⟩
            replace hBn := below_trans hBn hBk
            clear hBk
            go_wp2_with fail
            refine (rule_is _).mono ?_
            rintro e wk31 ⟨rfl, hBk⟩
            replace hMq := hMq.below hBk
            replace hBn := below_trans hBn hBk
            clear hBk
            go_wp2_with fail
            refine (opened_cap _).mono ?_
            rintro e wk32 ⟨go32, rfl, hOp, hBk⟩
            replace hMq := hMq.below hBk
            replace hBn := below_trans hBn hBk
            clear hBk
            go_wp2_with fail
            refine (promise_ex _ _ chMarks [chFull, chFull, chFull, chFull] 10 chRule _ hMq (by decide) (brs_four hOp _) (by decide) (z := (0, 0, 4)) (by decide +kernel)).mono ?_
            rintro e wk33 ⟨rfl, hBk⟩
            replace hBn := below_trans hBn hBk
            clear hBk
            clear hMq hOp
            have HBn := Lib.hid hBn
            clear hBn
            go_upto_region 39 with fail
            go_region_held3 (fun w' => Below wk33.heap.size wk33 w')
              (first
                | exact (Below.refl _ _).drew
                | exact below_trans (by assumption) hBa
                | exact below_trans (by assumption) hBb
                | exact below_trans (by assumption) hBc
                | exact below_trans (by assumption) hBd)
              (first
                | (go_at_call 51; refine (brands_cap _).mono ?_; rintro e wa ⟨gq, rfl, hMq, hBa⟩)
                | (go_at_call 50; refine (rule_is _).mono ?_; rintro e wb ⟨rfl, hBb⟩)
                | (go_at_call 52; refine (opened_cap _).mono ?_; rintro e wc ⟨gp, rfl, hOp, hBc⟩)
                | (go_at_call 37; refine (promise_ex _ _ [⟨⟨250, 400⟩, ⟨150, 300⟩, ⟨120, 200⟩, ⟨900, 1000⟩⟩] chOpened 10 chRule _ (marks_first ((hMq.below hBb).below hBc) _) (by decide) hOp (by decide) (z := (0, 0, 4)) (by decide +kernel)).mono ?_; rintro e wd ⟨rfl, hBd⟩))
            have hBn : Below w.heap.size w wd := below_trans HBn.out (by assumption)
            clear hBa hBb hBc hBd hMq hOp HBn
            go_wp2_with fail
            refine (brands_is _).mono ?_
            rintro e wk34 ⟨vq34, rfl, hMq, hBk⟩
            replace hBn := below_trans hBn hBk
            clear hBk
            go_wp2_with fail
            refine (full_is _).mono ?_
            rintro e wk35 ⟨rfl, hBk⟩
            replace hMq := hMq.below hBk
            replace hBn := below_trans hBn hBk
            clear hBk
            go_wp2_with fail
            refine (grade_ex _ chMarks chFull _ hMq (by decide) (z := (0, 0)) (by decide +kernel)).mono ?_
            rintro e wk36 ⟨rfl, hBk⟩
            replace hBn := below_trans hBn hBk
            clear hBk
            clear hMq
            go_wp2_with fail
            refine (brands_is _).mono ?_
            rintro e wk37 ⟨vq37, rfl, hMq, hBk⟩
            replace hBn := below_trans hBn hBk
            clear hBk
            go_wp2_with fail
            refine (spent_is _).mono ?_
            rintro e wk38 ⟨rfl, hBk⟩
            replace hMq := hMq.below hBk
            replace hBn := below_trans hBn hBk
            clear hBk
            go_wp2_with fail
            refine (grade_ex _ chMarks chSpent _ hMq (by decide) (z := (0, 4)) (by decide +kernel)).mono ?_
            rintro e wk39 ⟨rfl, hBk⟩
            replace hBn := below_trans hBn hBk
            clear hBk
            clear hMq
            have HBn := Lib.hid hBn
            clear hBn
            have hT : Twos wk39 [] wk39 := ⟨fun x hx => by simp at hx, Below.refl _ _⟩
            have HT := Lib.hid hT
            clear hT
            go_wp2_with fail
            refine (opens_is 6 1 _).mono ?_
            rintro e wk40 ⟨rfl, hBk⟩
            have hT := HT.out.below hBk
            clear hBk HT
            have HT := Lib.hid hT
            clear hT
            go_wp2_with fail
            refine (odds_ex 10 5 6 1 _ (z := (1, 42, 0)) (by decide +kernel)).mono ?_
            rintro e wk41 ⟨rfl, hBk⟩
            have hT := HT.out.below hBk
            clear hBk HT
            replace hT := hT.push 1 42 34
            have HT := Lib.hid hT
            clear hT
            go_wp2_with fail
            refine (opens_is 0 0 _).mono ?_
            rintro e wk42 ⟨rfl, hBk⟩
            have hT := HT.out.below hBk
            clear hBk HT
            have HT := Lib.hid hT
            clear hT
            go_wp2_with fail
            refine (odds_ex 10 5 0 0 _ (z := (1, 1, 0)) (by decide +kernel)).mono ?_
            rintro e wk43 ⟨rfl, hBk⟩
            have hT := HT.out.below hBk
            clear hBk HT
            replace hT := hT.push 1 1 34
            have HT := Lib.hid hT
            clear hT
            go_wp2_with fail
            refine (rule_is _).mono ?_
            rintro e wk44 ⟨rfl, hBk⟩
            have hT := HT.out.below hBk
            clear hBk HT
            have HT := Lib.hid hT
            clear hT
            go_wp2_with fail
            refine (opens_is 5 1 _).mono ?_
            rintro e wk45 ⟨rfl, hBk⟩
            have hT := HT.out.below hBk
            clear hBk HT
            have HT := Lib.hid hT
            clear hT
            go_wp2_with fail
            refine (keeps_ex 10 5 1 chRule _ (z := (false, 0)) (by decide +kernel)).mono ?_
            rintro e wk46 ⟨rfl, hBk⟩
            have hT := HT.out.below hBk
            clear hBk HT
            have HT := Lib.hid hT
            clear hT
            go_wp2_with fail
            refine (rule_is _).mono ?_
            rintro e wk47 ⟨rfl, hBk⟩
            have hT := HT.out.below hBk
            clear hBk HT
            have HT := Lib.hid hT
            clear hT
            go_wp2_with fail
            refine (opens_is 10 1 _).mono ?_
            rintro e wk48 ⟨rfl, hBk⟩
            have hT := HT.out.below hBk
            clear hBk HT
            have HT := Lib.hid hT
            clear hT
            go_wp2_with fail
            refine (keeps_ex 10 10 1 chRule _ (z := (true, 0)) (by decide +kernel)).mono ?_
            rintro e wk49 ⟨rfl, hBk⟩
            have hT := HT.out.below hBk
            clear hBk HT
            have HT := Lib.hid hT
            clear hT
            go_wp2_with fail
            refine (of_is 1 10 _).mono ?_
            rintro e wk50 ⟨rfl, hBk⟩
            have hT := HT.out.below hBk
            clear hBk HT
            have HT := Lib.hid hT
            clear hT
            go_wp2_with fail
            refine (below_ex 10 10 1 1 10 _ (z := (1, 1, 0)) (by decide +kernel)).mono ?_
            rintro e wk51 ⟨rfl, hBk⟩
            have hT := HT.out.below hBk
            clear hBk HT
            replace hT := hT.push 1 1 47
            have HT := Lib.hid hT
            clear hT
            go_wp2_with fail
            refine (of_is 1 1 _).mono ?_
            rintro e wk52 ⟨rfl, hBk⟩
            have hT := HT.out.below hBk
            clear hBk HT
            have HT := Lib.hid hT
            clear hT
            go_wp2_with fail
            refine (below_ex 10 6 1 1 1 _ (z := (0, 0, 4)) (by decide +kernel)).mono ?_
            rintro e wk53 ⟨rfl, hBk⟩
            have hT := HT.out.below hBk
            clear hBk HT
            have hz := oddsR_good (N := 40) (b := 20) (o := 20) (a := 9) (by decide) (by decide) (by decide) (by decide)
            have hbd := odds_bounds (N := 40) (b := 20) (o := 20) (a := 9) (by decide) (by decide) (by decide) (by decide)
            have hlh := half_is
            generalize fnd 40 20 20 0 9 / gcdI (fnd 40 20 20 0 9) (cnt 40 20) = x1 at hz hbd hlh
            generalize cnt 40 20 / gcdI (fnd 40 20 20 0 9) (cnt 40 20) = x2 at hz hbd hlh
            obtain ⟨b1, b2, b3, b4⟩ := hbd
            have Hz := Lib.hid hz
            have Hlh := Lib.hid hlh
            clear hz hlh
            have HT := Lib.hid hT
            clear hT
            go_wp2_with fail
            refine (opens_is 20 9 _).mono ?_
            rintro e wk54 ⟨rfl, hBk⟩
            have hT := HT.out.below hBk
            clear hBk HT
            have HT := Lib.hid hT
            clear hT
            go_wp2_with fail
            refine (odds_ex 40 20 20 9 _ Hz.out).mono ?_
            rintro e wk55 ⟨rfl, hBk⟩
            have hT := HT.out.below hBk
            clear hBk HT
            replace hT := hT.push x1 x2 34
            go_upto_region 51 with fail
            have HT := Lib.hid hT
            clear hT
            obtain ⟨⟨p0, p1⟩, lp⟩ := HT.out.get (B := wk41.heap.size) (p := 1) (q := 42) (by simp)
            obtain ⟨⟨q0, q1⟩, lq⟩ := HT.out.get (B := wk43.heap.size) (p := 1) (q := 1) (by simp)
            obtain ⟨⟨r0, r1⟩, lr⟩ := HT.out.get (B := wk51.heap.size) (p := 1) (q := 1) (by simp)
            obtain ⟨⟨s0, s1⟩, ls⟩ := HT.out.get (B := wk55.heap.size) (p := x1) (q := x2) (by simp)
            obtain ⟨W9, hW9⟩ : ∃ W, (wk55.alloc (.cells #[.int .i64 x1, .int .i64 x2] 34)) = W := ⟨_, rfl⟩
            rw [hW9] at p0 p1 q0 q1 r0 r1 s0 s1 HT lp lq lr ls ⊢
            clear hW9
            generalize wk41.heap.size = A54 at *
            generalize wk43.heap.size = A55 at *
            generalize wk51.heap.size = A58 at *
            generalize wk55.heap.size = A59 at *
            replace p0 := cell_regrown p0
            replace p1 := cell_regrown p1
            replace q0 := cell_regrown q0
            replace q1 := cell_regrown q1
            replace r0 := cell_regrown r0
            replace r1 := cell_regrown r1
            have cA : ∀ d os, Calls Try.prog 46 #[.int .i64 1, .int .i64 42] (Sort.grow (redrawn W9 d) os) fun e w'' => e = .returned (planV 1 42) ∧ ∃ p : Regrown, w'' = Sort.grow (redrawn W9 p.d) p.os := fun d os => Calls.regrown_of (of_is _ _ _)
            have cB : ∀ d os, Calls Try.prog 46 #[.int .i64 1, .int .i64 1] (Sort.grow (redrawn W9 d) os) fun e w'' => e = .returned (planV 1 1) ∧ ∃ p : Regrown, w'' = Sort.grow (redrawn W9 p.d) p.os := fun d os => Calls.regrown_of (of_is _ _ _)
            have cC : ∀ d os, Calls Try.prog 49 #[.int .i64 1, .int .i64 1] (Sort.grow (redrawn W9 d) os) fun e w'' => e = .returned (.agg #[.int .i64 1, .int .i64 1]) ∧ ∃ p : Regrown, w'' = Sort.grow (redrawn W9 p.d) p.os := fun d os => Calls.regrown_of (to_is _ _ _)
            refine wp_region_quiet_below (by kernel_rfl) (by kernel_rfl) ?_
            repeat (first | go_big_quiet_step (first | with_reducible exact cA _ _ | with_reducible exact cB _ _ | with_reducible exact cC _ _) | quiet_step (first | with_reducible exact cA _ _ | with_reducible exact cB _ _ | with_reducible exact cC _ _))
            refine wpQuiet_nil ?_
            intro _ hw'
            obtain ⟨⟨dq, osq⟩, hw''⟩ := hw'
            subst hw''
            have hB10 := below_regrown W9 dq osq
            have HT10 := Lib.hid (HT.out.below hB10)
            obtain ⟨W10, hW10⟩ : ∃ W, Sort.grow (redrawn W9 dq) osq = W := ⟨_, rfl⟩
            rw [hW10] at HT10 ⊢
            clear hW10 hB10 cA cB cC p0 p1 q0 q1 r0 r1 s0 s1 HT lp lq lr ls
            obtain ⟨⟨s0, s1⟩, ls⟩ := HT10.out.get (B := A59) (p := x1) (q := x2) (by simp)
            go_upto_region 53 with fail
            replace s0 := cell_regrown s0
            replace s1 := cell_regrown s1
            have cA : ∀ d os, Calls Try.prog 46 #[.int .i64 1, .int .i64 2] (Sort.grow (redrawn W10 d) os) fun e w'' => e = .returned (planV 1 2) ∧ ∃ p : Regrown, w'' = Sort.grow (redrawn W10 p.d) p.os := fun d os => Calls.regrown_of (of_is _ _ _)
            have cL : ∀ d os, Calls Try.prog 47 #[planV x1 x2, planV 1 2] (Sort.grow (redrawn W10 d) os) fun e w'' => e = .returned (.bool true) ∧ ∃ p : Regrown, w'' = Sort.grow (redrawn W10 p.d) p.os := fun d os => Calls.regrown_of (less_ex x1 x2 1 2 _ (by omega) (by omega) (by omega) (by omega) (by omega) (by omega) (by omega) (by omega) Hlh.out)
            have cW : ∀ d os, Calls Try.prog 21 #[] (Sort.grow (redrawn W10 d) os) fun e w'' => e = .returned (.bool true) ∧ ∃ p : Regrown, w'' = Sort.grow (redrawn W10 p.d) p.os := fun d os => Calls.regrown_of (works_is _)
            refine wp_region_quiet_below (by kernel_rfl) (by kernel_rfl) ?_
            repeat (first | go_big_quiet_step (first | with_reducible exact cA _ _ | with_reducible exact cL _ _ | with_reducible exact cW _ _) | quiet_step (first | with_reducible exact cA _ _ | with_reducible exact cL _ _ | with_reducible exact cW _ _))
            refine wpQuiet_nil ?_
            intro _ hw'
            obtain ⟨⟨dq2, osq2⟩, hw''⟩ := hw'
            subst hw''
            have hB11 : Below w.heap.size w (Sort.grow (redrawn W10 dq2) osq2) := below_trans HBn.out (below_trans HT10.out.2 (below_regrown W10 dq2 osq2))
            have HB11 := Lib.hid hB11
            clear hB11 cA cL cW s0 s1 ls HT10 HBn
            go_wp2_with fail
            go_ret
            exact ⟨rfl, HB11.out⟩

end Go.Proofs.Ythpllmefbhjmmaa
