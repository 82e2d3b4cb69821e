/-
  The reference's 'Keeps' and 'Fewest' answer as the program's do.
-/
import Derived.Test.YthpllmefbhjmmaaRefKeeps
import Derived.Test.YthpllmefbhjmmaaFewest
namespace Go.Proofs.Ythpllmefbhjmmaa
open Go.RowKit Go.Maps Plain
attribute [local go_sem] Oper.semAt_some

theorem keepsRef_is {q : Bool} (N : Int) (r : Rl) (o a : Int) (w : World) (hN0 : 0 ≤ N) (hN : N ≤ 40) (ho0 : 0 ≤ o) (ho : o ≤ N) (ha0 : 0 ≤ a) (ha : a ≤ o) (hr : ruleB N r = true) (h : keepsB N r o a = q) :
    Calls Try.prog 73 #[.int .i64 N, rlV r, planV o a] w fun e w' => e = .returned (.bool q) ∧ Below w.heap.size w w' := by
  rw [← h]; exact keepsRef_any N r o a w hN0 hN ho0 ho ha0 ha hr

/-- A rule's and a plan's block. -/
def RuPl (w : World) (b c : Nat) (r : Rl) (o a : Int) (w' : World) : Prop := RuleAt w' b r ∧ TwoAt w' c (.int .i64 o) (.int .i64 a) ∧ Below w.heap.size w w'
theorem RuPl.lt {w : World} {b c : Nat} {r : Rl} {o a : Int} {w' : World} (h : RuPl w b c r o a w') : b < w'.heap.size ∧ c < w'.heap.size := ⟨World.block_lt_of_cell? _ _ h.1.1, World.block_lt_of_cell? _ _ h.2.1.1⟩
theorem RuPl.below {w : World} {b c : Nat} {r : Rl} {o a : Int} {w' w2 : World} (h : RuPl w b c r o a w') (hB : Below w'.heap.size w' w2) : RuPl w b c r o a w2 :=
  ⟨h.1.below hB h.lt.1, h.2.1.below hB h.lt.2, below_trans h.2.2 hB⟩
theorem RuPl.start (w : World) (r : Rl) (o a : Int) : RuPl w w.heap.size (w.heap.size + 1) r o a ((w.alloc (.cells #[.int .i64 r.g, .int .i64 r.po, .int .i64 r.pi, .int .i64 r.b, .int .i64 r.fo, .int .i64 r.fi] 39)).alloc (.cells #[.int .i64 o, .int .i64 a] 32)) := by
  have key : ∀ W : World, TwoAt (W.alloc (.cells #[.int .i64 o, .int .i64 a] 32)) W.heap.size (.int .i64 o) (.int .i64 a) := fun W => by unfold TwoAt; go_simp
  have HP := key (w.alloc (.cells #[.int .i64 r.g, .int .i64 r.po, .int .i64 r.pi, .int .i64 r.b, .int .i64 r.fo, .int .i64 r.fi] 39))
  rw [World.size_alloc] at HP
  exact ⟨by unfold RuleAt; go_simp, HP, (below_alloc _).alloc (by simp) _⟩

set_option maxRecDepth 100000 in
set_option maxHeartbeats 1600000 in
theorem keepsRefR_any (N : Int) (r : Rl) (o a : Int) (w : World) :
    Calls Try.prog 25 #[.int .i64 N, rlV r, planV o a] w fun e w' => e = .returned (keepsV (keepsR N r o a)) ∧ Below w.heap.size w w' := by
  have Hst := Lib.hid (RuPl.start w r o a)
  cases h1 : inB N 1 40 with
  | false =>
    have He : Hid (keepsR N r o a = (false, 7)) := by show _ = _; unfold keepsR; rw [h1, if_neg (by simp)]
    have H1 := Lib.hid h1
    clear h1
    obtain ⟨g, po, pi, b, fo, fi⟩ := r
    go_enter Try.func25, Try.ntmps25
    go_wp2_with (go_at_call 34; refine (in_is _ _ _ _ H1.out).mono ?_; rintro e w1 ⟨rfl, rfl⟩)
    go_ret2
    exact ⟨by rw [He.out]; rfl, Hst.out.2.2⟩
  | true =>
  cases h2 : ruleB N r with
  | false =>
    have He : Hid (keepsR N r o a = (false, 71)) := by show _ = _; unfold keepsR; rw [h1, h2, if_pos rfl, if_neg (by simp)]
    have H1 := Lib.hid h1
    have H2 := Lib.hid h2
    clear h1 h2
    obtain ⟨g, po, pi, b, fo, fi⟩ := r
    go_enter Try.func25, Try.ntmps25
    go_wp2_with (go_at_call 34; refine (in_is _ _ _ _ H1.out).mono ?_; rintro e w1 ⟨rfl, rfl⟩)
    refine (ruleRef_is N ⟨g, po, pi, b, fo, fi⟩ _ H2.out).mono ?_
    rintro e w1 ⟨rfl, hB1⟩
    have hS := Hst.out.below hB1
    clear hB1
    go_wp2_with fail
    go_ret2
    exact ⟨by rw [He.out]; rfl, hS.2.2⟩
  | true =>
  cases h3 : (inB o 0 N && inB a 0 o) with
  | false =>
    have He : Hid (keepsR N r o a = (false, 72)) := by show _ = _; unfold keepsR; rw [h1, h2, if_pos rfl, if_pos rfl, if_neg (by simp [h3])]
    have H1 := Lib.hid h1
    have H2 := Lib.hid h2
    have H3 := Lib.hid h3
    clear h1 h2 h3
    obtain ⟨g, po, pi, b, fo, fi⟩ := r
    go_enter Try.func25, Try.ntmps25
    go_wp2_with (go_at_call 34; refine (in_is _ _ _ _ H1.out).mono ?_; rintro e w1 ⟨rfl, rfl⟩)
    refine (ruleRef_is N ⟨g, po, pi, b, fo, fi⟩ _ H2.out).mono ?_
    rintro e w1 ⟨rfl, hB1⟩
    have HS := Lib.hid (Hst.out.below hB1)
    obtain ⟨_, ⟨p0, p1⟩, _⟩ := HS.out
    have hlt := HS.out.lt.2
    clear hB1
    go_wp2_with fail
    refine (planRef_ex _ _ _ _ H3.out).mono ?_
    rintro e w2 ⟨rfl, hB2⟩
    have hS := HS.out.below hB2
    clear hB2
    go_wp2_with fail
    go_ret2
    exact ⟨by rw [He.out]; rfl, hS.2.2⟩
  | true =>
    have He : Hid (keepsR N r o a = (keepsB N r o a, 0)) := by show _ = _; unfold keepsR; rw [h1, h2, if_pos rfl, if_pos rfl, if_pos h3]
    obtain ⟨g1, g2⟩ := inB_true h1
    have h3' := h3
    rw [Bool.and_eq_true] at h3'
    obtain ⟨g5, g6⟩ := inB_true h3'.1
    obtain ⟨g7, g8⟩ := inB_true h3'.2
    have H1 := Lib.hid h1
    have H2 := Lib.hid h2
    have H3 := Lib.hid h3
    obtain ⟨q, hq⟩ : ∃ q, keepsB N r o a = q := ⟨_, rfl⟩
    have HQ := Lib.hid hq
    clear h1 h2 h3 h3' hq
    obtain ⟨g, po, pi, b, fo, fi⟩ := r
    go_enter Try.func25, Try.ntmps25
    go_wp2_with (go_at_call 34; refine (in_is _ _ _ _ H1.out).mono ?_; rintro e w1 ⟨rfl, rfl⟩)
    refine (ruleRef_is N ⟨g, po, pi, b, fo, fi⟩ _ H2.out).mono ?_
    rintro e w1 ⟨rfl, hB1⟩
    have HS := Lib.hid (Hst.out.below hB1)
    obtain ⟨_, ⟨p0, p1⟩, _⟩ := HS.out
    have hlt := HS.out.lt.2
    clear hB1
    go_wp2_with fail
    refine (planRef_ex _ _ _ _ H3.out).mono ?_
    rintro e w2 ⟨rfl, hB2⟩
    have HS2 := Lib.hid (HS.out.below hB2)
    clear hB2 p0 p1 hlt HS
    obtain ⟨⟨r0, r1, r2, r3, r4, r5⟩, ⟨p0, p1⟩, _⟩ := HS2.out
    obtain ⟨hl0, hl1⟩ := HS2.out.lt
    go_wp2_with fail
    refine (keepsRef_is N ⟨g, po, pi, b, fo, fi⟩ o a _ (by omega) (by omega) (by omega) (by omega) (by omega) (by omega) H2.out HQ.out).mono ?_
    rintro e w3 ⟨rfl, hB3⟩
    have hS := HS2.out.below hB3
    clear hB3
    go_wp2_with fail
    go_ret2
    exact ⟨by rw [He.out, HQ.out]; rfl, hS.2.2⟩

theorem keepsRef_ex {z : Bool × Int} (N o a : Int) (r : Rl) (w : World) (h : keepsR N r o a = z) : Calls Try.prog 25 #[.int .i64 N, rlV r, planV o a] w fun e w' => e = .returned (keepsV z) ∧ Below w.heap.size w w' := by
  rw [← h]; exact keepsRefR_any N r o a w

/-- 'Fewest''s two blocks: the rule; the answer. -/
def FeS (w : World) (r : Rl) (w' : World) : Prop :=
  RuleAt w' w.heap.size r ∧ TwoAt w' (w.heap.size + 1) (.int .i64 0) (.int .i64 0) ∧ w'.frozen? ⟨w.heap.size + 1, 0, none⟩ = false ∧ w'.frozen? ⟨w.heap.size + 1, 1, none⟩ = false ∧ Below w.heap.size w w'
theorem FeS.lt {w : World} {r : Rl} {w' : World} (h : FeS w r w') : w.heap.size + 1 < w'.heap.size := World.block_lt_of_cell? _ _ h.2.1.1
theorem FeS.below {w : World} {r : Rl} {w' w2 : World} (h : FeS w r w') (hB : Below w'.heap.size w' w2) : FeS w r w2 := by
  have hl := h.lt
  obtain ⟨h1, h2, f0, f1, hb⟩ := h
  exact ⟨h1.below hB (by omega), h2.below hB hl, (hB.frozen hl).trans f0, (hB.frozen hl).trans f1, below_trans hb hB⟩
theorem FeS.start (w : World) (r : Rl) : FeS w r ((w.alloc (.cells #[.int .i64 r.g, .int .i64 r.po, .int .i64 r.pi, .int .i64 r.b, .int .i64 r.fo, .int .i64 r.fi] 39)).alloc (.cells #[.int .i64 0, .int .i64 0] 32)) := by
  have key : ∀ W : World, TwoAt (W.alloc (.cells #[.int .i64 0, .int .i64 0] 32)) W.heap.size (.int .i64 0) (.int .i64 0) := fun W => by unfold TwoAt; go_simp
  have HP := key (w.alloc (.cells #[.int .i64 r.g, .int .i64 r.po, .int .i64 r.pi, .int .i64 r.b, .int .i64 r.fo, .int .i64 r.fi] 39))
  rw [World.size_alloc] at HP
  exact ⟨by unfold RuleAt; go_simp, HP, by go_simp, by go_simp, (below_alloc _).alloc (by simp) _⟩
theorem FeS.out {w : World} {r : Rl} {w' : World} (h : FeS w r w') (x y : Value) : Below w.heap.size w ((w'.setCell ⟨w.heap.size + 1, 0, none⟩ x).setCell ⟨w.heap.size + 1, 1, none⟩ y) :=
  (h.2.2.2.2.setCell (p := ⟨w.heap.size + 1, 0, none⟩) (by simp) _).setCell (p := ⟨w.heap.size + 1, 1, none⟩) (by simp) _

set_option maxRecDepth 100000 in
set_option maxHeartbeats 1600000 in
theorem fewestRef_any (N : Int) (r : Rl) (w : World) :
    Calls Try.prog 27 #[.int .i64 N, rlV r] w fun e w' => e = .returned (oddsV (fewestR N r)) ∧ Below w.heap.size w w' := by
  have Hst := Lib.hid (FeS.start w r)
  cases h1 : inB N 1 40 with
  | false =>
    have He : Hid (fewestR N r = (0, 0, 7)) := by show _ = _; unfold fewestR; rw [h1, if_neg (by simp)]
    have H1 := Lib.hid h1
    clear h1
    obtain ⟨g, po, pi, b, fo, fi⟩ := r
    go_enter Try.func27, Try.ntmps27
    go_wp2_with (go_at_call 34; refine (in_is _ _ _ _ H1.out).mono ?_; rintro e w1 ⟨rfl, rfl⟩)
    refine bodyPost_ret (v := oddsV (0, 0, 7)) (by simp [results, Try.results27, go_sem]) rfl ⟨by rw [He.out], ?_⟩
    exact Hst.out.2.2.2.2
  | true =>
  cases h2 : ruleB N r with
  | false =>
    have He : Hid (fewestR N r = (0, 0, 71)) := by show _ = _; unfold fewestR; rw [h1, h2, if_pos rfl, if_neg (by simp)]
    have H1 := Lib.hid h1
    have H2 := Lib.hid h2
    clear h1 h2
    obtain ⟨g, po, pi, b, fo, fi⟩ := r
    go_enter Try.func27, Try.ntmps27
    go_wp2_with (go_at_call 34; refine (in_is _ _ _ _ H1.out).mono ?_; rintro e w1 ⟨rfl, rfl⟩)
    refine (ruleRef_is N ⟨g, po, pi, b, fo, fi⟩ _ H2.out).mono ?_
    rintro e w1 ⟨rfl, hB1⟩
    have HS := Lib.hid (Hst.out.below hB1)
    obtain ⟨_, ⟨p0, p1⟩, f0, f1, _⟩ := HS.out
    have hlt := HS.out.lt
    clear hB1
    go_wp2_with fail
    refine bodyPost_ret (v := oddsV (0, 0, 71)) (by simp [results, Try.results27, go_sem, p0, p1]) rfl ⟨by rw [He.out], ?_⟩
    exact HS.out.out _ _
  | true =>
    have Hfull := Lib.hid (fun h0 => keeps_full (N := N) (r := r) h0 h2)
    have He : Hid (fewestR N r = match (rows (N.toNat + 1)).find? (fun x => keepsB N r x.1 x.2) with | some x => ((x.1 : Int), (x.2 : Int), 0) | none => (0, 0, 4)) := by show _ = _; unfold fewestR; rw [h1, h2, if_pos rfl, if_pos rfl]; rfl
    obtain ⟨g1, g2⟩ := inB_true h1
    obtain ⟨k1, k2, k3, _, _⟩ := ruleB_true h2
    have H1 := Lib.hid h1
    have H2 := Lib.hid h2
    clear h1 h2
    obtain ⟨n, rfl⟩ := Int.eq_ofNat_of_zero_le (show 0 ≤ N by omega)
    obtain ⟨g, po, pi, b, fo, fi⟩ := r
    simp only at k1 k2 k3
    go_enter Try.func27, Try.ntmps27
    go_wp2_with (go_at_call 34; refine (in_is _ _ _ _ H1.out).mono ?_; rintro e w1 ⟨rfl, rfl⟩)
    refine (ruleRef_is n ⟨g, po, pi, b, fo, fi⟩ _ H2.out).mono ?_
    rintro e w1 ⟨rfl, hB1⟩
    have HS := Lib.hid (Hst.out.below hB1)
    clear hB1 Hst
    go_wp2_with fail
    go_loopw [6] (fun i wr => ∃ k : Nat, k ≤ n + 1 ∧ i = .int .i64 k ∧ Hid (∀ o a : Nat, o < k → a ≤ o → keepsB n ⟨g, po, pi, b, fo, fi⟩ o a = false) ∧ FeS w ⟨g, po, pi, b, fo, fi⟩ wr) (fun i _ => (n + 1 - (intOf i).toNat))
    case atStart => exact ⟨0, by omega, rfl, fun o a h => by omega, HS.out⟩
    case round =>
      obtain ⟨k, hk, rfl, Hall, hS⟩ := hrel
      have HSr := Lib.hid hS
      clear hS
      by_cases hlt : (k : Int) ≤ n
      · go_wp2_with fail
        go_loopw [7] (fun i wb => ∃ j : Nat, j ≤ k + 1 ∧ i = .int .i64 j ∧ Hid (∀ a : Nat, a < j → keepsB n ⟨g, po, pi, b, fo, fi⟩ k a = false) ∧ FeS w ⟨g, po, pi, b, fo, fi⟩ wb) (fun i _ => (k + 1 - (intOf i).toNat))
        case atStart => exact ⟨0, by omega, rfl, fun a h => by omega, HSr.out⟩
        case round =>
          obtain ⟨j, hj, rfl, Hin, hS⟩ := hrel
          clear HSr
          have HSb := Lib.hid (hS.below (below_alloc (.cells #[.int .i64 (k : Int), .int .i64 (j : Int)] 32)))
          by_cases hjl : (j : Int) ≤ k
          · have key : ∀ W : World, TwoAt (W.alloc (.cells #[.int .i64 (k : Int), .int .i64 (j : Int)] 32)) W.heap.size (.int .i64 (k : Int)) (.int .i64 (j : Int)) := fun W => by unfold TwoAt; go_simp
            have HP := Lib.hid (key wr)
            obtain ⟨q, hq⟩ : ∃ q, keepsB n ⟨g, po, pi, b, fo, fi⟩ k j = q := ⟨_, rfl⟩
            have HQ := Lib.hid hq
            clear hq key hS
            obtain ⟨⟨r0, r1, r2, r3, r4, r5⟩, _⟩ := HSb.out
            have hl0 := HSb.out.lt
            go_wp2_with fail
            refine (keepsRef_is n ⟨g, po, pi, b, fo, fi⟩ k j _ (by omega) (by omega) (by omega) (by omega) (by omega) (by omega) H2.out HQ.out).mono ?_
            rintro e w3 ⟨rfl, hB3⟩
            have HS3 := Lib.hid (HSb.out.below hB3)
            obtain ⟨p0, p1⟩ := HP.out.below hB3 (by simp)
            have hpl := World.block_lt_of_cell? _ _ p0
            clear hB3 r0 r1 r2 r3 r4 r5 hl0
            cases q with
            | false =>
              have Hn : Hid (∀ a : Nat, a < j + 1 → keepsB n ⟨g, po, pi, b, fo, fi⟩ k a = false) := fun a ha => by
                by_cases e : a = j
                · subst e; exact HQ.out
                · exact Hin.out a (by omega)
              go_wp2_with fail
              go_roundw
              case rel => exact ⟨j + 1, by omega, by go_num, Hn.out, HS3.out⟩
              case measure => simp [intOf]; omega
            | true =>
              have Hf : Hid (fewestR n ⟨g, po, pi, b, fo, fi⟩ = ((k : Int), (j : Int), 0)) := by
                show _ = _
                rw [He.out, Int.toNat_natCast, first_plan (f := fun x => keepsB n ⟨g, po, pi, b, fo, fi⟩ x.1 x.2) (by omega) (by omega) Hall.out Hin.out HQ.out]
              obtain ⟨_, ⟨c0, c1⟩, f0, f1, _⟩ := HS3.out
              have hl3 := HS3.out.lt
              simp only at hpl
              go_wp2_with fail
              refine bodyPost_ret (v := oddsV ((k : Int), (j : Int), 0)) (by simp [results, Try.results27, go_sem, c0, c1]) rfl ⟨by rw [Hf.out], ?_⟩
              exact HS3.out.out _ _
          · have Hn : Hid (∀ o a : Nat, o < k + 1 → a ≤ o → keepsB n ⟨g, po, pi, b, fo, fi⟩ o a = false) := fun o a ho ha => by
              by_cases e : o = k
              · subst e; exact Hin.out a (by omega)
              · exact Hall.out o a (by omega) ha
            go_wp2_with fail
            go_roundw
            case rel => exact ⟨k + 1, by omega, by go_num, Hn.out, hS⟩
            case measure => simp [intOf]; omega
      · exfalso
        obtain ⟨g', hg'⟩ := Int.eq_ofNat_of_zero_le k1
        have h1 := Hall.out n g' (by omega) (by omega)
        have h2 := Hfull.out (by omega)
        rw [hg'] at h2
        rw [hg', h2] at h1
        cases h1

theorem fewestRef_ex {z : Int × Int × Int} (N : Int) (r : Rl) (w : World) (h : fewestR N r = z) : Calls Try.prog 27 #[.int .i64 N, rlV r] w fun e w' => e = .returned (oddsV z) ∧ Below w.heap.size w w' := by
  rw [← h]; exact fewestRef_any N r w

end Go.Proofs.Ythpllmefbhjmmaa
