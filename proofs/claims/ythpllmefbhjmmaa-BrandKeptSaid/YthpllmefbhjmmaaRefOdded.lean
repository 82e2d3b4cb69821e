/-
  The reference's 'Odds' answers as the program's does.
-/
import Derived.Test.YthpllmefbhjmmaaRefOdds
import Derived.Test.YthpllmefbhjmmaaOdds
import Derived.BigRegion
namespace Go.Proofs.Ythpllmefbhjmmaa
open Go.RowKit Go.Maps Plain
attribute [local go_sem] Oper.semAt_some

set_option maxHeartbeats 800000 in
theorem planRef_is {q0 q1 : Bool} (N o a : Int) (w : World) (h0 : inB o 0 N = q0) (h1 : inB a 0 o = q1) :
    Calls Try.prog 67 #[.int .i64 N, planV o a] w fun e w' => e = .returned (.bool (q0 && q1)) ∧ Below w.heap.size w w' := by
  have H0 := Lib.hid h0
  have H1 := Lib.hid h1
  clear h0 h1
  have hB := below_alloc (w := w) (.cells #[.int .i64 o, .int .i64 a] 32)
  go_enter Try.func67, Try.ntmps67
  go_wp2_with fail
  refine (in_is _ _ _ _ H0.out).mono ?_
  rintro e w1 ⟨rfl, rfl⟩
  cases q0 with
  | false =>
    go_wp2_with fail
    go_ret
    exact ⟨rfl, hB⟩
  | true =>
    go_wp2_with fail
    refine (in_is _ _ _ _ H1.out).mono ?_
    rintro e w1 ⟨rfl, rfl⟩
    go_wp2_with fail
    go_ret
    exact ⟨rfl, hB⟩

theorem planRef_ex {q : Bool} (N o a : Int) (w : World) (h : (inB o 0 N && inB a 0 o) = q) :
    Calls Try.prog 67 #[.int .i64 N, planV o a] w fun e w' => e = .returned (.bool q) ∧ Below w.heap.size w w' := by
  rw [← h]; exact planRef_is N o a w rfl rfl

/-- The call's two blocks: the plan; the answer. -/
def OdS (w : World) (o a : Int) (w' : World) : Prop :=
  w'.cell? ⟨w.heap.size, 0, none⟩ = some (.int .i64 o) ∧ w'.cell? ⟨w.heap.size, 1, none⟩ = some (.int .i64 a) ∧ w'.cell? ⟨w.heap.size + 1, 0, none⟩ = some (.int .i64 0) ∧ w'.cell? ⟨w.heap.size + 1, 1, none⟩ = some (.int .i64 0) ∧
    w'.frozen? ⟨w.heap.size + 1, 0, none⟩ = false ∧ w'.frozen? ⟨w.heap.size + 1, 1, none⟩ = false ∧ Below w.heap.size w w'
theorem OdS.start (w : World) (o a : Int) : OdS w o a ((w.alloc (.cells #[.int .i64 o, .int .i64 a] 32)).alloc (.cells #[.int .i64 0, .int .i64 0] 34)) :=
  ⟨by go_simp, by go_simp, by go_simp, by go_simp, by go_simp, by go_simp, (below_alloc _).alloc (by simp) _⟩
theorem OdS.drew {w : World} {o a : Int} {w' : World} (h : OdS w o a w') : OdS w o a w'.drew := ⟨h.1, h.2.1, h.2.2.1, h.2.2.2.1, h.2.2.2.2.1, h.2.2.2.2.2.1, h.2.2.2.2.2.2.drew⟩
theorem OdS.below {w : World} {o a : Int} {w' w2 : World} (h : OdS w o a w') (hB : Below w'.heap.size w' w2) : OdS w o a w2 := by
  obtain ⟨h0, h1, h2, h3, f0, f1, hb⟩ := h
  have la : w.heap.size < w'.heap.size := World.block_lt_of_cell? _ _ h0
  have lb : w.heap.size + 1 < w'.heap.size := World.block_lt_of_cell? _ _ h2
  have ka : ∀ i, w2.cell? ⟨w.heap.size, i, none⟩ = w'.cell? ⟨w.heap.size, i, none⟩ := fun i => World.cell?_of_block (a := ⟨w.heap.size, i, none⟩) (hB.block _ la)
  have kb : ∀ i, w2.cell? ⟨w.heap.size + 1, i, none⟩ = w'.cell? ⟨w.heap.size + 1, i, none⟩ := fun i => World.cell?_of_block (a := ⟨w.heap.size + 1, i, none⟩) (hB.block _ lb)
  have kf : ∀ i, w2.frozen? ⟨w.heap.size + 1, i, none⟩ = w'.frozen? ⟨w.heap.size + 1, i, none⟩ := fun i => World.frozen?_of_block (a := ⟨w.heap.size + 1, i, none⟩) (hB.block _ lb)
  exact ⟨(ka _).trans h0, (ka _).trans h1, (kb _).trans h2, (kb _).trans h3, (kf _).trans f0, (kf _).trans f1, below_trans hb hB⟩
theorem OdS.lt {w : World} {o a : Int} {w' : World} (h : OdS w o a w') : w.heap.size + 1 < w'.heap.size := World.block_lt_of_cell? _ _ h.2.2.1
theorem OdS.out {w : World} {o a : Int} {w' : World} (h : OdS w o a w') (x y : Value) : Below w.heap.size w ((w'.setCell ⟨w.heap.size + 1, 0, none⟩ x).setCell ⟨w.heap.size + 1, 1, none⟩ y) :=
  (h.2.2.2.2.2.2.setCell (p := ⟨w.heap.size + 1, 0, none⟩) (by simp) _).setCell (p := ⟨w.heap.size + 1, 1, none⟩) (by simp) _

set_option maxRecDepth 100000 in
set_option maxHeartbeats 1600000 in
theorem oddsRef_any (N b o a : Int) (w : World) :
    Calls Try.prog 23 #[.int .i64 N, .int .i64 b, planV o a] w fun e w' => e = .returned (oddsV (oddsR N b o a)) ∧ Below w.heap.size w w' := by
  have Hst := Lib.hid (OdS.start w o a)
  cases h1 : inB N 1 40 with
  | false =>
    have He : Hid (oddsR N b o a = (0, 0, 7)) := by show _ = _; unfold oddsR; rw [if_neg (by simp [h1])]
    have H1 := Lib.hid h1
    clear h1
    go_enter Try.func23, Try.ntmps23
    go_wp2_with (go_at_call 34; refine (in_is _ _ _ _ H1.out).mono ?_; rintro e w1 ⟨rfl, rfl⟩)
    refine bodyPost_ret (v := oddsV (0, 0, 7)) (by simp [results, Try.results23, go_sem]) rfl ⟨by rw [He.out], ?_⟩
    exact Hst.out.2.2.2.2.2.2
  | true =>
  cases h2 : inB b 0 N with
  | false =>
    have He : Hid (oddsR N b o a = (0, 0, 7)) := by show _ = _; unfold oddsR; rw [if_neg (by simp [h2])]
    have H1 := Lib.hid h1
    have H2 := Lib.hid h2
    clear h1 h2
    go_enter Try.func23, Try.ntmps23
    go_wp2_with (go_at_call 34; refine (in_is _ _ _ _ (by first | exact H1.out | exact H2.out)).mono ?_; rintro e w1 ⟨rfl, rfl⟩)
    refine bodyPost_ret (v := oddsV (0, 0, 7)) (by simp [results, Try.results23, go_sem]) rfl ⟨by rw [He.out], ?_⟩
    exact Hst.out.2.2.2.2.2.2
  | true =>
  cases h3 : (inB o 0 N && inB a 0 o) with
  | false =>
    have He : Hid (oddsR N b o a = (0, 0, 72)) := by show _ = _; unfold oddsR; rw [if_pos ⟨h1, h2⟩, if_neg (by simp [h3])]
    have H1 := Lib.hid h1
    have H2 := Lib.hid h2
    have H3 := Lib.hid h3
    clear h1 h2 h3
    go_enter Try.func23, Try.ntmps23
    go_wp2_with (go_at_call 34; refine (in_is _ _ _ _ (by first | exact H1.out | exact H2.out)).mono ?_; rintro e w1 ⟨rfl, rfl⟩)
    refine (planRef_ex _ _ _ _ H3.out).mono ?_
    rintro e w1 ⟨rfl, hB1⟩
    have hS := Hst.out.below hB1
    have HS := Lib.hid hS
    have hlt := hS.lt
    obtain ⟨_, _, c2, c3, f0, f1, _⟩ := hS
    clear hB1
    go_wp2_with fail
    refine bodyPost_ret (v := oddsV (0, 0, 72)) (by simp [results, Try.results23, go_sem, c2, c3]) rfl ⟨by rw [He.out], ?_⟩
    exact HS.out.out _ _
  | true =>
    have He : Hid (oddsR N b o a = (fnd N b o 0 a / gcdI (fnd N b o 0 a) (cnt N o), cnt N o / gcdI (fnd N b o 0 a) (cnt N o), 0)) := by show _ = _; unfold oddsR; rw [if_pos ⟨h1, h2⟩, if_pos h3]
    obtain ⟨g1, g2⟩ := inB_true h1
    obtain ⟨g3, g4⟩ := inB_true h2
    have h3' := h3
    rw [Bool.and_eq_true] at h3'
    obtain ⟨g5, g6⟩ := inB_true h3'.1
    obtain ⟨g7, g8⟩ := inB_true h3'.2
    have H1 := Lib.hid h1
    have H2 := Lib.hid h2
    have H3 := Lib.hid h3
    clear h1 h2 h3 h3'
    have k0 := fnd_nonneg N b o 0 a
    have k1 := fnd_le N b o 0 a g3 g4 g2 (by omega) (by omega)
    have k2 := cnt_pos N o g5 g6
    have k3 := cnt_le N o g2
    have hp := gcdI_pos _ _ k0 k2
    have hg1 : ¬ gcdI (fnd N b o 0 a) (cnt N o) = 0 := by omega
    have hq1 : IntKind.i64.wrap ((fnd N b o 0 a).tdiv (gcdI (fnd N b o 0 a) (cnt N o))) = fnd N b o 0 a / gcdI (fnd N b o 0 a) (cnt N o) := by
      have := Int.ediv_nonneg k0 (Int.le_of_lt hp)
      have := Int.ediv_le_self (gcdI (fnd N b o 0 a) (cnt N o)) k0
      rw [Int.tdiv_eq_ediv_of_nonneg k0, IntWalk.i64_in _ (by omega)]
    have hq2 : IntKind.i64.wrap ((cnt N o).tdiv (gcdI (fnd N b o 0 a) (cnt N o))) = cnt N o / gcdI (fnd N b o 0 a) (cnt N o) := by
      have := Int.ediv_nonneg (Int.le_of_lt k2) (Int.le_of_lt hp)
      have := Int.ediv_le_self (gcdI (fnd N b o 0 a) (cnt N o)) (Int.le_of_lt k2)
      rw [Int.tdiv_eq_ediv_of_nonneg (Int.le_of_lt k2), IntWalk.i64_in _ (by omega)]
    go_enter Try.func23, Try.ntmps23
    go_wp2_with (go_at_call 34; refine (in_is _ _ _ _ (by first | exact H1.out | exact H2.out)).mono ?_; rintro e w1 ⟨rfl, rfl⟩)
    refine (planRef_ex _ _ _ _ H3.out).mono ?_
    rintro e w1 ⟨rfl, hB1⟩
    have HS := Lib.hid (Hst.out.below hB1)
    clear hB1
    go_wp2_with fail
    go_region_held3 (fun w' => w'.cell? ⟨w.heap.size, 0, none⟩ = some (.int .i64 o) ∧ w'.cell? ⟨w.heap.size, 1, none⟩ = some (.int .i64 a) ∧ w'.cell? ⟨w.heap.size + 1, 0, none⟩ = some (.int .i64 0) ∧ w'.cell? ⟨w.heap.size + 1, 1, none⟩ = some (.int .i64 0) ∧
        w'.frozen? ⟨w.heap.size + 1, 0, none⟩ = false ∧ w'.frozen? ⟨w.heap.size + 1, 1, none⟩ = false ∧ Below w.heap.size w w')
      (first | exact HS.out.drew | exact OdS.below (by assumption) hB2 | exact OdS.below (by assumption) hB3)
      (first
        | (go_at_call 68; refine (foundR_b N b o 0 a _ (by omega) (by omega) (by omega) (by omega) (by omega) (by omega) (by omega) (by omega)).mono ?_; rintro e w2 ⟨rfl, hB2⟩)
        | (go_at_call 69; refine (choices_b N o _ (by omega) (by omega)).mono ?_; rintro e w3 ⟨rfl, hB3⟩))
    have hS : OdS w o a w3 := by assumption
    have HS3 := Lib.hid hS
    clear hS hB2 hB3 HS
    go_wp2_with fail
    refine (gcd_any _ _ _ k0 (by omega) (by omega) (by omega)).mono ?_
    rintro e w4 ⟨rfl, hB4⟩
    have hS := HS3.out.below hB4
    have HS4 := Lib.hid hS
    have hlt := hS.lt
    obtain ⟨_, _, c2, c3, f0, f1, _⟩ := hS
    clear hB4 HS3
    generalize gcdI (fnd N b o 0 a) (cnt N o) = g at *
    generalize fnd N b o 0 a = x at *
    generalize cnt N o = y at *
    generalize hr : x / g = r at *
    generalize hs : y / g = s at *
    clear hr hs k0 k1 k2 k3
    go_wp2_with fail
    go_region
    all_goals (go_wp2_with fail)
    refine bodyPost_ret (v := oddsV (r, s, 0)) (by simp [results, Try.results23, go_sem, c2, c3]) rfl ⟨by rw [He.out], ?_⟩
    exact (HS4.out.out _ _).drew

theorem oddsRef_ex {z : Int × Int × Int} (N b o a : Int) (w : World) (h : oddsR N b o a = z) : Calls Try.prog 23 #[.int .i64 N, .int .i64 b, planV o a] w fun e w' => e = .returned (oddsV z) ∧ Below w.heap.size w w' := by
  rw [← h]; exact oddsRef_any N b o a w

end Go.Proofs.Ythpllmefbhjmmaa
