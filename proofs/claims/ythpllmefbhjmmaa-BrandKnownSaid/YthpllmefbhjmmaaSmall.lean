/-
  The small functions of the package of laws: spans, odds, plans, the chapter's brands, rule and barrels.
-/
import Derived.Test.YthpllmefbhjmmaaPromised
import Derived.Deep.RegionHeld3
namespace Go.Proofs.Ythpllmefbhjmmaa
open Go.RowKit Go.Maps Plain
attribute [local go_sem] Oper.semAt_some

set_option maxHeartbeats 400000 in
theorem opens_is (x y : Int) (w : World) :
    Calls Try.prog 44 #[.int .i64 x, .int .i64 y] w fun e w' => e = .returned (planV x y) ∧ Below w.heap.size w w' := by
  go_enter Try.func44, Try.ntmps44
  go_wp2_with fail
  refine bodyPost_ret (v := planV x y) (by simp [results, Try.results44, go_sem]) rfl ⟨rfl, ?_⟩
  exact below_alloc _

set_option maxHeartbeats 400000 in
theorem of_is (x y : Int) (w : World) :
    Calls Try.prog 46 #[.int .i64 x, .int .i64 y] w fun e w' => e = .returned (planV x y) ∧ Below w.heap.size w w' := by
  go_enter Try.func46, Try.ntmps46
  go_wp2_with fail
  refine bodyPost_ret (v := planV x y) (by simp [results, Try.results46, go_sem]) rfl ⟨rfl, ?_⟩
  exact below_alloc _

set_option maxHeartbeats 400000 in
theorem to_is (x y : Int) (w : World) :
    Calls Try.prog 49 #[.int .i64 x, .int .i64 y] w fun e w' => e = .returned (planV x y) ∧ Below w.heap.size w w' := by
  go_enter Try.func49, Try.ntmps49
  go_wp2_with fail
  refine bodyPost_ret (v := planV x y) (by simp [results, Try.results49, go_sem]) rfl ⟨rfl, ?_⟩
  exact below_alloc _

abbrev chFull : Br := ⟨260, 180, 150, 950⟩
abbrev chMattie : Br := ⟨220, 180, 150, 950⟩
abbrev chSpent : Br := ⟨260, 90, 150, 950⟩
abbrev chMarks : List Mk := [⟨⟨250, 400⟩, ⟨150, 300⟩, ⟨120, 200⟩, ⟨900, 1000⟩⟩, ⟨⟨200, 400⟩, ⟨100, 300⟩, ⟨100, 220⟩, ⟨850, 1000⟩⟩]
abbrev chOpened : List Br := [chFull, chFull, chFull, chFull, chMattie, chSpent]
abbrev chRule : Rl := ⟨1, 9, 10, 5, 1, 10⟩

set_option maxHeartbeats 400000 in
theorem full_is (w : World) :
    Calls Try.prog 53 #[] w fun e w' => e = .returned (brV chFull) ∧ Below w.heap.size w w' := by
  go_enter Try.func53, Try.ntmps53
  go_wp2_with fail
  refine bodyPost_ret (v := brV chFull) (by simp [results, Try.results53, go_sem]) rfl ⟨rfl, ?_⟩
  exact below_alloc _

set_option maxHeartbeats 400000 in
theorem spent_is (w : World) :
    Calls Try.prog 54 #[] w fun e w' => e = .returned (brV chSpent) ∧ Below w.heap.size w w' := by
  go_enter Try.func54, Try.ntmps54
  go_wp2_with fail
  refine bodyPost_ret (v := brV chSpent) (by simp [results, Try.results54, go_sem]) rfl ⟨rfl, ?_⟩
  exact below_alloc _

set_option maxHeartbeats 400000 in
theorem mattie_is (w : World) :
    Calls Try.prog 61 #[] w fun e w' => e = .returned (brV chMattie) ∧ Below w.heap.size w w' := by
  go_enter Try.func61, Try.ntmps61
  go_wp2_with fail
  refine bodyPost_ret (v := brV chMattie) (by simp [results, Try.results61, go_sem]) rfl ⟨rfl, ?_⟩
  exact below_alloc _

set_option maxHeartbeats 800000 in
theorem rule_is (w : World) :
    Calls Try.prog 50 #[] w fun e w' => e = .returned (rlV chRule) ∧ Below w.heap.size w w' := by
  have hB := (below_alloc (w := w) (.cells #[.int .i64 0, .int .i64 0, .int .i64 0, .int .i64 0, .int .i64 0, .int .i64 0] 39))
  have hz : w.heap.size < (w.alloc (.cells #[.int .i64 0, .int .i64 0, .int .i64 0, .int .i64 0, .int .i64 0, .int .i64 0] 39)).heap.size := by simp
  have hc : Hid (∀ i, i < 6 → (w.alloc (.cells #[.int .i64 0, .int .i64 0, .int .i64 0, .int .i64 0, .int .i64 0, .int .i64 0] 39)).cell? ⟨w.heap.size, i, none⟩ = some (.int .i64 0) ∧ (w.alloc (.cells #[.int .i64 0, .int .i64 0, .int .i64 0, .int .i64 0, .int .i64 0, .int .i64 0] 39)).frozen? ⟨w.heap.size, i, none⟩ = false) := by
    show ∀ i, _ → _
    intro i hi
    obtain rfl | rfl | rfl | rfl | rfl | rfl : i = 0 ∨ i = 1 ∨ i = 2 ∨ i = 3 ∨ i = 4 ∨ i = 5 := by omega
    all_goals exact ⟨by go_simp, by go_simp⟩
  go_enter Try.func50, Try.ntmps50
  go_wp2_with fail
  refine (of_is 9 10 _).mono ?_
  rintro e w1 ⟨rfl, hB1⟩
  go_wp2_with fail
  refine (of_is 1 10 _).mono ?_
  rintro e w2 ⟨rfl, hB2⟩
  have hB3 := below_trans hB1 hB2
  have hB4 := below_trans hB hB3
  have c : ∀ i, i < 6 → w2.cell? ⟨w.heap.size, i, none⟩ = some (.int .i64 0) ∧ w2.frozen? ⟨w.heap.size, i, none⟩ = false := fun i hi =>
    ⟨(hB3.cell (p := ⟨w.heap.size, i, none⟩) hz).trans (hc.out i hi).1, (hB3.frozen (p := ⟨w.heap.size, i, none⟩) hz).trans (hc.out i hi).2⟩
  obtain ⟨c0, f0⟩ := c 0 (by omega)
  obtain ⟨c1, f1⟩ := c 1 (by omega)
  obtain ⟨c2, f2⟩ := c 2 (by omega)
  obtain ⟨c3, f3⟩ := c 3 (by omega)
  obtain ⟨c4, f4⟩ := c 4 (by omega)
  obtain ⟨c5, f5⟩ := c 5 (by omega)
  clear hB1 hB2 hB3 c hB hc
  go_wp2_with fail
  refine bodyPost_ret (v := rlV chRule) (by simp [results, Try.results50, go_sem, c0, c1, c2, c3, c4, c5]) rfl ⟨rfl, ?_⟩
  exact (((((hB4.setCell (p := ⟨w.heap.size, 0, none⟩) (by simp) _).setCell (p := ⟨w.heap.size, 1, none⟩) (by simp) _).setCell (p := ⟨w.heap.size, 2, none⟩) (by simp) _).setCell (p := ⟨w.heap.size, 3, none⟩) (by simp) _).setCell (p := ⟨w.heap.size, 4, none⟩) (by simp) _).setCell (p := ⟨w.heap.size, 5, none⟩) (by simp) _

set_option maxRecDepth 100000 in
set_option maxHeartbeats 1600000 in
theorem brands_is (w : World) :
    Calls Try.prog 51 #[] w fun e w' => ∃ v, e = .returned v ∧ MarksAt w' v chMarks ∧ Below w.heap.size w w' := by
  have hB := Below.refl w.heap.size w
  go_enter Try.func51, Try.ntmps51
  go_wp2_with (go_at_call 49; refine (to_is _ _ _).mono ?_; rintro e w1 ⟨rfl, hBn⟩; replace hB := below_trans hB hBn; clear hBn)
  go_ret
  refine ⟨_, rfl, ⟨_, _, rfl, fun i m hi => ⟨_, _, rfl, ?_⟩⟩, below_more hB _⟩
  have hlt : i < 2 := (List.getElem?_eq_some_iff.1 hi).1
  obtain rfl | rfl : i = 0 ∨ i = 1 := by omega
  all_goals
    simp only [List.getElem?_cons_zero, List.getElem?_cons_succ, Option.some.injEq] at hi
    subst hi
    unfold MkAt
    go_simp

set_option maxRecDepth 100000 in
set_option maxHeartbeats 1600000 in
theorem opened_is (w : World) :
    Calls Try.prog 52 #[] w fun e w' => ∃ v, e = .returned v ∧ BrsAt w' v chOpened ∧ Below w.heap.size w w' := by
  have hB := Below.refl w.heap.size w
  go_enter Try.func52, Try.ntmps52
  go_wp2_with first
    | (go_at_call 53; refine (full_is _).mono ?_; rintro e w1 ⟨rfl, hBn⟩; replace hB := below_trans hB hBn; clear hBn)
    | (go_at_call 54; refine (spent_is _).mono ?_; rintro e w1 ⟨rfl, hBn⟩; replace hB := below_trans hB hBn; clear hBn)
    | (go_at_call 61; refine (mattie_is _).mono ?_; rintro e w1 ⟨rfl, hBn⟩; replace hB := below_trans hB hBn; clear hBn)
  go_ret
  refine ⟨_, rfl, ⟨_, _, rfl, fun i m hi => ⟨_, _, rfl, ?_⟩⟩, below_more hB _⟩
  have hlt : i < 6 := (List.getElem?_eq_some_iff.1 hi).1
  obtain rfl | rfl | rfl | rfl | rfl | rfl : i = 0 ∨ i = 1 ∨ i = 2 ∨ i = 3 ∨ i = 4 ∨ i = 5 := by omega
  all_goals
    simp only [List.getElem?_cons_zero, List.getElem?_cons_succ, Option.some.injEq] at hi
    subst hi
    unfold BrAt
    go_simp

end Go.Proofs.Ythpllmefbhjmmaa
