/-
  'BrandOdded' returns true, for any numbers and plan: no condition.
-/
import Derived.Test.YthpllmefbhjmmaaWorks
import Derived.Test.YthpllmefbhjmmaaRefOdded
import Derived.Test.YthpllmefbhjmmaaArgs
namespace Go.Proofs.Ythpllmefbhjmmaa
open Go.ChangeShapes Go.WideShapes Go.ChangeAt Go.RowKit Plain

set_option maxRecDepth 100000 in
set_option maxHeartbeats 1600000 in
theorem law4 (n0 n1 o a : Int) (w : World) :
    Calls Try.prog 4 #[planV n0 n1, planV o a] w fun e w' => e = .returned (.bool true) ∧ Below w.heap.size w w' := by
  obtain ⟨z, hz⟩ : ∃ z, oddsR n0 n1 o a = z := ⟨_, rfl⟩
  have Hz := Lib.hid hz
  clear hz
  obtain ⟨z1, z2, z3⟩ := z
  have hB := (below_alloc (w := w) (.cells #[.int .i64 n0, .int .i64 n1] 30)).alloc (by simp) (.cells #[.int .i64 o, .int .i64 a] 32)
  have HS : Hid (TwoTwo w w.heap.size (w.heap.size + 1) n0 n1 o a ((w.alloc (.cells #[.int .i64 n0, .int .i64 n1] 30)).alloc (.cells #[.int .i64 o, .int .i64 a] 32))) := ⟨by go_simp, by go_simp, by go_simp, by go_simp, hB⟩
  clear hB
  go_enter Try.func4, Try.ntmps4
  go_wp2_with fail
  refine (odds_ex n0 n1 o a _ Hz.out).mono ?_
  rintro e w1 ⟨rfl, hB1⟩
  have hS1 := HS.out.below hB1
  have hS2 := hS1.below (below_alloc (w := w1) (.cells #[.int .i64 z1, .int .i64 z2] 34))
  have HS2 := Lib.hid hS2
  obtain ⟨a0, a1, a2, a3, _⟩ := hS1
  have l0 : w.heap.size < w1.heap.size := World.block_lt_of_cell? _ _ a0
  have l1 : w.heap.size + 1 < w1.heap.size := World.block_lt_of_cell? _ _ a2
  have P0 : TwoAt (w1.alloc (.cells #[.int .i64 z1, .int .i64 z2] 34)) w1.heap.size (.int .i64 z1) (.int .i64 z2) := by unfold TwoAt; go_simp
  have hz0 : w1.heap.size < (w1.alloc (.cells #[.int .i64 z1, .int .i64 z2] 34)).heap.size := by simp
  clear hB1 hS2
  go_wp2_with fail
  refine (oddsRef_ex n0 n1 o a _ Hz.out).mono ?_
  rintro e w2 ⟨rfl, hB2⟩
  have hS3 := Lib.hid (HS2.out.below hB2)
  have P1 := P0.below hB2 hz0
  have hz1 : w1.heap.size < w2.heap.size := by have := hB2.size; omega
  have hb3 := below_alloc (w := w2) (.cells #[.int .i64 z1, .int .i64 z2] 34)
  obtain ⟨p0, p1⟩ := P1
  have hB := hS3.out.2.2.2.2
  have hB4 := below_more hB (.cells #[.int .i64 z1, .int .i64 z2] 34)
  clear hB2 HS2 P0 HS a0 a1 a2 a3 hB hb3 hS3
  go_wp2_with fail
  refine (works_is _).mono ?_
  rintro e w3 ⟨rfl, hB3⟩
  have hB5 := below_trans hB4 hB3
  clear hB3 hB4
  go_wp2_with fail
  go_ret
  exact ⟨rfl, hB5⟩

set_option maxRecDepth 100000 in
theorem lifted4 (os : Os) (started : os.Started) (H : Type) (enc : TypeId × Value → H) :
    ReturnsInHanded {} Try.checked os 4 .any (Rows.brandOddedSpec.pre6 enc Try.prog Try.f4 Rows.brandOddedRow.domain false) (Rows.brandOddedSpec.post enc Try.prog Try.f4 false true false false) := by
  refine returnsInHanded_of_change_sized (C := Try.checked) Try.own started (by kernel_rfl) Try.func4
    (ChangeSpec.witness6 (enc := enc) (C := Try.checked) false ⟨#[], #[.agg #[.int .i64 0, .int .i64 0], .agg #[.int .i64 0, .int .i64 0]], []⟩ 8 (by kernel_rfl) (by kernel_rfl) (by kernel_rfl) (by kernel_rfl)) ?_
  intro W base args ds gs before hval0 hW _ _ _
  have hval : ∀ (j : Nat) t v, Try.f4.params[j]? = some t → args[j]? = some v → Value.okWide Try.prog W .any base t v := hval0
  have hW' := hW
  obtain ⟨p, q, hA0, hV, rfl, _, _⟩ := hW
  have hA : DataW.TrodAll enc Try.prog W 0 (fun _ => true) true Try.f4.params.toList args.toList ds p := hA0
  rw [Try.params4] at hA hval
  obtain ⟨v0, v1, d0, d1, p0, p1, rfl, rfl, rfl, h0, h1⟩ := trodAll_two hA
  obtain ⟨rfl, rfl⟩ := trodVars_none hV
  obtain ⟨n0, n1, rfl⟩ := open_n2 h0 (hval 0 30 v0 rfl rfl)
  obtain ⟨o, a, rfl⟩ := open_plan h1 (hval 1 32 v1 rfl rfl)
  clear hA0 hval0
  refine (law4 n0 n1 o a W).mono fun e W' ⟨he, hb⟩ => ?_
  subst he
  exact ⟨_, rfl, law_shut (by kernel_rfl) (of_decide_eq_true (by kernel_rfl)) rfl rfl hW' hb⟩

theorem brandOdded_holds : Rows.BrandOddedSaid :=
  OpenClaim.holds_of_wide 4 Try.f4 rfl rfl rfl rfl rfl rfl rfl ⟨rfl, rfl, rfl, rfl, rfl⟩ rfl rfl rfl rfl rfl (by kernel_rfl) Try.func4 (by kernel_rfl)
    (of_decide_eq_true (by kernel_rfl)) (by unfold Func.isWrapper; first | (rw [if_pos (by decide +kernel)]; kernel_rfl) | (rw [if_neg (by decide +kernel)]; exact ⟨rfl, rfl⟩))
    (fun os started H enc _ => lifted4 os started H enc)

end Go.Proofs.Ythpllmefbhjmmaa
