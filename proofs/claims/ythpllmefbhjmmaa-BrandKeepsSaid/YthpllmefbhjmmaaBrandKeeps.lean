/-
  'BrandKeeps' returns true, for any number of barrels, rule and plan: no condition.
-/
import Derived.Test.YthpllmefbhjmmaaWorks
import Derived.Test.YthpllmefbhjmmaaRefFewest
import Derived.Test.YthpllmefbhjmmaaArgs
namespace Go.Proofs.Ythpllmefbhjmmaa
open Go.ChangeShapes Go.WideShapes Go.ChangeAt Go.RowKit Plain

set_option maxRecDepth 100000 in
set_option maxHeartbeats 1600000 in
theorem law5 (N : Int) (r : Rl) (o a : Int) (w : World) :
    Calls Try.prog 5 #[.int .i64 N, rlV r, planV o a] w fun e w' => e = .returned (.bool true) ∧ Below w.heap.size w w' := by
  obtain ⟨z, hz⟩ : ∃ z, keepsR N r o a = z := ⟨_, rfl⟩
  obtain ⟨y, hy⟩ : ∃ y, fewestR N r = y := ⟨_, rfl⟩
  have Hz := Lib.hid hz
  have Hy := Lib.hid hy
  clear hz hy
  obtain ⟨z1, z2⟩ := z
  obtain ⟨y1, y2, y3⟩ := y
  have HS := Lib.hid (RuPl.start w r o a)
  obtain ⟨g, po, pi, b, fo, fi⟩ := r
  go_enter Try.func5, Try.ntmps5
  go_wp2_with fail
  refine (keeps_ex N o a ⟨g, po, pi, b, fo, fi⟩ _ Hz.out).mono ?_
  rintro e w1 ⟨rfl, hB1⟩
  have HS1 := Lib.hid (HS.out.below hB1)
  obtain ⟨⟨r0, r1, r2, r3, r4, r5⟩, ⟨p0, p1⟩, _⟩ := HS1.out
  obtain ⟨l0, l1⟩ := HS1.out.lt
  clear hB1 HS
  go_wp2_with fail
  refine (keepsRef_ex N o a ⟨g, po, pi, b, fo, fi⟩ _ Hz.out).mono ?_
  rintro e w2 ⟨rfl, hB2⟩
  have HS2 := Lib.hid (HS1.out.below hB2)
  clear hB2 HS1 r0 r1 r2 r3 r4 r5 p0 p1 l0 l1
  obtain ⟨⟨r0, r1, r2, r3, r4, r5⟩, _⟩ := HS2.out
  obtain ⟨l0, _⟩ := HS2.out.lt
  go_wp2_with fail
  refine (fewest_ex N ⟨g, po, pi, b, fo, fi⟩ _ Hy.out).mono ?_
  rintro e w3 ⟨rfl, hB3⟩
  have HS3 := Lib.hid ((HS2.out.below hB3).below (below_alloc (.cells #[.int .i64 y1, .int .i64 y2] 32)))
  clear r0 r1 r2 r3 r4 r5 l0
  obtain ⟨⟨r0, r1, r2, r3, r4, r5⟩, _⟩ := HS2.out.below hB3
  have l0 := (HS2.out.below hB3).lt.1
  have P0 : TwoAt (w3.alloc (.cells #[.int .i64 y1, .int .i64 y2] 32)) w3.heap.size (.int .i64 y1) (.int .i64 y2) := by unfold TwoAt; go_simp
  have hz0 : w3.heap.size < (w3.alloc (.cells #[.int .i64 y1, .int .i64 y2] 32)).heap.size := by simp
  clear hB3 HS2
  go_wp2_with fail
  refine (fewestRef_ex N ⟨g, po, pi, b, fo, fi⟩ _ Hy.out).mono ?_
  rintro e w4 ⟨rfl, hB4⟩
  obtain ⟨p0, p1⟩ := P0.below hB4 hz0
  have hz1 : w3.heap.size < w4.heap.size := by have := hB4.size; omega
  have hB5 := below_more (HS3.out.below hB4).2.2 (.cells #[.int .i64 y1, .int .i64 y2] 32)
  clear hB4 HS3 P0 r0 r1 r2 r3 r4 r5 l0
  go_wp2_with fail
  refine (works_is _).mono ?_
  rintro e w5 ⟨rfl, hB6⟩
  have hB7 := below_trans hB5 hB6
  clear hB5 hB6
  go_wp2_with fail
  go_ret
  exact ⟨rfl, hB7⟩

set_option maxRecDepth 100000 in
theorem lifted5 (os : Os) (started : os.Started) (H : Type) (enc : TypeId × Value → H) :
    ReturnsInHanded {} Try.checked os 5 .any (Rows.brandKeepsSpec.pre6 enc Try.prog Try.f5 Rows.brandKeepsRow.domain false) (Rows.brandKeepsSpec.post enc Try.prog Try.f5 false true false false) := by
  refine returnsInHanded_of_change_sized (C := Try.checked) Try.own started (by kernel_rfl) Try.func5
    (ChangeSpec.witness6 (enc := enc) (C := Try.checked) false ⟨#[], #[.int .i64 0, .agg #[.int .i64 0, .int .i64 0, .int .i64 0, .int .i64 0, .int .i64 0, .int .i64 0], .agg #[.int .i64 0, .int .i64 0]], []⟩ 8 (by kernel_rfl) (by kernel_rfl) (by kernel_rfl) (by kernel_rfl)) ?_
  intro W base args ds gs before hval0 hW _ _ _
  have hval : ∀ (j : Nat) t v, Try.f5.params[j]? = some t → args[j]? = some v → Value.okWide Try.prog W .any base t v := hval0
  have hW' := hW
  obtain ⟨p, q, hA0, hV, rfl, _, _⟩ := hW
  have hA : DataW.TrodAll enc Try.prog W 0 (fun _ => true) true Try.f5.params.toList args.toList ds p := hA0
  rw [Try.params5] at hA hval
  obtain ⟨v0, v1, v2, d0, d1, d2, p0, p1, p2, rfl, rfl, rfl, h0, h1, h2⟩ := trodAll_three hA
  obtain ⟨rfl, rfl⟩ := trodVars_none hV
  obtain ⟨N, rfl, rfl, rfl, _⟩ := open_int Try.underlying3 (hval 0 3 v0 rfl rfl) h0
  obtain ⟨r, rfl⟩ := open_rule h1 (hval 1 39 v1 rfl rfl)
  obtain ⟨o, a, rfl⟩ := open_plan h2 (hval 2 32 v2 rfl rfl)
  clear hA0 hval0
  refine (law5 N r o a W).mono fun e W' ⟨he, hb⟩ => ?_
  subst he
  exact ⟨_, rfl, law_shut (by kernel_rfl) (of_decide_eq_true (by kernel_rfl)) rfl rfl hW' hb⟩

theorem brandKeeps_holds : Rows.BrandKeepsSaid :=
  OpenClaim.holds_of_wide 5 Try.f5 rfl rfl rfl rfl rfl rfl rfl ⟨rfl, rfl, rfl, rfl, rfl⟩ rfl rfl rfl rfl rfl (by kernel_rfl) Try.func5 (by kernel_rfl)
    (of_decide_eq_true (by kernel_rfl)) (by unfold Func.isWrapper; first | (rw [if_pos (by decide +kernel)]; kernel_rfl) | (rw [if_neg (by decide +kernel)]; exact ⟨rfl, rfl⟩))
    (fun os started H enc _ => lifted5 os started H enc)

end Go.Proofs.Ythpllmefbhjmmaa
