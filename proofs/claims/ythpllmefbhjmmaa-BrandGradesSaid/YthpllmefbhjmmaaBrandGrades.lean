/-
  'BrandGrades' returns true, for any brands and barrel: no condition.
-/
import Derived.Test.YthpllmefbhjmmaaWorks
import Derived.Test.YthpllmefbhjmmaaRefGraded
import Derived.Test.YthpllmefbhjmmaaArgs
namespace Go.Proofs.Ythpllmefbhjmmaa
open Go.ChangeShapes Go.WideShapes Go.ChangeAt Go.RowKit Plain

set_option maxRecDepth 100000 in
set_option maxHeartbeats 1600000 in
theorem law3 (v : Value) (ms : List Mk) (x : Br) (w : World) (hms : MarksAt w v ms) (hlen : ms.length ≤ 140737488351232) :
    Calls Try.prog 3 #[v, brV x] w fun e w' => e = .returned (.bool true) ∧ Below w.heap.size w w' := by
  obtain ⟨z, hz⟩ : ∃ z, gradeR ms x = z := ⟨_, rfl⟩
  have Hz := Lib.hid hz
  clear hz
  obtain ⟨z1, z2⟩ := z
  have hB := below_alloc (w := w) (.cells #[.int .i64 x.b0, .int .i64 x.b1, .int .i64 x.b2, .int .i64 x.b3] 24)
  have hX : BrAt (w.alloc (.cells #[.int .i64 x.b0, .int .i64 x.b1, .int .i64 x.b2, .int .i64 x.b3] 24)) w.heap.size 0 x := by unfold BrAt; go_simp
  have HX := Lib.hid hX
  have Hms := Lib.hid (hms.below hB)
  clear hX hms
  go_enter Try.func3, Try.ntmps3
  go_wp2_with fail
  refine (grade_ex v ms x _ Hms.out hlen Hz.out).mono ?_
  rintro e w1 ⟨rfl, hB1⟩
  have Hms1 := Lib.hid (Hms.out.below hB1)
  have hX1 := HX.out.kept (hB1.block _ (by simp))
  have hl1 := hX1.lt
  obtain ⟨x0, x1, x2, x3⟩ := hX1
  replace hB := below_trans hB hB1
  clear hB1
  go_wp2_with fail
  refine (gradeRef_ex v ms x _ Hms1.out hlen Hz.out).mono ?_
  rintro e w2 ⟨rfl, hB2⟩
  replace hB := below_trans hB hB2
  clear hB2 x0 x1 x2 x3
  go_wp2_with fail
  refine (works_is _).mono ?_
  rintro e w3 ⟨rfl, hB3⟩
  replace hB := below_trans hB hB3
  clear hB3
  go_wp2_with fail
  go_ret
  exact ⟨rfl, hB⟩

set_option maxRecDepth 100000 in
theorem lifted3 (os : Os) (started : os.Started) (H : Type) (enc : TypeId × Value → H) :
    ReturnsInHanded {} Try.checked os 3 .any (Rows.brandGradesSpec.pre6 enc Try.prog Try.f3 Rows.brandGradesRow.domain false) (Rows.brandGradesSpec.post enc Try.prog Try.f3 false true false false) := by
  refine returnsInHanded_of_change_sized (C := Try.checked) Try.own started (by kernel_rfl) Try.func3
    (ChangeSpec.witness6 (enc := enc) (C := Try.checked) false ⟨#[], #[.slice none 0 0, .agg #[.int .i64 0, .int .i64 0, .int .i64 0, .int .i64 0]], []⟩ 8 (by kernel_rfl) (by kernel_rfl) (by kernel_rfl) (by kernel_rfl)) ?_
  intro W base args ds gs before hval0 hW _ hsz0 _
  have hsz : (DataW.weightsEach Try.prog (Try.f3.params.toList ++ Rows.brandGradesSpec.plain.varTypes Try.prog) (ds ++ gs)).all (· ≤ reachBytes) = true := hsz0
  clear hsz0
  have hval : ∀ (j : Nat) t v, Try.f3.params[j]? = some t → args[j]? = some v → Value.okWide Try.prog W .any base t v := hval0
  have hW' := hW
  obtain ⟨p, q, hA0, hV, rfl, _, _⟩ := hW
  have hA : DataW.TrodAll enc Try.prog W 0 (fun _ => true) true Try.f3.params.toList args.toList ds p := hA0
  rw [Try.params3] at hA hval hsz
  obtain ⟨v0, v1, d0, d1, p0, p1, rfl, rfl, rfl, h0, h1⟩ := trodAll_two hA
  obtain ⟨rfl, rfl⟩ := trodVars_none hV
  obtain ⟨ms, hms, hlen⟩ := open_marks h0 (hval 0 22 v0 rfl rfl) (fun n hn => by simpa using List.all_eq_true.1 hsz n (DataW.weights_mem_each (j := 0) rfl rfl n hn))
  obtain ⟨x, rfl⟩ := open_barrel h1 (hval 1 24 v1 rfl rfl)
  clear hA0 hval0
  refine (law3 v0 ms x W hms hlen).mono fun e W' ⟨he, hb⟩ => ?_
  subst he
  exact ⟨_, rfl, law_shut (by kernel_rfl) (of_decide_eq_true (by kernel_rfl)) rfl rfl hW' hb⟩

theorem brandGrades_holds : Rows.BrandGradesSaid :=
  OpenClaim.holds_of_wide 3 Try.f3 rfl rfl rfl rfl rfl rfl rfl ⟨rfl, rfl, rfl, rfl, rfl⟩ rfl rfl rfl rfl rfl (by kernel_rfl) Try.func3 (by kernel_rfl)
    (of_decide_eq_true (by kernel_rfl)) (by unfold Func.isWrapper; first | (rw [if_pos (by decide +kernel)]; kernel_rfl) | (rw [if_neg (by decide +kernel)]; exact ⟨rfl, rfl⟩))
    (fun os started H enc _ => lifted3 os started H enc)

end Go.Proofs.Ythpllmefbhjmmaa
