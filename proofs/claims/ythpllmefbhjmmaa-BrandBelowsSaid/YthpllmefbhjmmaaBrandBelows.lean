/-
  'BrandBelows' returns true, for any numbers and doubt: no condition.
-/
import Derived.Test.YthpllmefbhjmmaaWorks
import Derived.Test.YthpllmefbhjmmaaRefBelow
import Derived.Test.YthpllmefbhjmmaaArgs
namespace Go.Proofs.Ythpllmefbhjmmaa
open Go.ChangeShapes Go.WideShapes Go.ChangeAt Go.RowKit Plain

/-- The law's two blocks: three numbers; the doubt. -/
def NumDo (w : World) (a b c x y : Int) (w' : World) : Prop :=
  (w'.cell? ⟨w.heap.size, 0, none⟩ = some (.int .i64 a) ∧ w'.cell? ⟨w.heap.size, 1, none⟩ = some (.int .i64 b) ∧ w'.cell? ⟨w.heap.size, 2, none⟩ = some (.int .i64 c)) ∧ TwoAt w' (w.heap.size + 1) (.int .i64 x) (.int .i64 y) ∧ Below w.heap.size w w'
theorem NumDo.lt {w : World} {a b c x y : Int} {w' : World} (h : NumDo w a b c x y w') : w.heap.size + 1 < w'.heap.size := World.block_lt_of_cell? _ _ h.2.1.1
theorem NumDo.below {w : World} {a b c x y : Int} {w' w2 : World} (h : NumDo w a b c x y w') (hB : Below w'.heap.size w' w2) : NumDo w a b c x y w2 := by
  have hl := h.lt
  obtain ⟨⟨h0, h1, h2⟩, h3, hb⟩ := h
  have k : ∀ i, w2.cell? ⟨w.heap.size, i, none⟩ = w'.cell? ⟨w.heap.size, i, none⟩ := fun i => World.cell?_of_block (a := ⟨w.heap.size, i, none⟩) (hB.block _ (by simp; omega))
  exact ⟨⟨(k _).trans h0, (k _).trans h1, (k _).trans h2⟩, h3.below hB hl, below_trans hb hB⟩
theorem NumDo.start (w : World) (a b c x y : Int) : NumDo w a b c x y ((w.alloc (.cells #[.int .i64 a, .int .i64 b, .int .i64 c] 45)).alloc (.cells #[.int .i64 x, .int .i64 y] 34)) := by
  have key : ∀ W : World, TwoAt (W.alloc (.cells #[.int .i64 x, .int .i64 y] 34)) W.heap.size (.int .i64 x) (.int .i64 y) := fun W => by unfold TwoAt; go_simp
  have HP := key (w.alloc (.cells #[.int .i64 a, .int .i64 b, .int .i64 c] 45))
  rw [World.size_alloc] at HP
  exact ⟨⟨by go_simp, by go_simp, by go_simp⟩, HP, (below_alloc _).alloc (by simp) _⟩

set_option maxRecDepth 100000 in
set_option maxHeartbeats 1600000 in
theorem law6 (N o f dof din : Int) (w : World) :
    Calls Try.prog 6 #[.agg #[.int .i64 N, .int .i64 o, .int .i64 f], planV dof din] w fun e w' => e = .returned (.bool true) ∧ Below w.heap.size w w' := by
  obtain ⟨z, hz⟩ : ∃ z, belowR N o f dof din = z := ⟨_, rfl⟩
  have Hz := Lib.hid hz
  clear hz
  obtain ⟨z1, z2, z3⟩ := z
  have HS := Lib.hid (NumDo.start w N o f dof din)
  go_enter Try.func6, Try.ntmps6
  go_wp2_with fail
  refine (below_ex N o f dof din _ Hz.out).mono ?_
  rintro e w1 ⟨rfl, hB1⟩
  have hS1 := HS.out.below hB1
  have HS2 := Lib.hid (hS1.below (below_alloc (w := w1) (.cells #[.int .i64 z1, .int .i64 z2] 47)))
  obtain ⟨⟨a0, a1, a2⟩, ⟨b0, b1⟩, _⟩ := hS1
  have l1 : w.heap.size + 1 < w1.heap.size := World.block_lt_of_cell? _ _ b0
  have l0 : w.heap.size < w1.heap.size := by omega
  have P0 : TwoAt (w1.alloc (.cells #[.int .i64 z1, .int .i64 z2] 47)) w1.heap.size (.int .i64 z1) (.int .i64 z2) := by unfold TwoAt; go_simp
  have hz0 : w1.heap.size < (w1.alloc (.cells #[.int .i64 z1, .int .i64 z2] 47)).heap.size := by simp
  clear hB1 HS
  go_wp2_with fail
  refine (belowRef_ex N o f dof din _ Hz.out).mono ?_
  rintro e w2 ⟨rfl, hB2⟩
  obtain ⟨p0, p1⟩ := P0.below hB2 hz0
  have hz1 : w1.heap.size < w2.heap.size := by have := hB2.size; omega
  have hB4 := below_more (HS2.out.below hB2).2.2 (.cells #[.int .i64 z1, .int .i64 z2] 47)
  clear hB2 HS2 P0 a0 a1 a2 b0 b1
  go_wp2_with fail
  refine (works_is _).mono ?_
  rintro e w3 ⟨rfl, hB3⟩
  have hB5 := below_trans hB4 hB3
  clear hB3 hB4
  go_wp2_with fail
  go_ret
  exact ⟨rfl, hB5⟩

set_option maxRecDepth 100000 in
theorem lifted6 (os : Os) (started : os.Started) (H : Type) (enc : TypeId × Value → H) :
    ReturnsInHanded {} Try.checked os 6 .any (Rows.brandBelowsSpec.pre6 enc Try.prog Try.f6 Rows.brandBelowsRow.domain false) (Rows.brandBelowsSpec.post enc Try.prog Try.f6 false true false false) := by
  refine returnsInHanded_of_change_sized (C := Try.checked) Try.own started (by kernel_rfl) Try.func6
    (ChangeSpec.witness6 (enc := enc) (C := Try.checked) false ⟨#[], #[.agg #[.int .i64 0, .int .i64 0, .int .i64 0], .agg #[.int .i64 0, .int .i64 0]], []⟩ 8 (by kernel_rfl) (by kernel_rfl) (by kernel_rfl) (by kernel_rfl)) ?_
  intro W base args ds gs before hval0 hW _ _ _
  have hval : ∀ (j : Nat) t v, Try.f6.params[j]? = some t → args[j]? = some v → Value.okWide Try.prog W .any base t v := hval0
  have hW' := hW
  obtain ⟨p, q, hA0, hV, rfl, _, _⟩ := hW
  have hA : DataW.TrodAll enc Try.prog W 0 (fun _ => true) true Try.f6.params.toList args.toList ds p := hA0
  rw [Try.params6] at hA hval
  obtain ⟨v0, v1, d0, d1, p0, p1, rfl, rfl, rfl, h0, h1⟩ := trodAll_two hA
  obtain ⟨rfl, rfl⟩ := trodVars_none hV
  obtain ⟨N, o, f, rfl⟩ := open_n3 h0 (hval 0 45 v0 rfl rfl)
  obtain ⟨x, y, rfl⟩ := open_odds h1 (hval 1 34 v1 rfl rfl)
  clear hA0 hval0
  refine (law6 N o f x y W).mono fun e W' ⟨he, hb⟩ => ?_
  subst he
  exact ⟨_, rfl, law_shut (by kernel_rfl) (of_decide_eq_true (by kernel_rfl)) rfl rfl hW' hb⟩

theorem brandBelows_holds : Rows.BrandBelowsSaid :=
  OpenClaim.holds_of_wide 6 Try.f6 rfl rfl rfl rfl rfl rfl rfl ⟨rfl, rfl, rfl, rfl, rfl⟩ rfl rfl rfl rfl rfl (by kernel_rfl) Try.func6 (by kernel_rfl)
    (of_decide_eq_true (by kernel_rfl)) (by unfold Func.isWrapper; first | (rw [if_pos (by decide +kernel)]; kernel_rfl) | (rw [if_neg (by decide +kernel)]; exact ⟨rfl, rfl⟩))
    (fun os started H enc _ => lifted6 os started H enc)

end Go.Proofs.Ythpllmefbhjmmaa
