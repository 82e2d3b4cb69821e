/-
  Rows of numbers as arguments, with their bounds.
-/
import Derived.Test.YthpllmefbhjmmaaArgs
namespace Go.Proofs.Ythpllmefbhjmmaa
open Go.ChangeShapes Go.WideShapes Go.ChangeAt Go.RowKit

/-- A number that fits. -/
def fits (n : Int) : Prop := -9223372036854775808 ≤ n ∧ n ≤ 9223372036854775807

section
variable {H : Type} {enc : TypeId × Value → H} {w : World} {base b0 : Nat} {spare : Nat → Bool} {held : Bool} {v : Value} {d : DataW H} {ps : List MemPlace} {r : Reach}

theorem open_flat_fits {P : Program} {k : Nat} {t : TypeId} (hk : flatI P k t = true) (hag : isAgg P t = true) (hv : Value.okWide P w r b0 t v) (h : DataW.Trod enc P w base spare held t v d ps) :
    ∃ ns : List Int, v = .agg (ns.map (.int .i64)).toArray ∧ ns.length = P.cellsOf t ∧ ∀ n ∈ ns, fits n := by
  obtain ⟨ns, rfl, hl⟩ := open_flat hk hag hv h
  refine ⟨ns, rfl, hl, fun n hn => ?_⟩
  obtain ⟨fuel, hf⟩ := h
  obtain ⟨_, hc⟩ := flat_cells k t _ fuel _ hk hf
  obtain ⟨i, hi⟩ := List.getElem?_of_mem hn
  obtain ⟨m, hm, hw⟩ := hc i (.int .i64 n) (by simp [Value.cells, hi])
  injection hm with _ hm
  subst hm
  exact bounds_i64 hw

set_option maxRecDepth 100000 in
theorem open_n4_fits (h : DataW.Trod enc Try.prog w base spare held 23 v d ps) (hv : Value.okWide Try.prog w r b0 23 v) : ∃ x : Br, v = brV x ∧ fits x.b0 ∧ fits x.b1 ∧ fits x.b2 ∧ fits x.b3 := by
  obtain ⟨ns, rfl, hl, hb⟩ := open_flat_fits (k := 4) (by kernel_rfl) (by kernel_rfl) hv h
  obtain ⟨a, b, c, d, rfl⟩ := four_of (hl.trans (by kernel_rfl))
  exact ⟨⟨a, b, c, d⟩, rfl, hb a (by simp), hb b (by simp), hb c (by simp), hb d (by simp)⟩
set_option maxRecDepth 100000 in
theorem open_n3_fits (h : DataW.Trod enc Try.prog w base spare held 45 v d ps) (hv : Value.okWide Try.prog w r b0 45 v) : ∃ x y z, v = .agg #[.int .i64 x, .int .i64 y, .int .i64 z] ∧ fits x ∧ fits y ∧ fits z := by
  obtain ⟨ns, rfl, hl, hb⟩ := open_flat_fits (k := 4) (by kernel_rfl) (by kernel_rfl) hv h
  obtain ⟨a, b, c, rfl⟩ := three_of (hl.trans (by kernel_rfl))
  exact ⟨a, b, c, rfl, hb a (by simp), hb b (by simp), hb c (by simp)⟩
end

end Go.Proofs.Ythpllmefbhjmmaa
