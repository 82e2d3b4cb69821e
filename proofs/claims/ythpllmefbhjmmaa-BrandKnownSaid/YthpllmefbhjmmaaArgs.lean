/-
  The laws' arguments, opened: brands, barrels, rules, plans, odds, rows of numbers.
-/
import Derived.Test.YthpllmefbhjmmaaOpen
import Derived.Test.YthpllmefbhjmmaaPromised
namespace Go.Proofs.Ythpllmefbhjmmaa
open Go.ChangeShapes Go.WideShapes Go.ChangeAt Go.RowKit

theorem Try.own : ownKnob Try.prog.godebug = none := by kernel_rfl

section
variable {H : Type} {enc : TypeId × Value → H} {w : World} {base b0 : Nat} {spare : Nat → Bool} {held : Bool} {v : Value} {d : DataW H} {ps : List MemPlace} {r : Reach}

theorem two_of {l : List Int} (h : l.length = 2) : ∃ a b, l = [a, b] := by
  match l, h with
  | [a, b], _ => exact ⟨a, b, rfl⟩
theorem three_of {l : List Int} (h : l.length = 3) : ∃ a b c, l = [a, b, c] := by
  match l, h with
  | [a, b, c], _ => exact ⟨a, b, c, rfl⟩
theorem four_of {l : List Int} (h : l.length = 4) : ∃ a b c d, l = [a, b, c, d] := by
  match l, h with
  | [a, b, c, d], _ => exact ⟨a, b, c, d, rfl⟩
theorem six_of {l : List Int} (h : l.length = 6) : ∃ a b c d e f, l = [a, b, c, d, e, f] := by
  match l, h with
  | [a, b, c, d, e, f], _ => exact ⟨a, b, c, d, e, f, rfl⟩
theorem eight_of {l : List Int} (h : l.length = 8) : ∃ a b c d e f g i, l = [a, b, c, d, e, f, g, i] := by
  match l, h with
  | [a, b, c, d, e, f, g, i], _ => exact ⟨a, b, c, d, e, f, g, i, rfl⟩

set_option maxRecDepth 100000 in
theorem open_barrel (h : DataW.Trod enc Try.prog w base spare held 24 v d ps) (hv : Value.okWide Try.prog w r b0 24 v) : ∃ x : Br, v = brV x := by
  obtain ⟨ns, rfl, hl⟩ := open_flat (k := 4) (by kernel_rfl) (by kernel_rfl) hv h
  obtain ⟨a, b, c, d, rfl⟩ := four_of (hl.trans (by kernel_rfl))
  exact ⟨⟨a, b, c, d⟩, rfl⟩
set_option maxRecDepth 100000 in
theorem open_mark (h : DataW.Trod enc Try.prog w base spare held 62 v d ps) (hv : Value.okWide Try.prog w r b0 62 v) : ∃ x : Mk, v = mkV x := by
  obtain ⟨ns, rfl, hl⟩ := open_flat (k := 4) (by kernel_rfl) (by kernel_rfl) hv h
  obtain ⟨a, b, c, d, e, f, g, i, rfl⟩ := eight_of (hl.trans (by kernel_rfl))
  exact ⟨⟨⟨a, b⟩, ⟨c, d⟩, ⟨e, f⟩, ⟨g, i⟩⟩, rfl⟩
set_option maxRecDepth 100000 in
theorem open_rule (h : DataW.Trod enc Try.prog w base spare held 39 v d ps) (hv : Value.okWide Try.prog w r b0 39 v) : ∃ x : Rl, v = rlV x := by
  obtain ⟨ns, rfl, hl⟩ := open_flat (k := 4) (by kernel_rfl) (by kernel_rfl) hv h
  obtain ⟨a, b, c, d, e, f, rfl⟩ := six_of (hl.trans (by kernel_rfl))
  exact ⟨⟨a, b, c, d, e, f⟩, rfl⟩
set_option maxRecDepth 100000 in
theorem open_plan (h : DataW.Trod enc Try.prog w base spare held 32 v d ps) (hv : Value.okWide Try.prog w r b0 32 v) : ∃ x y, v = planV x y := by
  obtain ⟨ns, rfl, hl⟩ := open_flat (k := 4) (by kernel_rfl) (by kernel_rfl) hv h
  obtain ⟨a, b, rfl⟩ := two_of (hl.trans (by kernel_rfl))
  exact ⟨a, b, rfl⟩
set_option maxRecDepth 100000 in
theorem open_odds (h : DataW.Trod enc Try.prog w base spare held 34 v d ps) (hv : Value.okWide Try.prog w r b0 34 v) : ∃ x y, v = planV x y := by
  obtain ⟨ns, rfl, hl⟩ := open_flat (k := 4) (by kernel_rfl) (by kernel_rfl) hv h
  obtain ⟨a, b, rfl⟩ := two_of (hl.trans (by kernel_rfl))
  exact ⟨a, b, rfl⟩
set_option maxRecDepth 100000 in
theorem open_n2 (h : DataW.Trod enc Try.prog w base spare held 30 v d ps) (hv : Value.okWide Try.prog w r b0 30 v) : ∃ x y, v = planV x y := by
  obtain ⟨ns, rfl, hl⟩ := open_flat (k := 4) (by kernel_rfl) (by kernel_rfl) hv h
  obtain ⟨a, b, rfl⟩ := two_of (hl.trans (by kernel_rfl))
  exact ⟨a, b, rfl⟩
set_option maxRecDepth 100000 in
theorem open_n3 (h : DataW.Trod enc Try.prog w base spare held 45 v d ps) (hv : Value.okWide Try.prog w r b0 45 v) : ∃ x y z, v = .agg #[.int .i64 x, .int .i64 y, .int .i64 z] := by
  obtain ⟨ns, rfl, hl⟩ := open_flat (k := 4) (by kernel_rfl) (by kernel_rfl) hv h
  obtain ⟨a, b, c, rfl⟩ := three_of (hl.trans (by kernel_rfl))
  exact ⟨a, b, c, rfl⟩
set_option maxRecDepth 100000 in
theorem open_n4 (h : DataW.Trod enc Try.prog w base spare held 23 v d ps) (hv : Value.okWide Try.prog w r b0 23 v) : ∃ x : Br, v = brV x := by
  obtain ⟨ns, rfl, hl⟩ := open_flat (k := 4) (by kernel_rfl) (by kernel_rfl) hv h
  obtain ⟨a, b, c, d, rfl⟩ := four_of (hl.trans (by kernel_rfl))
  exact ⟨⟨a, b, c, d⟩, rfl⟩

/-- Brands, as a field or an argument. -/
theorem marks_of {cs : List Value} {fuel : Nat} {x : DataW H × List MemPlace} (h : DataW.trod enc Try.prog w base spare held fuel 22 cs = some x) (hz : ∀ n ∈ x.1.weights Try.prog 22, n ≤ reachBytes) :
    ∃ v ms, cs = [v] ∧ MarksAt w v ms ∧ ms.length ≤ 140737488351232 := by
  obtain ⟨a, nss, cap, rfl, hb, hc, hcell⟩ := open_flats (k := 4) (c := 8) Try.underlying22 (by kernel_rfl) (by kernel_rfl) h hz
  rw [show Try.prog.bytesOf 62 = 64 by kernel_rfl] at hb
  have e8 : ∀ ns ∈ nss, ∃ a b c d e f g i, ns = [a, b, c, d, e, f, g, i] := fun ns h => eight_of (hc ns h)
  refine ⟨_, nss.map fun ns => ⟨⟨ns.getD 0 0, ns.getD 1 0⟩, ⟨ns.getD 2 0, ns.getD 3 0⟩, ⟨ns.getD 4 0, ns.getD 5 0⟩, ⟨ns.getD 6 0, ns.getD 7 0⟩⟩, rfl, ⟨a, cap, by simp, fun i m hi => ?_⟩, by
    have : reachBytes ≤ 140737488351232 * 64 := by decide
    simp; omega⟩
  rw [List.getElem?_map, Option.map_eq_some_iff] at hi
  obtain ⟨ns, hi, rfl⟩ := hi
  obtain ⟨n0, n1, n2, n3, n4, n5, n6, n7, rfl⟩ := e8 ns (List.mem_of_getElem? hi)
  obtain ⟨b, off, rfl, k0⟩ := hcell i _ hi 0 n0 rfl
  have k : ∀ j n, [n0, n1, n2, n3, n4, n5, n6, n7][j]? = some n → w.cell? ⟨b, off + i * 8 + j, none⟩ = some (.int .i64 n) := fun j n hj => by
    obtain ⟨b', off', hbo, hk⟩ := hcell i _ hi j n hj
    injection hbo with hbo
    injection hbo with h1 h2
    subst h1; subst h2
    rw [Nat.add_assoc]; exact hk
  exact ⟨b, off, rfl, k 0 _ rfl, k 1 _ rfl, k 2 _ rfl, k 3 _ rfl, k 4 _ rfl, k 5 _ rfl, k 6 _ rfl, k 7 _ rfl⟩

theorem barrels_of {cs : List Value} {fuel : Nat} {x : DataW H × List MemPlace} (h : DataW.trod enc Try.prog w base spare held fuel 58 cs = some x) (hz : ∀ n ∈ x.1.weights Try.prog 58, n ≤ reachBytes) :
    ∃ v xs, cs = [v] ∧ BrsAt w v xs ∧ xs.length ≤ 140737488351232 := by
  obtain ⟨a, nss, cap, rfl, hb, hc, hcell⟩ := open_flats (k := 4) (c := 4) Try.underlying58 (by kernel_rfl) (by kernel_rfl) h hz
  rw [show Try.prog.bytesOf 24 = 32 by kernel_rfl] at hb
  have e4 : ∀ ns ∈ nss, ∃ a b c d, ns = [a, b, c, d] := fun ns h => four_of (hc ns h)
  refine ⟨_, nss.map fun ns => ⟨ns.getD 0 0, ns.getD 1 0, ns.getD 2 0, ns.getD 3 0⟩, rfl, ⟨a, cap, by simp, fun i m hi => ?_⟩, by
    have : reachBytes ≤ 140737488351232 * 32 := by decide
    simp; omega⟩
  rw [List.getElem?_map, Option.map_eq_some_iff] at hi
  obtain ⟨ns, hi, rfl⟩ := hi
  obtain ⟨n0, n1, n2, n3, rfl⟩ := e4 ns (List.mem_of_getElem? hi)
  obtain ⟨b, off, rfl, k0⟩ := hcell i _ hi 0 n0 rfl
  have k : ∀ j n, [n0, n1, n2, n3][j]? = some n → w.cell? ⟨b, off + i * 4 + j, none⟩ = some (.int .i64 n) := fun j n hj => by
    obtain ⟨b', off', hbo, hk⟩ := hcell i _ hi j n hj
    injection hbo with hbo
    injection hbo with h1 h2
    subst h1; subst h2
    rw [Nat.add_assoc]; exact hk
  exact ⟨b, off, rfl, k 0 _ rfl, k 1 _ rfl, k 2 _ rfl, k 3 _ rfl⟩

set_option maxRecDepth 100000 in
theorem open_marks (h : DataW.Trod enc Try.prog w base spare held 22 v d ps) (hv : Value.okWide Try.prog w r b0 22 v) (hz : ∀ n ∈ d.weights Try.prog 22, n ≤ reachBytes) :
    ∃ ms, MarksAt w v ms ∧ ms.length ≤ 140737488351232 := by
  obtain ⟨a, len, cap, rfl⟩ := okWide_slice Try.underlying22 hv
  obtain ⟨fuel, hf⟩ := h
  obtain ⟨v, ms, he, hm, hl⟩ := marks_of hf hz
  simp [Value.cells] at he
  subst he
  exact ⟨ms, hm, hl⟩
end

end Go.Proofs.Ythpllmefbhjmmaa
