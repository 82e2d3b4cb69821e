/-
  The argument 'Lot', opened.
-/
import Derived.Test.YthpllmefbhjmmaaArgs
namespace Go.Proofs.Ythpllmefbhjmmaa
open Go.ChangeShapes Go.WideShapes Go.ChangeAt Go.RowKit

/-- A lot as it is handed in: brands, how many barrels, a rule, the opened ones. -/
abbrev lotA (mv : Value) (N : Int) (r : Rl) (ov : Value) : Value := .agg #[mv, .int .i64 N, .int .i64 r.g, .int .i64 r.po, .int .i64 r.pi, .int .i64 r.b, .int .i64 r.fo, .int .i64 r.fi, ov]

theorem nine_of {α : Type} {l : List α} (h : l.length = 9) : ∃ a b c d e f g i j, l = [a, b, c, d, e, f, g, i, j] := by
  match l, h with
  | [a, b, c, d, e, f, g, i, j], _ => exact ⟨a, b, c, d, e, f, g, i, j, rfl⟩

section
variable {H : Type} {enc : TypeId × Value → H} {w : World} {base b0 : Nat} {spare : Nat → Bool} {held : Bool} {v : Value} {d : DataW H} {ps : List MemPlace} {r : Reach}

theorem cells22 : Try.prog.cellsOf 22 = 1 := by kernel_rfl
theorem cells39 : Try.prog.cellsOf 39 = 6 := by kernel_rfl
theorem cells58 : Try.prog.cellsOf 58 = 1 := by kernel_rfl
theorem cells67 : Try.prog.cellsOf 67 = 9 := by kernel_rfl

set_option maxRecDepth 100000 in
theorem open_lot (h : DataW.Trod enc Try.prog w base spare held 67 v d ps) (hv : Value.okWide Try.prog w r b0 67 v) (hz : ∀ n ∈ d.weights Try.prog 67, n ≤ reachBytes) :
    ∃ mv N r ov ms xs, v = lotA mv N r ov ∧ MarksAt w mv ms ∧ ms.length ≤ 140737488351232 ∧ BrsAt w ov xs ∧ xs.length ≤ 140737488351232 := by
  obtain ⟨cs, rfl, hsz⟩ := okWide_struct Try.underlying67 hv
  obtain ⟨fuel, hf⟩ := h
  obtain ⟨xs, n, _, hx, hl, hlen, hfs⟩ := DataW.trod_struct Try.underlying67 hf
  obtain ⟨l⟩ := cs
  obtain ⟨c0, c1, c2, c3, c4, c5, c6, c7, c8, rfl⟩ := nine_of (hl.trans cells67)
  have f0 : DataW.trod enc Try.prog w base spare held n 22 (([c0, c1, c2, c3, c4, c5, c6, c7, c8].drop 0).take (Try.prog.cellsOf 22)) = xs[0]? := hfs 0 _ rfl
  have f1 : DataW.trod enc Try.prog w base spare held n 3 (([c0, c1, c2, c3, c4, c5, c6, c7, c8].drop 1).take (Try.prog.cellsOf 3)) = xs[1]? := hfs 1 _ rfl
  have f2 : DataW.trod enc Try.prog w base spare held n 39 (([c0, c1, c2, c3, c4, c5, c6, c7, c8].drop 2).take (Try.prog.cellsOf 39)) = xs[2]? := hfs 2 _ rfl
  have f3 : DataW.trod enc Try.prog w base spare held n 58 (([c0, c1, c2, c3, c4, c5, c6, c7, c8].drop 8).take (Try.prog.cellsOf 58)) = xs[3]? := hfs 3 _ rfl
  have hl4 : xs.length = 4 := hlen
  obtain ⟨x0, x1, x2, x3, rfl⟩ : ∃ x0 x1 x2 x3, xs = [x0, x1, x2, x3] := by
    match xs, hl4 with
    | [a, b, c, d], _ => exact ⟨a, b, c, d, rfl⟩
  replace f0 : DataW.trod enc Try.prog w base spare held n 22 [c0] = some x0 := by rw [cells22] at f0; exact f0
  replace f1 : DataW.trod enc Try.prog w base spare held n 3 [c1] = some x1 := by rw [show Try.prog.cellsOf 3 = 1 by kernel_rfl] at f1; exact f1
  replace f2 : DataW.trod enc Try.prog w base spare held n 39 [c2, c3, c4, c5, c6, c7] = some x2 := by rw [cells39] at f2; exact f2
  replace f3 : DataW.trod enc Try.prog w base spare held n 58 [c8] = some x3 := by rw [cells58] at f3; exact f3
  have hd : d = .agg [x0.1, x1.1, x2.1, x3.1] := by injection hx
  subst hd
  have hw : (DataW.agg [x0.1, x1.1, x2.1, x3.1]).weights Try.prog 67 = DataW.weightsEach Try.prog [22, 3, 39, 58] [x0.1, x1.1, x2.1, x3.1] := by
    unfold DataW.weights; rw [Try.underlying67]; rfl
  rw [hw] at hz
  obtain ⟨mv, ms, e0, hm, hml⟩ := marks_of f0 (fun n hn => hz n (DataW.weights_mem_each (j := 0) rfl rfl n hn))
  obtain ⟨ov, os, e3, ho, hol⟩ := barrels_of f3 (fun n hn => hz n (DataW.weights_mem_each (j := 3) rfl rfl n hn))
  obtain ⟨N, e1, _, _⟩ := DataW.trod_int Try.underlying3 f1
  obtain ⟨_, hc⟩ := flat_cells 4 39 _ n _ (by kernel_rfl) f2
  obtain ⟨ns, hns⟩ := ints_of_cells _ hc
  have hl6 : ns.length = 6 := by have := congrArg List.length hns; simpa using this.symm
  obtain ⟨r0, r1, r2, r3, r4, r5, rfl⟩ := six_of hl6
  injection e0 with e0
  injection e1 with e1
  injection e3 with e3
  simp only [List.map_cons, List.map_nil, List.cons.injEq, and_true] at hns
  obtain ⟨k0, k1, k2, k3, k4, k5⟩ := hns
  subst e0; subst e1; subst e3; subst k0; subst k1; subst k2; subst k3; subst k4; subst k5
  exact ⟨_, _, ⟨r0, r1, r2, r3, r4, r5⟩, _, ms, os, rfl, hm, hml, ho, hol⟩
end

end Go.Proofs.Ythpllmefbhjmmaa
