/-
  'packed07': the example of the laws over layers.
-/
import Derived.Test.YthpllmefbhjmmaaFirstYard
import Derived.Test.YthpllmefbhjmmaaWorks
namespace Go.Proofs.Ythpllmefbhjmmaa
open Go.RowKit Go.Maps Plain
attribute [local go_sem] Oper.semAt_some

abbrev exLoads : List Sp := [⟨1, 3⟩, ⟨2, 5⟩, ⟨4, 6⟩]
theorem ex_lots : lotsTo exLoads 3 = [0, 2] := by decide +kernel
theorem ex_odds2 : oddsR 4 2 2 0 = (1, 6, 0) := by decide +kernel

/-- The lots of the example. -/
def ExLots (w : World) (e : Ending) (w' : World) : Prop :=
  ∃ g : Nat, e = .returned (.tuple #[.slice (some ⟨g, 0, none⟩) 2 2, .int .i64 0]) ∧ (w'.cell? ⟨g, 0, none⟩ = some (.int .i64 0) ∧ w'.cell? ⟨g, 1, none⟩ = some (.int .i64 2)) ∧ Below w.heap.size w w'
theorem lots_ex (b : Nat) (w : World) (hl : SpsAt w (.slice (some ⟨b, 0, none⟩) 3 3) exLoads) : Calls Try.prog 30 #[.slice (some ⟨b, 0, none⟩) 3 3] w (ExLots w) := by
  refine (lots_good b 0 3 exLoads w hl (by decide) (by decide)).mono ?_
  rintro e w' ⟨g, he, hc, hB⟩
  rw [show exLoads.length = 3 from rfl, ex_lots] at he hc
  exact ⟨g, he, ⟨hc 0 0 rfl, hc 1 2 rfl⟩, hB⟩

theorem exYard_new (W : World) : CksAt (W.alloc (.cells #[.int .i64 9, .int .i64 9, .int .i64 5, .int .i64 1, .int .i64 3] 74)) (.slice (some ⟨W.heap.size, 0, none⟩) 1 1) exYard := by
  refine ⟨_, 1, rfl, fun i c hi => ?_⟩
  cases i with
  | zero =>
    simp only [List.getElem?_cons_zero, Option.some.injEq] at hi
    subst hi
    exact ⟨_, 0, rfl, by unfold CkAt; exact ⟨by go_simp, by go_simp, by go_simp, by go_simp, by go_simp⟩⟩
  | succ i => simp at hi
theorem exLoads_new (W : World) : SpsAt (W.alloc (.cells #[.int .i64 1, .int .i64 3, .int .i64 2, .int .i64 5, .int .i64 4, .int .i64 6] 47)) (.slice (some ⟨W.heap.size, 0, none⟩) 3 3) exLoads := by
  refine ⟨_, 3, rfl, fun i c hi => ⟨_, 0, rfl, ?_⟩⟩
  match i, hi with
  | 0, hi => simp at hi; subst hi; exact ⟨by go_simp, by go_simp⟩
  | 1, hi => simp at hi; subst hi; exact ⟨by go_simp, by go_simp⟩
  | 2, hi => simp at hi; subst hi; exact ⟨by go_simp, by go_simp⟩
  | i + 3, hi => simp at hi

theorem ints_two {w : World} {b : Nat} {x y : Int} (h0 : w.cell? ⟨b, 0, none⟩ = some (.int .i64 x)) (h1 : w.cell? ⟨b, 1, none⟩ = some (.int .i64 y)) : IntsAt w (.slice (some ⟨b, 0, none⟩) 2 2) [x, y] := by
  refine ⟨_, 2, rfl, fun i n hi => ⟨_, 0, rfl, ?_⟩⟩
  match i, hi with
  | 0, hi => simp at hi; subst hi; exact h0
  | 1, hi => simp at hi; subst hi; exact h1
  | i + 2, hi => simp at hi

set_option maxRecDepth 100000 in
set_option maxHeartbeats 1600000 in
theorem packed_is (w : World) : Calls Try.prog 31 #[] w fun e w' => e = .returned (.bool true) ∧ Below w.heap.size w w' := by
  go_enter Try.func31, Try.ntmps31
  go_wp2_with fail
  refine (to36 _ _ _).mono ?_
  rintro e w1 ⟨rfl, hB1⟩
  have HY := Lib.hid (exYard_new w1)
  have hB2 := below_more hB1 (.cells #[.int .i64 9, .int .i64 9, .int .i64 5, .int .i64 1, .int .i64 3] 74)
  have HB2 := Lib.hid hB2
  clear hB1 hB2
  go_wp2_with fail
  refine (first84 _ _ _ HY.out).mono ?_
  rintro e w2 ⟨rfl, hB3⟩
  have HB3 := Lib.hid (below_trans HB2.out hB3)
  clear hB3 HB2 HY
  go_wp2_with fail
  refine (to36 _ _ _).mono ?_
  rintro e w3 ⟨rfl, hB⟩
  have HB4 := Lib.hid (below_trans HB3.out hB)
  clear hB HB3
  go_wp2_with fail
  refine (to36 _ _ _).mono ?_
  rintro e w4 ⟨rfl, hB⟩
  have HB5 := Lib.hid (below_trans HB4.out hB)
  clear hB HB4
  go_wp2_with fail
  refine (to36 _ _ _).mono ?_
  rintro e w5 ⟨rfl, hB⟩
  have hB6 := below_trans HB5.out hB
  have HL := Lib.hid (exLoads_new w5)
  have HB6 := Lib.hid (below_more hB6 (.cells #[.int .i64 1, .int .i64 3, .int .i64 2, .int .i64 5, .int .i64 4, .int .i64 6] 47))
  clear hB hB6 HB5
  go_wp2_with fail
  refine (lots_ex _ _ HL.out).mono ?_
  rintro e w6 ⟨g, rfl, ⟨c0, c1⟩, hB⟩
  have HB7 := Lib.hid (below_trans HB6.out hB)
  have hg : g < w6.heap.size := World.block_lt_of_cell? w6 _ c0
  have HC := Lib.hid (And.intro c0 c1)
  clear hB HB6 HL c0 c1
  go_wp2_with fail
  refine (odds_ex 4 2 2 0 _ ex_odds2).mono ?_
  rintro e w7 ⟨rfl, hB⟩
  have c0 := (World.cell?_of_block (a := ⟨g, 0, none⟩) (hB.block _ hg)).trans HC.out.1
  have c1 := (World.cell?_of_block (a := ⟨g, 1, none⟩) (hB.block _ hg)).trans HC.out.2
  have HB8 := Lib.hid (below_trans HB7.out hB)
  clear hB HB7 HC hg
  go_wp2_with fail
  have hB9 := (HB8.out.alloc HB8.out.size (.cells #[.int .i64 1, .int .i64 6] 34)).alloc (by simp; have := HB8.out.size; omega) (.cells #[.int .i64 0, .int .i64 2] 3)
  have HB9 := Lib.hid hB9
  have hg7 : g < w7.heap.size := World.block_lt_of_cell? w7 _ c0
  have t0 : ((w7.alloc (.cells #[.int .i64 1, .int .i64 6] 34)).alloc (.cells #[.int .i64 0, .int .i64 2] 3)).cell? ⟨w7.heap.size, 0, none⟩ = some (.int .i64 1) := by go_simp
  have t1 : ((w7.alloc (.cells #[.int .i64 1, .int .i64 6] 34)).alloc (.cells #[.int .i64 0, .int .i64 2] 3)).cell? ⟨w7.heap.size, 1, none⟩ = some (.int .i64 6) := by go_simp
  have HT := Lib.hid (And.intro t0 t1)
  clear hB9 t0 t1
  refine (same_is _ _ [0, 2] _ (ints_two (by go_simp) (by go_simp)) (ints_two (by go_simp) (by go_simp)) (by decide)).mono ?_
  rintro e w8 ⟨rfl, hB⟩
  have u0 := (hB.cell (p := ⟨w7.heap.size, 0, none⟩) (by simp only [World.size_alloc]; omega)).trans HT.out.1
  have u1 := (hB.cell (p := ⟨w7.heap.size, 1, none⟩) (by simp only [World.size_alloc]; omega)).trans HT.out.2
  have HB10 := Lib.hid (below_trans HB9.out hB)
  clear hB HB9 HT HB8
  go_wp2_with fail
  go_ret
  exact ⟨rfl, HB10.out⟩

end Go.Proofs.Ythpllmefbhjmmaa
