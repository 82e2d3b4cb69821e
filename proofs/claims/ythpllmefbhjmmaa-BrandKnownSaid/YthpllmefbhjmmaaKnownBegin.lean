/-
  The bad brands of 'BrandKnown': a statement that makes memory in whatever order.
-/
import Derived.Test.YthpllmefbhjmmaaFree
import Derived.Test.YthpllmefbhjmmaaWorks
import Derived.Test.YthpllmefbhjmmaaOddsLaw
namespace Go.Proofs.Ythpllmefbhjmmaa
open Go.RowKit Go.Maps Plain
attribute [local go_sem] Oper.semAt_some

theorem wpOp_at {P : Program} {ops : Array Oper} {Q : Exit → Act → World → Prop} {i : Nat} {o : Oper} {K : Act → World → Prop} {a : Act} {w : World} (ho : ops[i]? = some o) (hg : o.guard = none) (h : o.wp P a w K Q) : wpOp P ops Q i K a w := by
  unfold wpOp
  rw [ho]
  simp only [Region.wanted, hg, if_true]
  exact .inl h

def zSp : Sp := ⟨0, 0⟩
def bad1 : List Mk := List.replicate 6 ⟨⟨0, 0⟩, ⟨0, 0⟩, ⟨0, 0⟩, ⟨0, 0⟩⟩
def bad2 : List Mk := [⟨⟨5, 4⟩, ⟨0, 0⟩, ⟨0, 0⟩, ⟨0, 0⟩⟩]
def bad3 : List Mk := [⟨⟨0, 0⟩, ⟨0, 1001⟩, ⟨0, 0⟩, ⟨0, 0⟩⟩]
def bad4 : List Mk := [⟨⟨0, 0⟩, ⟨0, 0⟩, ⟨0, 0⟩, ⟨-1, 0⟩⟩]
/-- The row of the bad brands. -/
def BadsAt (x : Value) (w : World) : Prop := ∃ (g : Nat) (u1 u2 u3 u4 : Value), x = .slice (some ⟨g, 0, none⟩) 5 5 ∧
  (w.cell? ⟨g, 0, none⟩ = some (.slice none 0 0) ∧ w.cell? ⟨g, 1, none⟩ = some u1 ∧ w.cell? ⟨g, 2, none⟩ = some u2 ∧ w.cell? ⟨g, 3, none⟩ = some u3 ∧ w.cell? ⟨g, 4, none⟩ = some u4) ∧ MarksAt w u1 bad1 ∧ MarksAt w u2 bad2 ∧ MarksAt w u3 bad3 ∧ MarksAt w u4 bad4
theorem BadsAt.below {x : Value} {w w' : World} (h : BadsAt x w) (hB : Below w.heap.size w w') : BadsAt x w' := by
  obtain ⟨g, u1, u2, u3, u4, hx, ⟨c0, c1, c2, c3, c4⟩, m1, m2, m3, m4⟩ := h
  have k : ∀ i u, w.cell? ⟨g, i, none⟩ = some u → w'.cell? ⟨g, i, none⟩ = some u := fun i u hc => (World.cell?_of_block (a := ⟨g, i, none⟩) (hB.block _ (World.block_lt_of_cell? w _ hc))).trans hc
  exact ⟨g, u1, u2, u3, u4, hx, ⟨k _ _ c0, k _ _ c1, k _ _ c2, k _ _ c3, k _ _ c4⟩, m1.below hB, m2.below hB, m3.below hB, m4.below hB⟩

/-- What each operation of the statement yields. -/
def Gd : Nat → Value → World → Prop
  | 0, x, w => MarksAt w x bad1
  | 1, x, _ => x = .agg #[.int .i64 5, .int .i64 4]
  | 2, x, _ => x = .agg #[.int .i64 5, .int .i64 4, .int .i64 0, .int .i64 0, .int .i64 0, .int .i64 0, .int .i64 0, .int .i64 0]
  | 3, x, w => MarksAt w x bad2
  | 4, x, _ => x = .agg #[.int .i64 0, .int .i64 0]
  | 5, x, _ => x = .agg #[.int .i64 0, .int .i64 1001]
  | 6, x, _ => x = .agg #[.int .i64 0, .int .i64 0, .int .i64 0, .int .i64 1001, .int .i64 0, .int .i64 0, .int .i64 0, .int .i64 0]
  | 7, x, w => MarksAt w x bad3
  | 8, x, _ => x = .agg #[.int .i64 0, .int .i64 0]
  | 9, x, _ => x = .agg #[.int .i64 0, .int .i64 0]
  | 10, x, _ => x = .agg #[.int .i64 0, .int .i64 0]
  | 11, x, _ => x = .agg #[.int .i64 (-1), .int .i64 0]
  | 12, x, _ => x = .agg #[.int .i64 0, .int .i64 0, .int .i64 0, .int .i64 0, .int .i64 0, .int .i64 0, .int .i64 (-1), .int .i64 0]
  | 13, x, w => MarksAt w x bad4
  | 14, x, w => BadsAt x w
  | 15, x, w => BadsAt x w
  | _ + 16, _, _ => True
theorem Gd.below {i : Nat} {x : Value} {w w' : World} (h : Gd i x w) (hB : Below w.heap.size w w') : Gd i x w' := by
  match i, h with
  | 0, h => exact MarksAt.below h hB
  | 1, h => exact h
  | 2, h => exact h
  | 3, h => exact MarksAt.below h hB
  | 4, h => exact h
  | 5, h => exact h
  | 6, h => exact h
  | 7, h => exact MarksAt.below h hB
  | 8, h => exact h
  | 9, h => exact h
  | 10, h => exact h
  | 11, h => exact h
  | 12, h => exact h
  | 13, h => exact MarksAt.below h hB
  | 14, h => exact BadsAt.below h hB
  | 15, h => exact BadsAt.below h hB
  | _ + 16, _ => exact trivial

def upd (v : Nat → Value) (i : Nat) (x : Value) : Nat → Value := fun j => if j = i then x else v j
/-- All that came up is what it is to be; all else is as it was. -/
def KnI (W0 : World) (listed : Array Bool) (v : Nat → Value) (w : World) : Prop := Below W0.heap.size W0 w ∧ ∀ j, listed.getD j false = true → Gd j (v j) w
theorem KnI.step {W0 : World} {listed : Array Bool} {v : Nat → Value} {w w' : World} {i : Nat} {x : Value} (h : KnI W0 listed v w) (hB : Below w.heap.size w w') (hx : Gd i x w') : KnI W0 (listed.setIfInBounds i true) (upd v i x) w' := by
  refine ⟨below_trans h.1 hB, fun j hj => ?_⟩
  unfold upd
  by_cases e : j = i
  · subst e; rw [if_pos rfl]; exact hx
  · rw [if_neg e]
    refine (h.2 j ?_).below hB
    rw [← hj]
    simp [Array.getD_eq_getD_getElem?, Ne.symm e]
theorem KnI.same {W0 : World} {listed : Array Bool} {v : Nat → Value} {w : World} {i : Nat} {x : Value} (h : KnI W0 listed v w) (hx : Gd i x w) : KnI W0 (listed.setIfInBounds i true) (upd v i x) w := h.step (Below.refl _ _) hx

/-- The frame of the walk at that statement, the slots that it writes by name. -/
def mkA (v : Nat → Value) : Act := { tmps := #[.bool false, v 15, undef, undef, undef, undef, undef, undef, undef, undef, undef, undef, undef, undef, undef, undef, undef, undef, undef, undef, undef, undef, undef, undef, undef, undef, undef, undef, undef, undef, undef, undef, undef, undef, undef, undef, undef, undef, undef, undef, undef, undef, undef, undef, undef, undef, undef, undef, undef, undef, undef, undef, undef, undef, undef, undef, undef, undef, undef, undef, v 0, v 1, v 2, v 3, v 4, v 5, v 6, v 7, v 8, v 9, v 10, v 11, v 12, v 13, v 14, undef, undef, undef, undef, undef, undef, undef, undef, undef, undef, undef, undef, undef, undef, undef, undef, undef, undef, undef, undef, undef, undef, undef, undef, undef, undef, undef, undef, undef, undef, undef, undef, undef, undef, undef, undef, undef, undef, undef, undef, undef, undef, undef, undef, undef, undef, undef, undef, undef, undef, undef, undef, undef, undef, undef, undef, undef, undef, undef, undef, undef, undef, undef, undef, undef, undef, undef, undef, undef, undef, undef, undef, undef, undef, undef, undef, undef, undef, undef, undef, undef, undef, undef, undef, undef, undef, undef, undef, undef, undef, undef, undef, undef, undef, undef, undef, undef, undef, undef, undef, undef, undef, undef, undef, undef, undef, undef, undef, undef, undef, undef, undef, undef, undef, undef, undef, undef, undef, undef, undef, undef, undef, undef, undef, undef, undef, undef, undef, undef, undef, undef, undef, undef, undef, undef, undef, undef, undef, undef, undef, undef, undef, undef, undef, undef, undef, undef, undef, undef, undef, undef, undef, undef, undef, undef, undef, undef, undef, undef, undef, undef, undef, undef, undef, undef, undef, undef, undef, undef, undef, undef, undef, undef, undef, undef, undef, undef, undef, undef, undef, undef, undef, undef, undef, undef, undef, undef, undef, undef, undef, undef, undef, undef, undef, undef, undef, undef, undef, undef, undef, undef, undef, undef, undef, undef, undef, undef, undef, undef, undef, undef, undef, undef, undef, undef, undef, undef, undef, undef, undef, undef, undef, undef, undef, undef, undef, undef, undef, undef, undef, undef, undef, undef, undef, undef, undef, undef, undef, undef, undef, undef, undef, undef, undef, undef, undef, undef, undef, undef, undef, undef, undef, undef, undef, undef, undef, undef, undef, undef, undef, undef, undef, undef, undef, undef, undef, undef, undef, undef, undef, undef, undef, undef, undef, undef, undef, undef, undef, undef, undef, undef, undef, undef, undef, undef, undef, undef, undef, undef, undef, undef, undef, undef, undef, undef, undef, undef, undef, undef, undef, undef, undef, undef, undef, undef, undef, undef, undef, undef, undef, undef, undef, undef, undef, undef, undef, undef, undef, undef, undef, undef, undef, undef, undef, undef, undef, undef, undef, undef, undef, undef, undef, undef, undef, undef, undef, undef, undef, undef, undef, undef, undef, undef, undef, undef, undef, undef, undef, undef, undef, undef, undef, undef, undef, undef, undef, undef, undef, undef, undef, undef, undef, undef, undef, undef, undef, undef, undef, undef, undef, undef, undef, undef, undef, undef, undef, undef, undef, undef, undef], defers := [] }
/-- The invariant of the statement. -/
def KnInv (W0 : World) (listed : Array Bool) (a : Act) (w : World) : Prop := ∃ v, a = mkA v ∧ listed.size = 16 ∧ KnI W0 listed v w

set_option maxRecDepth 100000 in
theorem put0 (v : Nat → Value) (x : Value) : (mkA v).put (some 60) x = mkA (upd v 0 x) := by simp [mkA, Act.put, upd]
set_option maxRecDepth 100000 in
theorem put1 (v : Nat → Value) (x : Value) : (mkA v).put (some 61) x = mkA (upd v 1 x) := by simp [mkA, Act.put, upd]
set_option maxRecDepth 100000 in
theorem put2 (v : Nat → Value) (x : Value) : (mkA v).put (some 62) x = mkA (upd v 2 x) := by simp [mkA, Act.put, upd]
set_option maxRecDepth 100000 in
theorem put3 (v : Nat → Value) (x : Value) : (mkA v).put (some 63) x = mkA (upd v 3 x) := by simp [mkA, Act.put, upd]
set_option maxRecDepth 100000 in
theorem put4 (v : Nat → Value) (x : Value) : (mkA v).put (some 64) x = mkA (upd v 4 x) := by simp [mkA, Act.put, upd]
set_option maxRecDepth 100000 in
theorem put5 (v : Nat → Value) (x : Value) : (mkA v).put (some 65) x = mkA (upd v 5 x) := by simp [mkA, Act.put, upd]
set_option maxRecDepth 100000 in
theorem put6 (v : Nat → Value) (x : Value) : (mkA v).put (some 66) x = mkA (upd v 6 x) := by simp [mkA, Act.put, upd]
set_option maxRecDepth 100000 in
theorem put7 (v : Nat → Value) (x : Value) : (mkA v).put (some 67) x = mkA (upd v 7 x) := by simp [mkA, Act.put, upd]
set_option maxRecDepth 100000 in
theorem put8 (v : Nat → Value) (x : Value) : (mkA v).put (some 68) x = mkA (upd v 8 x) := by simp [mkA, Act.put, upd]
set_option maxRecDepth 100000 in
theorem put9 (v : Nat → Value) (x : Value) : (mkA v).put (some 69) x = mkA (upd v 9 x) := by simp [mkA, Act.put, upd]
set_option maxRecDepth 100000 in
theorem put10 (v : Nat → Value) (x : Value) : (mkA v).put (some 70) x = mkA (upd v 10 x) := by simp [mkA, Act.put, upd]
set_option maxRecDepth 100000 in
theorem put11 (v : Nat → Value) (x : Value) : (mkA v).put (some 71) x = mkA (upd v 11 x) := by simp [mkA, Act.put, upd]
set_option maxRecDepth 100000 in
theorem put12 (v : Nat → Value) (x : Value) : (mkA v).put (some 72) x = mkA (upd v 12 x) := by simp [mkA, Act.put, upd]
set_option maxRecDepth 100000 in
theorem put13 (v : Nat → Value) (x : Value) : (mkA v).put (some 73) x = mkA (upd v 13 x) := by simp [mkA, Act.put, upd]
set_option maxRecDepth 100000 in
theorem put14 (v : Nat → Value) (x : Value) : (mkA v).put (some 74) x = mkA (upd v 14 x) := by simp [mkA, Act.put, upd]
set_option maxRecDepth 100000 in
theorem put15 (v : Nat → Value) (x : Value) : (mkA v).put (some 1) x = mkA (upd v 15 x) := by simp [mkA, Act.put, upd]
set_option maxRecDepth 100000 in
theorem get0 (v : Nat → Value) : (mkA v).tmps[60]?.getD undef = v 0 := rfl
set_option maxRecDepth 100000 in
theorem get1 (v : Nat → Value) : (mkA v).tmps[61]?.getD undef = v 1 := rfl
set_option maxRecDepth 100000 in
theorem get2 (v : Nat → Value) : (mkA v).tmps[62]?.getD undef = v 2 := rfl
set_option maxRecDepth 100000 in
theorem get3 (v : Nat → Value) : (mkA v).tmps[63]?.getD undef = v 3 := rfl
set_option maxRecDepth 100000 in
theorem get4 (v : Nat → Value) : (mkA v).tmps[64]?.getD undef = v 4 := rfl
set_option maxRecDepth 100000 in
theorem get5 (v : Nat → Value) : (mkA v).tmps[65]?.getD undef = v 5 := rfl
set_option maxRecDepth 100000 in
theorem get6 (v : Nat → Value) : (mkA v).tmps[66]?.getD undef = v 6 := rfl
set_option maxRecDepth 100000 in
theorem get7 (v : Nat → Value) : (mkA v).tmps[67]?.getD undef = v 7 := rfl
set_option maxRecDepth 100000 in
theorem get8 (v : Nat → Value) : (mkA v).tmps[68]?.getD undef = v 8 := rfl
set_option maxRecDepth 100000 in
theorem get9 (v : Nat → Value) : (mkA v).tmps[69]?.getD undef = v 9 := rfl
set_option maxRecDepth 100000 in
theorem get10 (v : Nat → Value) : (mkA v).tmps[70]?.getD undef = v 10 := rfl
set_option maxRecDepth 100000 in
theorem get11 (v : Nat → Value) : (mkA v).tmps[71]?.getD undef = v 11 := rfl
set_option maxRecDepth 100000 in
theorem get12 (v : Nat → Value) : (mkA v).tmps[72]?.getD undef = v 12 := rfl
set_option maxRecDepth 100000 in
theorem get13 (v : Nat → Value) : (mkA v).tmps[73]?.getD undef = v 13 := rfl
set_option maxRecDepth 100000 in
theorem get14 (v : Nat → Value) : (mkA v).tmps[74]?.getD undef = v 14 := rfl

theorem mk22 (w : World) : (Instr.makeSlice 22 (.int .i64 6) (.int .i64 6)).run Try.prog w = .ok (.slice (some ⟨w.heap.size, 0, none⟩) 6 6) (w.alloc (.cells (Array.replicate 48 (.int .i64 0)) 62)) := by kernel_rfl
theorem mk58 (w : World) : (Instr.makeSlice 58 (.int .i64 11) (.int .i64 11)).run Try.prog w = .ok (.slice (some ⟨w.heap.size, 0, none⟩) 11 11) (w.alloc (.cells (Array.replicate 44 (.int .i64 0)) 24)) := by kernel_rfl

theorem zeros_at (W : World) {n : Nat} (t : TypeId) {i : Nat} (h : i < n) : (W.alloc (.cells (Array.replicate n (.int .i64 0)) t)).cell? ⟨W.heap.size, i, none⟩ = some (.int .i64 0) := by
  have e := heap_alloc_new W (.cells (Array.replicate n (.int .i64 0)) t)
  generalize W.alloc (.cells (Array.replicate n (.int .i64 0)) t) = W2 at *
  show (match W2.heap[W.heap.size]? with | some (Obj.cells c _ _) => c[i]? | _ => none) = _
  rw [e]
  simp [h]
theorem bad1_new (W : World) : MarksAt (W.alloc (.cells (Array.replicate 48 (.int .i64 0)) 62)) (.slice (some ⟨W.heap.size, 0, none⟩) 6 6) bad1 := by
  refine ⟨_, 6, rfl, fun i m hi => ⟨_, 0, rfl, ?_⟩⟩
  have hlt : i < 6 := (List.getElem?_eq_some_iff.1 hi).1
  have hm : m = ⟨⟨0, 0⟩, ⟨0, 0⟩, ⟨0, 0⟩, ⟨0, 0⟩⟩ := by
    have := List.mem_of_getElem? hi
    exact List.eq_of_mem_replicate this
  subst hm
  unfold MkAt
  exact ⟨zeros_at W 62 (by omega), zeros_at W 62 (by omega), zeros_at W 62 (by omega), zeros_at W 62 (by omega), zeros_at W 62 (by omega), zeros_at W 62 (by omega), zeros_at W 62 (by omega), zeros_at W 62 (by omega)⟩
theorem bar11_new (W : World) : BrsAt (W.alloc (.cells (Array.replicate 44 (.int .i64 0)) 24)) (.slice (some ⟨W.heap.size, 0, none⟩) 11 11) (List.replicate 11 ⟨0, 0, 0, 0⟩) := by
  refine ⟨_, 11, rfl, fun i m hi => ⟨_, 0, rfl, ?_⟩⟩
  have hlt : i < 11 := (List.getElem?_eq_some_iff.1 hi).1
  have hm : m = ⟨0, 0, 0, 0⟩ := List.eq_of_mem_replicate (List.mem_of_getElem? hi)
  subst hm
  unfold BrAt
  exact ⟨zeros_at W 24 (by omega), zeros_at W 24 (by omega), zeros_at W 24 (by omega), zeros_at W 24 (by omega)⟩
theorem mark1_new (W : World) (m : Mk) : MarksAt (W.alloc (.cells #[.int .i64 m.s0.lo, .int .i64 m.s0.hi, .int .i64 m.s1.lo, .int .i64 m.s1.hi, .int .i64 m.s2.lo, .int .i64 m.s2.hi, .int .i64 m.s3.lo, .int .i64 m.s3.hi] 62)) (.slice (some ⟨W.heap.size, 0, none⟩) 1 1) [m] := by
  refine ⟨_, 1, rfl, fun i m' hi => ?_⟩
  cases i with
  | zero =>
    simp only [List.getElem?_cons_zero, Option.some.injEq] at hi
    subst hi
    exact ⟨_, 0, rfl, by unfold MkAt; exact ⟨by go_simp, by go_simp, by go_simp, by go_simp, by go_simp, by go_simp, by go_simp, by go_simp⟩⟩
  | succ i => simp at hi
theorem bads_new {W : World} {u1 u2 u3 u4 : Value} (h1 : MarksAt W u1 bad1) (h2 : MarksAt W u2 bad2) (h3 : MarksAt W u3 bad3) (h4 : MarksAt W u4 bad4) :
    BadsAt (.slice (some ⟨W.heap.size, 0, none⟩) 5 5) (W.alloc (.cells #[.slice none 0 0, u1, u2, u3, u4] 22)) :=
  ⟨W.heap.size, u1, u2, u3, u4, rfl, ⟨by go_simp, by go_simp, by go_simp, by go_simp, by go_simp⟩, h1.below (below_alloc _), h2.below (below_alloc _), h3.below (below_alloc _), h4.below (below_alloc _)⟩
theorem gradeR_bad {ms : List Mk} (h : marksB ms = false) (x : Br) : gradeR ms x = (0, 70) := by unfold gradeR; rw [h]; rfl
theorem promiseR_bad {ms : List Mk} (h : marksB ms = false) (N : Int) (r : Rl) (xs : List Br) : promiseR ms N r xs = (0, 0, 70) := by unfold promiseR; rw [h]; rfl
/-- Each row of the bad brands is bad. -/
theorem BadsAt.at {x : Value} {w : World} (h : BadsAt x w) : ∃ g : Nat, x = .slice (some ⟨g, 0, none⟩) 5 5 ∧ ∀ i, i < 5 → ∃ (u : Value) (B : List Mk), w.cell? ⟨g, i, none⟩ = some u ∧ MarksAt w u B ∧ marksB B = false ∧ B.length ≤ 6 := by
  obtain ⟨g, u1, u2, u3, u4, hx, ⟨c0, c1, c2, c3, c4⟩, m1, m2, m3, m4⟩ := h
  refine ⟨g, hx, fun i hi => ?_⟩
  rcases (by omega : i = 0 ∨ i = 1 ∨ i = 2 ∨ i = 3 ∨ i = 4) with rfl | rfl | rfl | rfl | rfl
  · exact ⟨_, [], c0, ⟨none, 0, rfl, fun i m hi => by simp at hi⟩, by decide, by decide⟩
  · exact ⟨_, _, c1, m1, by decide, by decide⟩
  · exact ⟨_, _, c2, m2, by decide, by decide⟩
  · exact ⟨_, _, c3, m3, by decide, by decide⟩
  · exact ⟨_, _, c4, m4, by decide, by decide⟩

/-- A rule in a row of rules. -/
def RuleOff (w : World) (b off : Nat) (r : Rl) : Prop :=
  w.cell? ⟨b, off, none⟩ = some (.int .i64 r.g) ∧ w.cell? ⟨b, off + 1, none⟩ = some (.int .i64 r.po) ∧ w.cell? ⟨b, off + 2, none⟩ = some (.int .i64 r.pi) ∧ w.cell? ⟨b, off + 3, none⟩ = some (.int .i64 r.b) ∧ w.cell? ⟨b, off + 4, none⟩ = some (.int .i64 r.fo) ∧ w.cell? ⟨b, off + 5, none⟩ = some (.int .i64 r.fi)
theorem RuleOff.lt {w : World} {b off : Nat} {r : Rl} (h : RuleOff w b off r) : b < w.heap.size := World.block_lt_of_cell? w _ h.1
theorem RuleOff.below {w w' : World} {b off : Nat} {r : Rl} (h : RuleOff w b off r) (hB : Below w.heap.size w w') : RuleOff w' b off r := by
  have k : ∀ i, w'.cell? ⟨b, i, none⟩ = w.cell? ⟨b, i, none⟩ := fun i => World.cell?_of_block (a := ⟨b, i, none⟩) (hB.block _ h.lt)
  obtain ⟨h0, h1, h2, h3, h4, h5⟩ := h
  exact ⟨(k _).trans h0, (k _).trans h1, (k _).trans h2, (k _).trans h3, (k _).trans h4, (k _).trans h5⟩
abbrev rulesO : Obj := .cells #[.int .i64 0, .int .i64 0, .int .i64 0, .int .i64 0, .int .i64 0, .int .i64 0, .int .i64 5, .int .i64 9, .int .i64 10, .int .i64 5, .int .i64 1, .int .i64 10, .int .i64 1, .int .i64 9, .int .i64 10, .int .i64 11, .int .i64 1, .int .i64 10, .int .i64 1, .int .i64 9, .int .i64 0, .int .i64 5, .int .i64 1, .int .i64 10, .int .i64 1, .int .i64 9, .int .i64 10, .int .i64 5, .int .i64 11, .int .i64 10, .int .i64 (-1), .int .i64 9, .int .i64 10, .int .i64 5, .int .i64 1, .int .i64 10, .int .i64 1, .int .i64 9, .int .i64 10, .int .i64 5, .int .i64 1, .int .i64 10] 39
theorem rules_cell (W : World) (j : Nat) {u : Value} (h : (#[.int .i64 0, .int .i64 0, .int .i64 0, .int .i64 0, .int .i64 0, .int .i64 0, .int .i64 5, .int .i64 9, .int .i64 10, .int .i64 5, .int .i64 1, .int .i64 10, .int .i64 1, .int .i64 9, .int .i64 10, .int .i64 11, .int .i64 1, .int .i64 10, .int .i64 1, .int .i64 9, .int .i64 0, .int .i64 5, .int .i64 1, .int .i64 10, .int .i64 1, .int .i64 9, .int .i64 10, .int .i64 5, .int .i64 11, .int .i64 10, .int .i64 (-1), .int .i64 9, .int .i64 10, .int .i64 5, .int .i64 1, .int .i64 10, .int .i64 1, .int .i64 9, .int .i64 10, .int .i64 5, .int .i64 1, .int .i64 10] : Array Value)[j]? = some u) : (W.alloc rulesO).cell? ⟨W.heap.size, j, none⟩ = some u := by
  have e := heap_alloc_new W rulesO
  generalize W.alloc rulesO = W2 at *
  show (match W2.heap[W.heap.size]? with | some (Obj.cells c _ _) => c[j]? | _ => none) = _
  rw [e]
  exact h
theorem rules_free (W : World) (j : Nat) : (W.alloc rulesO).frozen? ⟨W.heap.size, j, none⟩ = false := by go_simp
/-- The seven rules are bad. -/
theorem rules_final {W w3 : World} (h : Below (W.alloc rulesO).heap.size (W.alloc rulesO) w3) : ∀ i, i < 7 → ∃ r, RuleOff ((w3.setCell ⟨W.heap.size, 37, none⟩ (.int .i64 5)).setCell ⟨W.heap.size, 38, none⟩ (.int .i64 1001)) W.heap.size (i * 6) r ∧ ruleB 10 r = false := by
  have hR : W.heap.size < (W.alloc rulesO).heap.size := by simp
  have k0 : ∀ j u, (W.alloc rulesO).cell? ⟨W.heap.size, j, none⟩ = some u → w3.cell? ⟨W.heap.size, j, none⟩ = some u := fun j u hc => (World.cell?_of_block (a := ⟨W.heap.size, j, none⟩) (h.block _ hR)).trans hc
  have k1 : ∀ j u, j ≠ 37 → j ≠ 38 → w3.cell? ⟨W.heap.size, j, none⟩ = some u → ((w3.setCell ⟨W.heap.size, 37, none⟩ (.int .i64 5)).setCell ⟨W.heap.size, 38, none⟩ (.int .i64 1001)).cell? ⟨W.heap.size, j, none⟩ = some u := fun j u h37 h38 hc => by
    rw [World.cell?_setCell_other _ _ _ _ (fun he => by injection he with _ he _; omega), World.cell?_setCell_other _ _ _ _ (fun he => by injection he with _ he _; omega)]; exact hc
  have k : ∀ j u, j ≠ 37 → j ≠ 38 → (#[.int .i64 0, .int .i64 0, .int .i64 0, .int .i64 0, .int .i64 0, .int .i64 0, .int .i64 5, .int .i64 9, .int .i64 10, .int .i64 5, .int .i64 1, .int .i64 10, .int .i64 1, .int .i64 9, .int .i64 10, .int .i64 11, .int .i64 1, .int .i64 10, .int .i64 1, .int .i64 9, .int .i64 0, .int .i64 5, .int .i64 1, .int .i64 10, .int .i64 1, .int .i64 9, .int .i64 10, .int .i64 5, .int .i64 11, .int .i64 10, .int .i64 (-1), .int .i64 9, .int .i64 10, .int .i64 5, .int .i64 1, .int .i64 10, .int .i64 1, .int .i64 9, .int .i64 10, .int .i64 5, .int .i64 1, .int .i64 10] : Array Value)[j]? = some u → ((w3.setCell ⟨W.heap.size, 37, none⟩ (.int .i64 5)).setCell ⟨W.heap.size, 38, none⟩ (.int .i64 1001)).cell? ⟨W.heap.size, j, none⟩ = some u := fun j u h37 h38 hc => k1 j u h37 h38 (k0 j u (rules_cell W j hc))
  have c37 : ((w3.setCell ⟨W.heap.size, 37, none⟩ (.int .i64 5)).setCell ⟨W.heap.size, 38, none⟩ (.int .i64 1001)).cell? ⟨W.heap.size, 37, none⟩ = some (.int .i64 5) := by
    rw [World.cell?_setCell_other _ _ _ _ (fun he => by injection he with _ he _; omega)]
    exact World.cell?_setCell_same _ _ _ (k0 37 _ (rules_cell W 37 rfl))
  have c38 : ((w3.setCell ⟨W.heap.size, 37, none⟩ (.int .i64 5)).setCell ⟨W.heap.size, 38, none⟩ (.int .i64 1001)).cell? ⟨W.heap.size, 38, none⟩ = some (.int .i64 1001) := by
    have h38 : (w3.setCell ⟨W.heap.size, 37, none⟩ (.int .i64 5)).cell? ⟨W.heap.size, 38, none⟩ = some (.int .i64 10) := by
      rw [World.cell?_setCell_other _ _ _ _ (fun he => by injection he with _ he _; omega)]
      exact k0 38 _ (rules_cell W 38 rfl)
    exact World.cell?_setCell_same _ _ _ h38
  intro i hi
  rcases (by omega : i = 0 ∨ i = 1 ∨ i = 2 ∨ i = 3 ∨ i = 4 ∨ i = 5 ∨ i = 6) with rfl | rfl | rfl | rfl | rfl | rfl | rfl
  · exact ⟨⟨0, 0, 0, 0, 0, 0⟩, ⟨k 0 _ (by omega) (by omega) rfl, k 1 _ (by omega) (by omega) rfl, k 2 _ (by omega) (by omega) rfl, k 3 _ (by omega) (by omega) rfl, k 4 _ (by omega) (by omega) rfl, k 5 _ (by omega) (by omega) rfl⟩, by decide⟩
  · exact ⟨⟨5, 9, 10, 5, 1, 10⟩, ⟨k 6 _ (by omega) (by omega) rfl, k 7 _ (by omega) (by omega) rfl, k 8 _ (by omega) (by omega) rfl, k 9 _ (by omega) (by omega) rfl, k 10 _ (by omega) (by omega) rfl, k 11 _ (by omega) (by omega) rfl⟩, by decide⟩
  · exact ⟨⟨1, 9, 10, 11, 1, 10⟩, ⟨k 12 _ (by omega) (by omega) rfl, k 13 _ (by omega) (by omega) rfl, k 14 _ (by omega) (by omega) rfl, k 15 _ (by omega) (by omega) rfl, k 16 _ (by omega) (by omega) rfl, k 17 _ (by omega) (by omega) rfl⟩, by decide⟩
  · exact ⟨⟨1, 9, 0, 5, 1, 10⟩, ⟨k 18 _ (by omega) (by omega) rfl, k 19 _ (by omega) (by omega) rfl, k 20 _ (by omega) (by omega) rfl, k 21 _ (by omega) (by omega) rfl, k 22 _ (by omega) (by omega) rfl, k 23 _ (by omega) (by omega) rfl⟩, by decide⟩
  · exact ⟨⟨1, 9, 10, 5, 11, 10⟩, ⟨k 24 _ (by omega) (by omega) rfl, k 25 _ (by omega) (by omega) rfl, k 26 _ (by omega) (by omega) rfl, k 27 _ (by omega) (by omega) rfl, k 28 _ (by omega) (by omega) rfl, k 29 _ (by omega) (by omega) rfl⟩, by decide⟩
  · exact ⟨⟨-1, 9, 10, 5, 1, 10⟩, ⟨k 30 _ (by omega) (by omega) rfl, k 31 _ (by omega) (by omega) rfl, k 32 _ (by omega) (by omega) rfl, k 33 _ (by omega) (by omega) rfl, k 34 _ (by omega) (by omega) rfl, k 35 _ (by omega) (by omega) rfl⟩, by decide⟩
  · exact ⟨⟨1, 5, 1001, 5, 1, 10⟩, ⟨k 36 _ (by omega) (by omega) rfl, c37, c38, k 39 _ (by omega) (by omega) rfl, k 40 _ (by omega) (by omega) rfl, k 41 _ (by omega) (by omega) rfl⟩, by decide⟩
/-- The cells of a rule; all else as it was. -/
abbrev KQ (W0 : World) (B o : Nat) (r : Rl) (w' : World) : Prop := w'.cell? ⟨B, o, none⟩ = some (.int .i64 r.g) ∧ w'.cell? ⟨B, o + 1, none⟩ = some (.int .i64 r.po) ∧ w'.cell? ⟨B, o + 2, none⟩ = some (.int .i64 r.pi) ∧ w'.cell? ⟨B, o + 3, none⟩ = some (.int .i64 r.b) ∧ w'.cell? ⟨B, o + 4, none⟩ = some (.int .i64 r.fo) ∧ w'.cell? ⟨B, o + 5, none⟩ = some (.int .i64 r.fi) ∧ Below W0.heap.size W0 w'
theorem KQ.of {W0 w' : World} {B o : Nat} {r : Rl} (h : RuleOff W0 B o r) (hB : Below W0.heap.size W0 w') : KQ W0 B o r w' := by
  obtain ⟨h0, h1, h2, h3, h4, h5⟩ := h.below hB
  exact ⟨h0, h1, h2, h3, h4, h5, hB⟩
theorem KQ.drew {W0 w' : World} {B o : Nat} {r : Rl} (h : KQ W0 B o r w') : KQ W0 B o r w'.drew := by
  obtain ⟨h0, h1, h2, h3, h4, h5, hb⟩ := h
  exact ⟨h0, h1, h2, h3, h4, h5, hb.drew⟩
theorem KQ.below {W0 w' w2 : World} {B o : Nat} {r : Rl} (h0 : RuleOff W0 B o r) (h : KQ W0 B o r w') (hB : Below w'.heap.size w' w2) : KQ W0 B o r w2 := KQ.of h0 (below_trans h.2.2.2.2.2.2 hB)
theorem keepsR_bad {N : Int} {r : Rl} (h1 : inB N 1 40 = true) (h : ruleB N r = false) (o a : Int) : keepsR N r o a = (false, 71) := by unfold keepsR; rw [h1, h]; rfl
theorem fewestR_bad {N : Int} {r : Rl} (h1 : inB N 1 40 = true) (h : ruleB N r = false) : fewestR N r = (0, 0, 71) := by unfold fewestR; rw [h1, h]; rfl
theorem promiseR_rule {ms : List Mk} {N : Int} {r : Rl} (h0 : marksB ms = true) (h1 : inB N 1 40 = true) (h : ruleB N r = false) (xs : List Br) : promiseR ms N r xs = (0, 0, 71) := by unfold promiseR; rw [h0, h1, h]; rfl

/-- 'opened', with its capacity. -/
theorem opened_cap (w : World) :
    Calls Try.prog 52 #[] w fun e w' => ∃ g : Nat, e = .returned (.slice (some ⟨g, 0, none⟩) 6 6) ∧ BrsAt w' (.slice (some ⟨g, 0, none⟩) 6 6) chOpened ∧ Below w.heap.size w w' := by
  have hB := Below.refl w.heap.size w
  go_enter Try.func52, Try.ntmps52
  go_wp2_with (first | (go_at_call 53; refine (full_is _).mono ?_; rintro e w1 ⟨rfl, hBn⟩; replace hB := below_trans hB hBn; clear hBn) | (go_at_call 54; refine (spent_is _).mono ?_; rintro e w1 ⟨rfl, hBn⟩; replace hB := below_trans hB hBn; clear hBn) | (go_at_call 61; refine (mattie_is _).mono ?_; rintro e w1 ⟨rfl, hBn⟩; replace hB := below_trans hB hBn; clear hBn))
  go_ret
  refine ⟨_, rfl, ⟨_, _, rfl, fun i m hi => ⟨_, _, rfl, ?_⟩⟩, below_more hB _⟩
  have hlt : i < 6 := (List.getElem?_eq_some_iff.1 hi).1
  obtain rfl | rfl | rfl | rfl | rfl | rfl : i = 0 ∨ i = 1 ∨ i = 2 ∨ i = 3 ∨ i = 4 ∨ i = 5 := by omega
  all_goals
    simp only [List.getElem?_cons_zero, List.getElem?_cons_succ, Option.some.injEq] at hi
    subst hi
    unfold BrAt
    go_simp
theorem brands_cap (w : World) :
    Calls Try.prog 51 #[] w fun e w' => ∃ g : Nat, e = .returned (.slice (some ⟨g, 0, none⟩) 2 2) ∧ MarksAt w' (.slice (some ⟨g, 0, none⟩) 2 2) chMarks ∧ Below w.heap.size w w' := by
  have hB := Below.refl w.heap.size w
  go_enter Try.func51, Try.ntmps51
  go_wp2_with (go_at_call 49; refine (to_is _ _ _).mono ?_; rintro e w1 ⟨rfl, hBn⟩; replace hB := below_trans hB hBn; clear hBn)
  go_ret
  refine ⟨_, rfl, ⟨_, _, rfl, fun i m hi => ⟨_, _, rfl, ?_⟩⟩, below_more hB _⟩
  have hlt : i < 2 := (List.getElem?_eq_some_iff.1 hi).1
  obtain rfl | rfl : i = 0 ∨ i = 1 := by omega
  all_goals
    simp only [List.getElem?_cons_zero, List.getElem?_cons_succ, Option.some.injEq] at hi
    subst hi
    unfold MkAt
    go_simp
theorem brs_four {w : World} {g : Nat} (h : BrsAt w (.slice (some ⟨g, 0, none⟩) 6 6) chOpened) (c : Nat) : BrsAt w (.slice (some ⟨g, 0, none⟩) 4 c) [chFull, chFull, chFull, chFull] := by
  obtain ⟨a, cap, hv, hm⟩ := h
  injection hv with hv _ _
  refine ⟨_, c, rfl, fun i x hi => ?_⟩
  have hlt : i < 4 := (List.getElem?_eq_some_iff.1 hi).1
  have hi2 : chOpened[i]? = some x := by
    obtain rfl | rfl | rfl | rfl : i = 0 ∨ i = 1 ∨ i = 2 ∨ i = 3 := by omega
    all_goals exact hi
  obtain ⟨b, off, hb, hc⟩ := hm i x hi2
  exact ⟨b, off, hv.trans hb, hc⟩
theorem marks_first {w : World} {g : Nat} (h : MarksAt w (.slice (some ⟨g, 0, none⟩) 2 2) chMarks) (c : Nat) : MarksAt w (.slice (some ⟨g, 0, none⟩) 1 c) [⟨⟨250, 400⟩, ⟨150, 300⟩, ⟨120, 200⟩, ⟨900, 1000⟩⟩] := by
  obtain ⟨a, cap, hv, hm⟩ := h
  injection hv with hv _ _
  refine ⟨_, c, rfl, fun i x hi => ?_⟩
  have hlt : i < 1 := (List.getElem?_eq_some_iff.1 hi).1
  obtain rfl : i = 0 := by omega
  obtain ⟨b, off, hb, hc⟩ := hm 0 x hi
  exact ⟨b, off, hv.trans hb, hc⟩
theorem bar_one (W : World) : BrsAt (W.alloc (.cells #[.int .i64 (-1), .int .i64 0, .int .i64 0, .int .i64 0] 24)) (.slice (some ⟨W.heap.size, 0, none⟩) 1 1) [⟨-1, 0, 0, 0⟩] := by
  refine ⟨_, 1, rfl, fun i x hi => ?_⟩
  cases i with
  | zero =>
    simp only [List.getElem?_cons_zero, Option.some.injEq] at hi
    subst hi
    exact ⟨_, 0, rfl, by unfold BrAt; exact ⟨by go_simp, by go_simp, by go_simp, by go_simp⟩⟩
  | succ i => simp at hi

theorem term_turn (k : Int) : term 40 20 20 k = term 40 20 20 (20 - k) := by
  unfold term
  rw [show (40 : Int) - 20 = 20 by decide, show (20 : Int) - (20 - k) = k by omega, Int.mul_comm]
/-- Less than half of all choices find so few. -/
theorem half_less : fnd 40 20 20 0 9 * 2 < cnt 40 20 := by
  have hC : fnd 40 20 20 0 20 = cnt 40 20 := fnd_all 40 20 (by decide) 20 (by decide)
  rw [← hC]
  have p10 : 0 < term 40 20 20 10 := Int.mul_pos (cnt_pos 20 10 (by decide) (by decide)) (cnt_pos (40 - 20) (20 - 10) (by decide) (by decide))
  have e0 := term_turn 0
  have e1 := term_turn 1
  have e2 := term_turn 2
  have e3 := term_turn 3
  have e4 := term_turn 4
  have e5 := term_turn 5
  have e6 := term_turn 6
  have e7 := term_turn 7
  have e8 := term_turn 8
  have e9 := term_turn 9
  have f9 : fnd 40 20 20 0 9 = 0 + term 40 20 20 0 + term 40 20 20 1 + term 40 20 20 2 + term 40 20 20 3 + term 40 20 20 4 + term 40 20 20 5 + term 40 20 20 6 + term 40 20 20 7 + term 40 20 20 8 + term 40 20 20 9 := rfl
  have f20 : fnd 40 20 20 0 20 = 0 + term 40 20 20 0 + term 40 20 20 1 + term 40 20 20 2 + term 40 20 20 3 + term 40 20 20 4 + term 40 20 20 5 + term 40 20 20 6 + term 40 20 20 7 + term 40 20 20 8 + term 40 20 20 9 + term 40 20 20 10 + term 40 20 20 11 + term 40 20 20 12 + term 40 20 20 13 + term 40 20 20 14 + term 40 20 20 15 + term 40 20 20 16 + term 40 20 20 17 + term 40 20 20 18 + term 40 20 20 19 + term 40 20 20 20 := rfl
  rw [f9, f20]
  simp only [show (20 : Int) - 0 = 20 by decide, show (20 : Int) - 1 = 19 by decide, show (20 : Int) - 2 = 18 by decide, show (20 : Int) - 3 = 17 by decide, show (20 : Int) - 4 = 16 by decide, show (20 : Int) - 5 = 15 by decide, show (20 : Int) - 6 = 14 by decide, show (20 : Int) - 7 = 13 by decide, show (20 : Int) - 8 = 12 by decide, show (20 : Int) - 9 = 11 by decide] at e0 e1 e2 e3 e4 e5 e6 e7 e8 e9
  omega
theorem half_is : lessB (fnd 40 20 20 0 9 / gcdI (fnd 40 20 20 0 9) (cnt 40 20)) (cnt 40 20 / gcdI (fnd 40 20 20 0 9) (cnt 40 20)) 1 2 = true := by
  rw [less_red (fnd_nonneg 40 20 20 0 9) (cnt_pos 40 20 (by decide) (by decide))]
  have := half_less
  rw [decide_eq_true_iff]
  omega

end Go.Proofs.Ythpllmefbhjmmaa
